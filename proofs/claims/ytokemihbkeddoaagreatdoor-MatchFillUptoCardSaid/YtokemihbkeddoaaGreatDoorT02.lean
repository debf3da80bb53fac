/-
Runs of tactics that several proofs share.
-/
import Derived.ArgAppend
import Derived.Below
import Derived.BigQuiet
import Derived.BigRegionIn
import Derived.CallsIn
import Derived.Carry
import Derived.ChangeMaps5
import Derived.ChangeSame
import Derived.ChangeStays
import Derived.ControlIn
import Derived.Deep.AppendLies
import Derived.Deep.Cut
import Derived.Deep.DeepCutAuto
import Derived.Deep.DeepHandedRow
import Derived.Deep.DeepWitnessRowRef
import Derived.Deep.Fields
import Derived.Deep.LoopGhost
import Derived.Deep.QuietTactic
import Derived.Deep.Slices
import Derived.Deep.Upon
import Derived.Defers
import Derived.Ground.GgzProg
import Derived.Ground.SlgmProg
import Derived.JoinedCond
import Derived.Laws.World
import Derived.Lib.Hide
import Derived.Lib.ItoaMem
import Derived.Lib.ItoaNum
import Derived.Lib.LaidTab
import Derived.Lib.LaidU8
import Derived.Lib.SliceRun
import Derived.Lib.SmallJoins
import Derived.LoopIn
import Derived.Maps.OwnIn
import Derived.Maps.OwnSet
import Derived.OpenShut
import Derived.OrdersHeld
import Derived.OrdersIn
import Derived.OwnWalkIn
import Derived.ProofKit
import Derived.RangeFuncBound
import Derived.RangeFuncBox
import Derived.RangeFuncLeaves
import Derived.RangeFuncNested
import Derived.RangeFuncRecord
import Derived.RegionIn
import Derived.Shelf.Abstract
import Derived.Shelf.AbstractIn
import Derived.Shelf.SlIter.Nil
import Derived.Shelf.SortM.Plain
import Derived.Shelf.SortM.SortNone
import Derived.ShutString
import Derived.SizedLaws
import Derived.SliceStrings
import Derived.Sort.KeysCollected
import Derived.Sort.Walk0
import Derived.Stop.RegionWithIn
import Derived.Tactics
import Derived.TacticsIn
import Derived.TacticsInMore
import Derived.WalkKit
import Derived.WalkLawsBesides
import Derived.WalkMore
import Derived.WalkSpells
namespace Go.Proofs.YtokemihbkeddoaaGreatDoor
open Go Go.RowKit Lib
set_option maxRecDepth 100000
variable {G:Prop}
theorem pm215(h:G:=by
 clear hS xb k0 r0 mlt hlk pf Ic hg L7 dD ji hF cB ar QB ck QC hbk;have iz:=fd;go_wp2;clear dk;refine (wpIn_wide (n:=3)).1 ?_;refine lH S 12 dU fun jC bN=>?_
 first
 |clear pp215;refine bC 0 19 (.pointer (some ⟨w.heap.size+1,0,none⟩)) rfl bN fun cr=>?_
  simp only[ag];refine dh 1 20 (.slice ra j rc) rfl (fun V hX=>by obtain ⟨h0,h1,h2⟩:=ff V hX;go_simp) cr fun f_=>?_;simp only[ag];refine bC 2 21 (.string ⟨nm.toArray⟩) rfl f_ fun gQ=>?_;simp only[ag];refine bC 3 22 (.pointer (some ⟨kb,0,none⟩)) rfl gQ fun iK=>?_;simp only[ag];refine bC 4 23 (.pointer (some ⟨kb,0,none⟩)) rfl iK fun jF=>?_;simp only[ag];refine bC 5 24 (.pointer (some ⟨kb,0,none⟩)) rfl jF fun j7=>?_;simp only[ag];refine dh 6 25 (.map (some mF)) rfl (fun V hX=>by obtain ⟨h0,h1,h2⟩:=ff V hX;go_simp) j7 fun mi=>?_;simp only[ag];refine bC 7 26 (.string ⟨nm.toArray⟩) rfl mi fun rF=>?_;simp only[ag];refine dh 8 27 (.agg #[.int .u8 g0,.string g1,.slice g2 g3 g4,.slice g5 g6 g7]) rfl (fun V hX=>by obtain ⟨h0,h1,h2⟩:=ff V hX;go_simp) rF fun Hv=>?_;simp only[ag];refine bZ 9 rfl fun K hK=>?_;go_simp;refine aK.2 ((HC.o _ (by have h:=bN;rw[dp.o]at h;exact h)).mono ?_);rintro _ A ⟨⟨p0,p1,p2,p3,p4,p5,p6,p7⟩,rfl,hp,hA⟩;have pp94:=();exact pm94
 |refine bC 0 45 (.pointer (some ⟨w.heap.size+1,1,none⟩)) rfl bN fun cr=>?_
  simp only[ag];refine dh 1 46 (.slice ra j rc) rfl (fun V hX=>by obtain ⟨h0,h1,h2⟩:=ff V hX;go_simp) cr fun f_=>?_;simp only[ag];refine bC 2 47 (.string ⟨nm.toArray⟩) rfl f_ fun gQ=>?_;simp only[ag];refine bC 3 48 (.pointer (some ⟨kb,0,none⟩)) rfl gQ fun iK=>?_;simp only[ag];refine bC 4 49 (.pointer (some ⟨kb,0,none⟩)) rfl iK fun jF=>?_;simp only[ag];refine bC 5 50 (.pointer (some ⟨kb,1,none⟩)) rfl jF fun j7=>?_;simp only[ag];refine dh 6 51 (.map (some mT)) rfl (fun V hX=>by obtain ⟨h0,h1,h2⟩:=ff V hX;go_simp) j7 fun mi=>?_;simp only[ag];refine bC 7 52 (.string ⟨nm.toArray⟩) rfl mi fun rF=>?_;simp only[ag];refine dh 8 53 (.agg #[.bool g0,.string g1,.slice g2 g3 g4]) rfl (fun V hX=>by obtain ⟨h0,h1,h2⟩:=ff V hX;go_simp) rF fun Hv=>?_;simp only[ag];refine bZ 9 rfl fun K hK=>?_;go_simp;refine aK.2 ((HC.o _ (by have h:=bN;rw[dp.o]at h;exact h)).mono ?_);rintro _ A ⟨⟨p0,p1,p2,p3,p4⟩,rfl,hp,hA⟩;exact pm94):G:=h
theorem pm216(h:G:=by
 have l2:=(hlk (W1.alloc (.cells #[.int .u8 0,.string ⟨#[]⟩,.slice none 0 0,.slice none 0 0] 36)).drew (bE _ _ _ (by have:=tO.fs.lt;omega))).1
 first
 |clear pp216;obtain ⟨W2,a_⟩:=am (W1.alloc (.cells #[.int .u8 0,.string ⟨#[]⟩,.slice none 0 0,.slice none 0 0] 36)).drew;have HE:=ac (show R=(k,71) by rw[HR.o];simp only[hg]);have cw:=ac (show Below W.heap.size W W2 by rw[a_];exact hb1.tr pY.drew);clear qN hR hp RZ RY R1 WN WO hs hf iF mK hc dZ ea ii sd qC hl gX bY hb1 ju hfit lC su AZ rI Gv tO hlk hg pY e_ Jg FG bl yo Ih Oq x1;have pp157a:=();exact pm157
 |obtain ⟨W2,a_⟩:=am (W1.alloc (.cells #[.int .u8 Fw,.string Fx,.slice Fy Fz FA,.slice FB FC FD] 36)).drew;have bB:Below W1.heap.size W1 W2:=by rw[a_];exact cO.drew
  have xw:=hb1.tr bB;have x2:W2.heap[W1.heap.size]?=some (.cells #[.int .u8 Fw,.string Fx,.slice Fy Fz FA,.slice FB FC FD] 36 (0,0)):=by rw[a_];exact ai rfl
  have xp:=bJ bB x1;obtain ⟨I,hI⟩:=am (eT ps.reverse [] F);have Kf:=HR.o;rw[hg,<-hI]at Kf;simp only at Kf;have CI:=Ea ⟨⟨16,⟨n.toArray⟩,sa,n1,sc,sb,m1,se⟩,⟨fo,fn,fa,fl,fc,fb,fm,fe⟩,ca,cl,cc⟩ ps hl gX F hfit [] [] (by have:=hfit.1;simp;omega) (fun _=>rfl) (.slice none 0 0) (fun b=>¬M b) W2 ⟨fo,fn,fa,fl,fc,fb,fm,fe⟩ (hc.1.later xw) (En _) (hf.later xw);rw[<-hI]at CI;simp only[PlQ.val,PlQ.cells,FQ.val]at CI;have HC:=ac CI;have iy:W1.heap.size<W2.heap.size:=(bz x2);have SP:fk (fun b=>¬M b) (fun b=>¬M b/\b≠W1.heap.size) W1 W2:=fun b hb hlt=>⟨⟨hb,by omega⟩,bB.block b hlt⟩
  have zk:=aG Ic (pf.move SP);have yN:=fE tO.ltb tO.fs.lt tO.ts.lt iy ju;have NH:=ac AZ;have H2:=cG bB xw x2 xp;have Z8:=ac (tO.move SP (bB.block _ tO.ltb) (bB.block _ tO.fs.lt) (bB.block _ tO.ts.lt));have UJ:=ac (show ∀ im,I=some im->goodF im from fun im h=>AX HP.o (by rw[<-hI];exact h));have KF:=ac Kf;clear qN hR hp RZ RY R1 WN WO hs hf iF mK hc dZ ea ii sd qC hl gX bY hb1 ju hfit lC su AZ rI Gv tO hlk hg pY e_ Jg FG bl yo Ih Oq x1 CI Kf hI pf Ic bB xw x2 xp iy SP;have pp157b:=();exact pm157):G:=h
theorem pm217(h:G:=by
 have l2:=(hlk (W5.alloc (.cells #[.int .u8 0,.string ⟨#[]⟩,.slice none 0 0,.slice none 0 0] 36)).drew (bE _ _ _ (by have:=jG.fs.lt;omega))).1
 first
 |clear pp217;obtain ⟨W6,dm⟩:=am (W5.alloc (.cells #[.int .u8 0,.string ⟨#[]⟩,.slice none 0 0,.slice none 0 0] 36)).drew;have kN:Below W5.heap.size W5 W6:=by rw[dm];exact bm.drew
  have Dn:Below W6.heap.size W6 W6.drew:=(aj _ _).drew;have PU:=(jG.later kN).later Dn;obtain ⟨w7,cR,AR,ox,hs7⟩:=PU.storeF (fun h=>h HG.o.1) (by have:=HB.o.1;omega) (x:=n) (by have:=HF.o.2.2.1;omega) ((Ib.later kN).later Dn) UJ.o (l':=fS n im k.fs) (fun y=>AQ hg y);have zaD:Kp (N2 mF mT) W6.drew w7:=ox.mono (fun b _ h=>.inl h);have r0:=aa kN g0;have r1:=aa Dn r0;have r2:=aa kN g2;have r3:=aa Dn r2;obtain ⟨q0,q1,q2,q3,_,_,_,_⟩:=dy x7;have r4:=aa kN q0;have r5:=aa Dn r4;have r6:=aa kN q1;have r7:=aa Dn r6;have r8:=aa kN q2;have r9:=aa Dn r8;have r10:=aa kN q3;have r11:=aa Dn r10;have HE:=ac (show R=({ k with fs:=fS n im k.fs },0) by rw[Kf];simp only[hg]);have UW:=aG AR ((Kp.below (((H3.o.1.tr nL).tr kN).tr Dn)).trans zaD);unfold FQ.val at cR;clear jG hlk PU AR ox zaD hs7 hg nL pW bm kN Dn x7 Ib Kf fv JP;go_region
  all_goals
   rw[<-dm];clear dm;go_wp2;go_region;go_wp2;go_ret;exact StepPost.good (nF+1) nT HE.o UW.o.2 (by omega) (by omega) UW.o.1
 |obtain ⟨W6,dm⟩:=am (W5.alloc (.cells #[.int .u8 Fw,.string Fx,.slice Fy Fz FA,.slice FB FC FD] 36)).drew;have kN:Below W5.heap.size W5 W6:=by rw[dm];exact cO.drew
  have x6:W6.heap[W5.heap.size]?=some (.cells #[.int .u8 Fw,.string Fx,.slice Fy Fz FA,.slice FB FC FD] 36 (0,0)):=by rw[dm];exact ai rfl
  obtain ⟨q0,q1,q2,q3,_,_,_,_⟩:=dy x7;obtain ⟨r0,r1,r2,r3⟩:=mu kN q0 q1 q2 q3;obtain ⟨r4,r5,r6,r7,_,_,_,_⟩:=dy x6;have CA:=vd g im [] (.slice none 0 0) _ _ W6 ⟨Fw,Fx,Fy,Fz,FA,FB,FC,FD⟩ ⟨p0,p1,p2,p3,p4,p5,p6,p7⟩ (by have:=Ic.nodes;simp[eq];omega) Ic.fit (pf.later kN) (Ib.later kN) (PairsV.nil W6);simp only[FQ.val,List.reverse_nil]at CA;have HE:=ac (show R=if cP [] g im then (k,0) else (k,70) by rw[Kf];simp only[hg]);obtain ⟨bb,cQ⟩:=am (cP [] g im);rw[<-cQ]at HE CA;have FE:=ac CA;have Kb:=aG (jG.later kN) ((H3.o.1.tr nL).tr kN);clear jG hlk hg nL pW bm kN x7 x6 Ib Kf fv JP CA cQ pf Ic;go_region
  all_goals
   rw[<-dm];clear dm;cases bb
   ·go_wp2_with (go_at_call 92;refine FE.o.mono ?_;rintro e w7 ⟨rfl,fW⟩;have H7:=ac fW;clear fW);go_ret;exact StepPost.bad HE.o (by decide) (Kp.below (Kb.o.2.tr H7.o))
   ·go_wp2_with (go_at_call 92;refine FE.o.mono ?_;rintro e w7 ⟨rfl,fW⟩;have H7:=ac fW;clear fW);go_ret;exact StepPost.good nF nT HE.o (Kp.below (Kb.o.2.tr H7.o)) (by omega) (by omega) (Kb.o.1.later H7.o)):G:=h
theorem pm218(h:G:=by
 obtain ⟨b1,o1,⟨xv,xn,xa,xl,xc⟩,rfl,hok,hx,c0,c1,c2⟩:=WV.o.get me
 first
 |clear pp218a;simp only at c0 c1 c2;obtain ⟨d0,d1,d2⟩:=j4 ar c0 c1 c2;have pp109a:=();exact pm109
 |clear pp218b;have w_:=ar;simp only at c0 c1 c2;obtain ⟨d0,d1,d2⟩:=j4 w_ c0 c1 c2;have pp109b:=();exact pm109
 |clear pp218c;have w_:=H2.o.1.tr ar;simp only at c0 c1 c2;obtain ⟨d0,d1,d2⟩:=j4 w_ c0 c1 c2;have pp109c:=();exact pm109
 |have w_:=H2.o.1.tr ar;simp only at c0 c1 c2;obtain ⟨d0,d1,d2⟩:=j4 w_ c0 c1 c2;have pp109d:=();exact pm109):G:=h
theorem pm219(h:G:=by
 obtain ⟨k,hk,rfl,hj,bj⟩:=hrel
 by_cases hlt:k<m0
 first
 |clear pp219a
  ·have bg:=ce gR.o hlt;obtain ⟨b,off,u,rfl,ja,hu,c0,c1,c2,c3⟩:=gt.o.get bg;have pp300b:=();exact pm300
  ·obtain rfl:k=m0:=by omega
   have ht:s.take k=s:=by rw[gR.o];exact cY
   rw[ht]at hj;have HH:=aG hj bj;clear hj bj ht;gi_wp2;go_ret;exact ⟨rfl,HH.o.1,HH.o.2⟩
 |clear pp219b
  ·have bg:=ce gR.o hlt;have pp28a:=();exact pm28
  ·obtain rfl:m0=k:=by omega
   have pp171:=();exact pm171
 |clear pp219c
  ·have bg:=ce gR.o hlt;have pp28b:=();exact pm28
  ·obtain rfl:m0=k:=by omega
   have pp171:=();exact pm171
 |clear pp219d
  ·have bg:=ce gR.o hlt;have pp28c:=();exact pm28
  ·obtain rfl:m0=k:=by omega
   exact pm171
 |clear pp219e
  ·have bg:=ce gR.o hlt;exact pm28
  ·obtain rfl:m0=k:=by omega
   exact pm171
 |clear pp219f
  ·have xF:k<ss.length:=by have:=gR.o;omega
   have pp104:=();exact pm104
  ·obtain rfl:k=m0:=by omega
   exact pm131
 |·have xF:k<ss.length:=by have:=gR.o;omega
   exact pm104
  ·obtain rfl:k=m0:=by omega
   exact pm131):G:=h
theorem pm220(h:G:=by
 go_enter Tryz.func14,Tryz.ntmps14;go_wp2;go_ret;exact ⟨by rw[HE.o];rfl,by rw[<-HWW.o];exact jj.o.1⟩):G:=h
theorem pm221(h:G:=by
 have HF:=ac hf;have CR:=ac (fun w:World=>hr ▸ eL s w)
 first
 |clear pp221a;have CF:=ac (fun w:World=>hf ▸ Lp s[0].toNat w);clear hr hf;have pp48a:=();exact pm48
 |clear pp221b;have CF:=ac (fun w:World=>hf ▸ Lp s[0].toNat w);clear hr hf;have pp48b:=();exact pm48
 |clear pp221c;have CF:=ac (fun w:World=>hf ▸ GJ s[0].toNat w);clear hr hf;have pp48e:=();exact pm48
 |clear pp221d;have CF:=ac (fun w:World=>hf ▸ GJ s[0].toNat w);clear hr hf;have pp48f:=();exact pm48
 |clear pp221e;have CF:=ac (fun w:World=>hf ▸ zV s[0].toNat w);clear hr hf;have pp48g:=();exact pm48
 |have CF:=ac (fun w:World=>hf ▸ zV s[0].toNat w);clear hr hf;exact pm48):G:=h
theorem pm222(h:G:=by
 obtain ⟨a,cap,qs,hv,hc,hs,hf⟩:=h;refine ⟨a,cap,qs,hv,hc,?_,fun j hj=>(hf j hj).move hb⟩;rcases hs with hs | ⟨b,off,ha,hok,hcl⟩
 ·exact .inl hs
 first
 |clear pp222
  ·by_cases h0:l=[]
   ·exact .inl h0
   ·have hk:=hb b hok (World.block_lt_of_cell? W _ (hcl 0 (iZ.2 h0)).1);refine .inr ⟨b,off,ha,hk.1,fun j hj=>?_⟩;obtain ⟨h0,h1,h2,h3,h4⟩:=hcl j hj;exact ⟨dj hk.2 h0,dj hk.2 h1,dj hk.2 h2,dj hk.2 h3,dj hk.2 h4⟩
 |·by_cases h0:l=[]
   ·exact .inl h0
   ·have hk:=hb b hok (World.block_lt_of_cell? W _ (hcl 0 (iZ.2 h0)).1);refine .inr ⟨b,off,ha,hk.1,fun j hj=>?_⟩;obtain ⟨h0,h1,h2,h3⟩:=hcl j hj;exact ⟨dj hk.2 h0,dj hk.2 h1,dj hk.2 h2,dj hk.2 h3⟩):G:=h
theorem pm223(h:G:=by
 obtain ⟨e0,e1,e2,_⟩:=gN H1.o.2.1;simp only[TQ.val];go_enter Tryz.func248,Tryz.ntmps248
 first
 |clear pp223;exact pm152
 |go_upto_region 1 with fail;rw[<-jj.o];exact pm65):G:=h
theorem pm224(h:G:=by
 obtain ⟨g,hg⟩:=Classical.axiomOfChoice hC;refine ⟨a0,cap,g,rfl,hlc,?_,fun j hj=>(hg j hj).2⟩;rcases hs with hs | ⟨b,off,ha,hc⟩
 ·exact .inl hs
 first
 |clear pp224
  ·refine .inr ⟨b,off,ha,trivial,fun j hj=>?_⟩;have c:=fun k hk=>hc j hj k hk;rw[(hg j hj).1]at c;exact ⟨c 0 (by omega),c 1 (by omega),c 2 (by omega),c 3 (by omega),c 4 (by omega)⟩
 |·refine .inr ⟨b,off,ha,trivial,fun j hj=>?_⟩
   have c:=fun k hk=>hc j hj k hk;rw[(hg j hj).1]at c;exact ⟨c 0 (by omega),c 1 (by omega),c 2 (by omega),c 3 (by omega)⟩):G:=h
theorem pm225(h:G:=by
 go_enter Tryz.func21,Tryz.ntmps21;go_wp2;go_ret;exact ⟨by rw[HZ.o];rfl,by rw[<-fp.o];exact HE.o.1⟩):G:=h
theorem pm226(h:G:=by
 have HX:=bF BV kz h3;clear h2 h3 h4 hd dx BV kz hD;gi_wp2_with fail;refine em (B:=w.heap.size) HX.o.2.1 (fun w' hn=>?_);have h0:=hn.cell (ah HX.o.2.2 0)
 first
 |clear pp226;exact ⟨.int .i64 72,by simp[results,Tryz.results71,go_sem,h0],by rw[HE.o],jo HX.o.1 hn⟩
 |exact ⟨.int .i64 6,by simp[results,Tryz.results71,go_sem,h0],by rw[HE.o],jo HX.o.1 hn⟩):G:=h
theorem pm227(h:G:=by
 have hn:eC n=true:=by have:=hb.1;rw[hq]at this;simpa using this
 have:(x == n)=false:=by
  rw[Bool.eq_false_iff];intro h;rw[dP]at h;rw[h,hn]at hx;cases hx
 first
 |clear pp227;simp[this]
 |rw[List.count_filter (by simp[this])]):G:=h
theorem pm228(h:G:=by
 obtain ⟨a,cap,qs,hv,hc,hs,hf⟩:=h;refine ⟨a,cap,qs,hv,hc,?_,fun j hj=>(hf j hj).nw hn⟩;rcases hs with hs | ⟨b,off,ha,hok,hcl⟩
 ·exact .inl hs
 first
 |clear pp228
  ·refine .inr ⟨b,off,ha,hok,fun j hj=>?_⟩;obtain ⟨h0,h1,h2,h3,h4⟩:=hcl j hj;exact ⟨hn.cell h0,hn.cell h1,hn.cell h2,hn.cell h3,hn.cell h4⟩
 |·refine .inr ⟨b,off,ha,hok,fun j hj=>?_⟩
   obtain ⟨h0,h1,h2,h3⟩:=hcl j hj;exact ⟨hn.cell h0,hn.cell h1,hn.cell h2,hn.cell h3⟩):G:=h
theorem pm229(h:G:=by
 obtain ⟨e0,e1,e2,_⟩:=gN H1.o.2.1;simp only[TQ.val];go_enter Tryz.func197,Tryz.ntmps197
 first
 |clear pp229;have pp152:=();exact pm152
 |go_upto_region 1 with fail;rw[<-jj.o];have pp65:=();exact pm65):G:=h
theorem pm230(h:G:=by
 intro l J Jx W hk hM hl YZ hJ _ hY hj;have RR:=(bz hX);have yP:=(hk.same X RR I6).trans hX
 first
 |clear pp230a;have c0:W.cell? ⟨X,0,none⟩=some (.bool q.v):=ah yP 0;have c1:W.cell? ⟨X,1,none⟩=some (.string q.n):=ah yP 1;have c2:W.cell? ⟨X,2,none⟩=some (.slice q.a q.l q.c):=ah yP 2;have OV:∀ b,M b->b<W.heap.size:=fun b hb=>bH (hM b hb) hk.size;have CC:=CZ t hfit M B l J (aC t) [] W q OV hJ (fun pre vs x W1 h1 h2 h3 h4=>by
   obtain ⟨fn,tmps,assign,body,hy,hR⟩:=hY pre vs x W1 h1 h2 h3 h4;refine ⟨fn,tmps,assign,body,hy,hR.mono ?_⟩;rintro e W' (h | ⟨h,_⟩)
   ·exact h
   ·exact h.elim) (hq.kp hk) (by simp) hj
  have HC:=ac CC;clear CC hY hJ hj hX yP hq OV;unfold TQ.val at HC;go_enter Tryz.func270,Tryz.ntmps270;go_wp2_with (go_at_call 214;refine HC.o.mono ?_;rintro e W2 ⟨rfl,xO,iO⟩);exact ⟨rfl,.tuple #[],by simp[results,Tryz.results270,go_sem],⟨_,rfl⟩,.inl ⟨by simpa using xO,iO⟩⟩
 |clear pp230b;have pp87a:=();exact pm87
 |have pp87b:=();exact pm87):G:=h
theorem pm231(h:G:=by
 obtain ⟨es,hk,ho,ht⟩:=h;exact ⟨es,hk,bi ho hb,fun j h1 h2=>⟨(ht j h1 h2).1,(ht j h1 h2).2.move (fun b hok hlt=>⟨hok,hb b hok.1 hlt⟩)⟩⟩):G:=h
theorem pm232(h:G:=by
 simp only[pF,af,bp]at h;have h1:=h.2.2.1.1;have:(c == 63)=false:=by
  rw[Bool.eq_false_iff];intro h2;rw[dP]at h2;subst h2;exact absurd h1 (by decide)
 first
 |clear pp232;simp[dG,this]
 |simp[dz,dF,c9,this]):G:=h
theorem pm233(h:G:=by
 subst kY;injection hv with hv _ hc;injection hv with hv;injection hv with hv;subst hv;subst hc;refine ⟨_,_,rfl,hn,.inr ⟨g,0,rfl,fun j hj=>?_⟩⟩
 first
 |clear pp233;have hf:(tp l)[j]?=some (.int .i64 (l[j]:Nat)):=by simp[tp,hj]
  rw[<-hx]at hf;have k0:(cur.toList.take (l.length * 1))[j]?=cur[j]?:=by rw[List.getElem?_take,au (by omega)];simp
  rw[k0]at hf;rw[Nat.zero_add];exact (aI hg _).trans hf
 |have hf:=wU ps j hj;rw[<-hx]at hf;have k0:(cur.toList.take (ps.length * 2))[j * 2]?=cur[j * 2]?:=by rw[List.getElem?_take,au (by omega)];simp
  have k1:(cur.toList.take (ps.length * 2))[j * 2+1]?=cur[j * 2+1]?:=by rw[List.getElem?_take,au (by omega)];simp
  rw[k0,k1]at hf;exact ⟨by rw[Nat.zero_add];exact (aI hg _).trans hf.1,by rw[Nat.zero_add];exact (aI hg _).trans hf.2⟩):G:=h
theorem pm234(h:G:=by
 have cB:((a.map (gp f)).take k).length=k:=by rw[dT];have:=dA.o;simp;omega
 have ki:(a.map (gp f)).take k=(a.map (gp f)):=gU (by have:=dA.o;simp;omega)
 first
 |clear pp234;have pp17c:=();exact pm17
 |have pp17b:=();exact pm17):G:=h
theorem pm235(h:G:=by
 go_wp2;go_roundw
 case rel=>exact ⟨k+1,by omega,by omega,by go_num,by rw[wE s k j9 hlt,HA.o,HP.o];rfl,DS HW.o _⟩
 case measure=>simp[intOf];omega):G:=h
theorem pm236(h:G:=by
 exact ⟨trivial,((Kp.below H4.o.1).trans Cy).from _,rfl,by rw[vO HG.o.1];exact L8.o.symm,iV H4.o.2,(HG.o.2.2.trans (Kp.below H4.o.1)).trans Cy⟩):G:=h
theorem pm237(h:G:=by
 obtain ⟨bb,off,⟨qo,qn,qa,ql,qc,qb,qm,qe⟩,rfl,hok,hf,c0,c1,c2,c3,c4⟩:=WI.o.get bg
 first
 |clear pp237a;have nJ:=H2.o.1.tr ar;obtain ⟨d0,d1,d2,d3,d4⟩:=ZX nJ c0 c1 c2 c3 c4;obtain ⟨nm,dD⟩:=am (b.fs[k].1);obtain ⟨g,hg⟩:=am (b.fs[k].2);rw[Eo bg,<-dD,<-hg]at gP;rw[<-dD]at d0;have Qb:=HP.o _ (aw bg);rw[<-hg]at hf Qb;have pp113b:=();exact pm113
 |clear pp237b;have pp142:=();exact pm142
 |have nJ:=H1.o.1.tr ar;obtain ⟨d0,d1,d2,d3,d4⟩:=ZX nJ c0 c1 c2 c3 c4;obtain ⟨nm,dD⟩:=am (b.fs[k].1);obtain ⟨g,hg⟩:=am (b.fs[k].2);have mf:=HP.o.1 _ (aw bg);rw[<-dD]at d0;rw[<-dD,<-hg]at mf;rw[<-hg]at hf;exact pm113):G:=h
theorem pm238(h:G:=by
 obtain ⟨k,hk,rfl,row,us,hF,AC,Db⟩:=hrel;have ar:=hF.below Pn.o.1 (by omega);obtain ⟨ra,rc,rfl⟩:=hF.row.slice;rw[Db]at hF
 by_cases hlt:k<m0
 first
 |clear pp238
  ·have dJ:=ce gR.o hlt;have pp60:=();exact pm60
  ·obtain rfl:k=m0:=by omega
   exact pm129
 |·have dJ:=ce gR.o hlt;exact pm60
  ·obtain rfl:k=m0:=by omega
   exact pm129):G:=h
theorem pm239(h:G:=by
 obtain ⟨a,cap,vs,hv,hs,h⟩:=h;refine ⟨a,cap,vs,hv,?_,fun j hj=>(h j hj).move hb⟩;exact pm314):G:=h
theorem pm240(h:G:=by
 obtain ⟨m,hm⟩:=am (dI (aL [] f));rw[<-hm]at hE;have Kl:∀ x∈m,x.length<=2000000:=fun x hx=>by rw[hm,dQ]at hx;exact o7 f [] vk.o.2.1.2 x hx
 first
 |clear pp240;have Im:m.length<=2000000:=by rw[hm];have h1:=fO (aL [] f);have h2:=eY f [];have h3:=vk.o.2.2;omega
  have HM:=aG Kl Im;clear Kl Im;exact pm79
 |have Im:m.length<=400:=by rw[hm];have h1:=fO (aL [] f);have h2:=eY f [];have h3:=vk.o.2.2;omega
  have HM:=bF Kl Im hm;obtain ⟨HYl,HE2,zcM⟩:=cH Ih hE wl;clear Kl Im hm hE bl yo e_ Jg FG Ih wl wn Ij Fi Kg;go_enter Tryz.func195,Tryz.ntmps195;go_upto_region 2 with fail;rw[<-fp.o];go_upto_region 6 with fail;go_upto_region 7 with (go_at_call 96;refine zs.o.mono ?_;rintro e w4 ⟨rfl,aO⟩;have H4:=ac aO;clear aO);clear e0 e1 e2 e3;obtain ⟨W5,fv⟩:=am (w4.alloc (.cells #[.string ⟨di.toArray⟩] 9));have FJ:Below W2.heap.size W2 W5:=by rw[fv];exact H4.o.tr cO
  have y5:=bU fv;rw[<-fv];clear fv;have x5:=bJ FJ H2.o.2.1;have jG:=H2.o.2.2.later FJ;have zaH:=H2.o.2.2.fs.lt;obtain ⟨S,hS⟩:∃S:World->Prop,S=fun V=>Below W5.heap.size W5 V:=⟨_,rfl⟩;have ff:∀ V,S V->V.cell? ⟨kb,0,none⟩=some (.map (some mF))/\V.cell? ⟨w.heap.size+1,1,none⟩=some (.string ⟨n.toArray⟩)/\(Instr.lookup 145 (.map (some mF)) (.string ⟨n.toArray⟩) false).run Tryz.prog V=.ok (.agg #[.int .u8 g0,.string g1,.slice g2 g3 g4,.slice g5 g6 g7]) V:=fun V h=>by
   rw[hS]at h;exact ⟨aa h (ah jG.box 0),aa h (ah x5 1),zcM.o V (((FJ.tr h).block _ zaH))⟩
  have dU:S W5.drew:=by rw[hS];exact (aj _ _).drew
  have HC:=ac (fun (V:World) (h:Below W5.heap.size W5 V)=>uP f vk.o.2.1 (by have:=vk.o.2.2;omega) _ V ⟨g0,g1,g2,g3,g4,g5,g6,g7⟩ ((vk.o.1.later FJ).later h));simp only[FQ.val,<-HM.o.2.2]at HC;have dp:=ac hS;have H5:=bF FJ y5 jG;clear hS x5 jG zaH FJ y5;refine (wpIn_wide (n:=3)).1 ?_;refine lH S 9 dU fun jC bN=>?_;refine bC 0 34 (.pointer (some ⟨kb,0,none⟩)) rfl bN fun cr=>?_;simp only[ag];refine bC 1 35 (.pointer (some ⟨kb,0,none⟩)) rfl cr fun f_=>?_;simp only[ag];refine bC 2 36 (.pointer (some ⟨kb,0,none⟩)) rfl f_ fun gQ=>?_;simp only[ag];refine dh 3 37 (.map (some mF)) rfl (fun V hX=>by obtain ⟨h0,h1,h2⟩:=ff V hX;go_simp) gQ fun iK=>?_;simp only[ag];refine bC 4 38 (.pointer (some ⟨w.heap.size+1,1,none⟩)) rfl iK fun jF=>?_;simp only[ag];refine dh 5 39 (.string ⟨n.toArray⟩) rfl (fun V hX=>by obtain ⟨h0,h1,h2⟩:=ff V hX;go_simp) jF fun j7=>?_;simp only[ag];refine dh 6 40 (.agg #[.int .u8 g0,.string g1,.slice g2 g3 g4,.slice g5 g6 g7]) rfl (fun V hX=>by obtain ⟨h0,h1,h2⟩:=ff V hX;go_simp) j7 fun mi=>?_;simp only[ag];refine bZ 7 rfl fun K hK=>?_;go_simp;refine aK.2 ((HC.o _ (by have h:=bN;rw[dp.o]at h;exact h)).mono ?_);rintro e w7 ⟨⟨v7,rfl,M7⟩,fW⟩;have H7:=ac (((aj W5.heap.size W5).drew).trans fW);have Wc:=ac (rM m (by have:=HM.o.2.1;omega) HM.o.1 _ w7 v7 M7.1);refine hK _ _ (fun _=>by rw[dp.o];exact H7.o) (fun _=>?_);clear hK K fW M7;refine bZ 8 rfl fun K hK=>?_;go_simp;refine aK.2 (Wc.o.mono ?_);rintro e w8 ⟨⟨v8,rfl,Ho⟩,U3⟩;have ic:Below W5.heap.size W5 w8:=lk (w:=W5) H7.o U3;have H8:=aG ic (Ho.base (lo':=W5.heap.size) (by exact aD _));refine hK _ _ (fun _=>by rw[dp.o];exact H8.o.1) (fun _=>?_);clear hK K U3 ic Ho;refine bZ 9 rfl fun K hK=>?_;go_simp;refine eS hK ?_;clear hK K;refine kV ?_;clear ff dU bN cr f_ gQ iK jF j7 mi jC;have h5s:=H5.o.1.size;have hx8:w8.cell? ⟨w4.heap.size,0,none⟩=some (.string ⟨di.toArray⟩):=aa H8.o.1 (ah H5.o.2.1 0);obtain ⟨l0,tD⟩:=am (m.filter dG);have zcN:l0.length<=400:=by rw[tD];exact aU (List.length_filter_le _ _) HM.o.2.1
  have hE:=HE2.o;rw[<-tD]at hE;have HV8:=ac (tD ▸ H8.o.2);have mz:=fM l0 (by omega) di _ w8 v8 HV8.o.strs
  cases yd:l0.contains di with
  | false=>
   rw[yd]at mz hE;have mz:=ac mz;have rJ:=ac (show R=l0 by rw[hE];simp);clear hE tD yd;go_wp2_with (go_at_call 128;refine mz.o.mono ?_;rintro e w9 ⟨rfl,hw9⟩;cases hw9);go_ret;exact ⟨⟨_,rfl,by rw[rJ.o];exact HV8.o.base (aU H2.o.1.size h5s)⟩,(H2.o.1.tr H5.o.1).tr H8.o.1⟩
  | true=>
   rw[yd]at mz hE;have mz:=ac mz;have hE:R=l0.filter (fun x=>!(x == di)) ++ (dI (aC (termOf k.ts y))).filter dG:=by rw[hE];simp[bne]
   have rJ:=ac hE;have zcO:=ac (yr (fun x=>x == di) l0 (by omega) 247 #[.pointer (some ⟨w4.heap.size,0,none⟩)] Bc W5.heap.size w8 v8 (fun x W _ hC=>Il x di w4.heap.size W (hC.cell (by intro h;have h1:W5.heap.size<=w4.heap.size:=h.1;have h2:=(bz H5.o.2.1);omega) hx8)) HV8.o);clear hE tD yd;go_upto_region 11 with (first | (go_at_call 128;refine mz.o.mono ?_;rintro e w9 ⟨rfl,hw9⟩;cases hw9) | (go_at_call 246;refine zcO.o.mono ?_;rintro e w9 ⟨⟨v9,rfl,PE⟩,hk9⟩;have H9:=aG (lk (w:=W5) H8.o.1 hk9) PE;clear PE hk9));have Xb:=H5.o.2.2.later H9.o.1;obtain ⟨⟨z0,z1,z2,z3,z4⟩,UZ,If,I9,Qk,_,A_⟩:=Xb.termOf (x:=y) (by have:=HYl.o;omega);simp only[TQ.val]at A_;have A_:=A_ w9 rfl;have k1:w9.cell? ⟨kb,1,none⟩=some (.map (some mT)):=ah Xb.box 1;have Gt:=ac (lU _ If _ w9 ⟨z0,z1,z2,z3,z4⟩ UZ);obtain ⟨m9,hm9⟩:=am (dI (aC (termOf k.ts y)));have zaI:∀ x∈m9,x.length<=2000000:=fun x hx=>by rw[hm9,dQ]at hx;exact aU (mG _ Qk x hx) (by decide)
   have zaJ:m9.length<=1000:=by rw[hm9];have h1:=fO (aC (termOf k.ts y));have h2:=mE (termOf k.ts y);omega
   have hE:=rJ.o;simp only[TQ.val,<-hm9]at Gt;rw[<-hm9]at hE;obtain ⟨l1,FI⟩:=am (l0.filter (fun x=>!(x == di)));have zcP:l1.length<=400:=by rw[FI];exact aU (List.length_filter_le _ _) zcN
   have H9v:=ac (FI ▸ H9.o.2);rw[<-FI]at hE;have Qm:=ac hE;have HM9:=bF zaI zaJ zcP;clear Xb UZ If I9 Qk hm9 zaI zaJ FI hE hx8;go_upto_region 12 with (first | (go_at_call 166;refine Gt.o.mono ?_;rintro e w10 ⟨⟨v10,rfl,zaK⟩,tI⟩;have zcQ:=ac (rM m9 (by have:=HM9.o.2.1;omega) HM9.o.1 _ w10 v10 zaK.1);have lO:=ac tI;clear tI zaK) | (go_at_call 245;refine zcQ.o.mono ?_;rintro e Du ⟨⟨v11,rfl,zaL⟩,vq⟩;have t4:=aG (lk (w:=w9) lO.o vq) zaL;clear zaL vq) | (at_builtin;refine dY rfl _ _ rfl W5.heap.size (H9.o.1.tr t4.o.1).size v9 l1 rfl (H9v.o.later t4.o.1) v11 (m9.filter dG) rfl _ t4.o.2.strs (by have h1:=List.length_filter_le dG m9;have h2:=HM9.o.2.1;have h3:=HM9.o.2.2;omega) ?_;intro v12 w12 zaM zaN;have Ou:=aG zaM zaN;clear zaM zaN));go_ret;have pY:Below W5.heap.size W5 w12:=(ow (M:=fun _=>False) (Kp.below (H9.o.1.tr t4.o.1)) Ou.o.2 (fun g hg=>(H9v.o.lt g hg).1)).empty;exact ⟨⟨_,rfl,by rw[Qm.o];exact Ou.o.1.base (aU H2.o.1.size h5s)⟩,(H2.o.1.tr H5.o.1).tr pY⟩):G:=h
theorem pm241(h:G:=by
 obtain ⟨ra,rc,rfl⟩:=hF.row.slice;rw[cB]at hF;obtain ⟨S,hS⟩:∃S:World->Prop,S=fun V=>Below wr.heap.size wr V:=⟨_,rfl⟩;have xb:=hF.box
 first
 |clear pp241;have k0:=ah ji.box 0;have r0:=ah xb 0;have mlt:=ji.fs.lt;have ff:∀ V,S V->V.cell? ⟨w.heap.size+1,0,none⟩=some (.slice ra j rc)/\V.cell? ⟨kb,0,none⟩=some (.map (some mF))/\(Instr.lookup 145 (.map (some mF)) (.string ⟨nm.toArray⟩) false).run Tryz.prog V=.ok (.agg #[.int .u8 g0,.string g1,.slice g2 g3 g4,.slice g5 g6 g7]) V:=fun V h=>by
   rw[hS]at h;exact ⟨aa h r0,aa h k0,(hlk V (h.block _ mlt)).2⟩
  have dU:S wr.drew:=by rw[hS];exact (aj _ _).drew
  obtain ⟨dp,HF,ek,cv⟩:=eH hS hF cB ar;have HC:=ac (fun (V:World) (h:Below wr.heap.size wr V)=>ov k.fs[j].2 (HP.o.2.2.1 _ Ic) ok V ⟨g0,g1,g2,g3,g4,g5,g6,g7⟩ (pf.later h));simp only[FQ.val]at HC;have R6:=ac (show k.fs.take j ++ [(nm,k.fs[j].2)]=k.fs.take (j+1) by rw[dD,List.take_add_one,gT dJ];rfl);have ES:(j:Int)<(n1:Int):=by omega
  have pp215:=();exact pm215
 |have k0:=ah ji.box 1;have r0:=ah xb 1;have mlt:=ji.ts.lt;have ff:∀ V,S V->V.cell? ⟨w.heap.size+1,1,none⟩=some (.slice ra j rc)/\V.cell? ⟨kb,1,none⟩=some (.map (some mT))/\(Instr.lookup 146 (.map (some mT)) (.string ⟨nm.toArray⟩) false).run Tryz.prog V=.ok (.agg #[.bool g0,.string g1,.slice g2 g3 g4]) V:=fun V h=>by
   rw[hS]at h;exact ⟨aa h r0,aa h k0,(hlk V (h.block _ mlt)).2⟩
  have dU:S wr.drew:=by rw[hS];exact (aj _ _).drew
  obtain ⟨dp,HF,ek,cv⟩:=eH hS hF cB ar;have HC:=ac (fun (V:World) (h:Below wr.heap.size wr V)=>oL k.ts[j].2 (HP.o.2.2.2 _ Ic) ok V ⟨g0,g1,g2,g3,g4⟩ (pf.later h));simp only[TQ.val]at HC;have R6:=ac (show k.ts.take j ++ [(nm,k.ts[j].2)]=k.ts.take (j+1) by rw[dD,List.take_add_one,gT dJ];rfl);have ES:(j:Int)<(n2:Int):=by omega
  exact pm215):G:=h
theorem pm242(h:G:=by
 refine ⟨fun h0=>(by rw[hr]at h0;cases h0),fun j hj=>?_⟩;rw[hr]at hj;obtain rfl:=List.mem_singleton.1 hj;refine wpOpIn_step hi (fun K' ET=>?_)
 first
 |clear pp242;rw[au hw];exact h K' (fun a w hS hW=>ET a w ⟨hS,hW hS⟩)
 |rw[ak (by simp[hw])];exact ⟨Cz,ET _ _ ⟨fun _=>hS,by rw[wy];exact h hS⟩⟩):G:=h
theorem pm243(h:G:=by
 have wL:=p_.o b ja;have d0:=bj.cell wL c0;have d1:=bj.cell wL c1;have d2:=bj.cell wL c2
 first
 |clear pp243a;have pN:=jv l (k+1);have jb:=na bg;have GP:=ui bg;have E2:=z6 (sc:=sc) bg;have gu:TermV ok wr u.val l[k]:=hu.move (fun b hok hlt=>⟨hok,bj.same b hlt (p_.o b hok)⟩);have VQ:=qB l[k];have fJ:=HL.o l[k] (aw bg) ok J sc (left - nodesTs (l.take k)) br aZ (wr.alloc (.cells #[.bool u.v,.string u.n,.slice u.a u.l u.c] 43)) u (gu.later cO) p_.o (hj.later cO) (by omega) (by omega) Oj hd (by omega);obtain ⟨bb,cQ⟩:=am (i8 sc l[k] && (decide ((nodesT l[k]:Int)<=left - nodesTs (l.take k)) && decide (aZ+dv l[k]<=br+1)));rw[<-cQ]at fJ
  cases bb with
  | true=>
   have oQ:=cQ.symm;simp only[af,bp]at oQ;have hrel:dH sc (l.take (k+1))=true/\((nodesTs (l.take (k+1)):Int))<=left/\aZ+bG (l.take (k+1))<=br+1/\left - nodesTs (l.take k) - nodesT l[k]=left - nodesTs (l.take (k+1)):=⟨by rw[E2,ha,oQ.1];rfl,by omega,by omega,by omega⟩;obtain ⟨HR,HC,kL⟩:=cH hrel fJ bj;clear hrel fJ cQ oQ E2 GP jb pN VQ ha hb hc hj bj hu gu c0 c1 c2;go_wp2_with (go_at_call 122;refine HC.o.mono ?_;rintro e w3 ⟨rfl,kD,l3,qd,Lo,Sn,GG⟩;have HH:=bF kD qd (GG rfl);clear kD qd Lo Sn GG);go_roundw
   case rel=>exact ⟨k+1,by omega,by go_num,kL.o.trans ((Kp.below cO).trans HH.o.1),by rw[<-HR.o.2.2.2,<-HH.o.2.2];exact HH.o.2.1,HR.o.1,HR.o.2.1,HR.o.2.2.1⟩
   case measure=>simp[intOf];omega
  | false=>
   have kl:(dH sc l && (decide ((nodesTs l:Int)<=left) && decide (aZ+bG l<=br+1)))=false:=by
    have dD:=jv l (k+1);have hdm:=GO bg
    cases h1:i8 sc l[k] with
    | false=>rw[OP bg h1];rfl
    | true=>
     rw[h1,du]at cQ;have cQ:=cQ.symm;rw[Bool.and_eq_false_iff]at cQ;rcases cQ with cQ | cQ
     ·have:decide ((nodesTs l:Int)<=left)=false:=by simp at cQ ⊢;omega
      rw[this];simp
     ·have:decide (aZ+bG l<=br+1)=false:=by simp at cQ ⊢;omega
      rw[this];simp
   obtain ⟨HF,HC,kL⟩:=cH kl fJ bj;clear kl fJ cQ E2 GP jb pN VQ ha hb hc hj bj hu gu c0 c1 c2;go_wp2_with (go_at_call 122;refine HC.o.mono ?_;rintro e w3 ⟨rfl,kD,l3,qd,Lo,Sn,GG⟩;have HH:=cG kD qd Lo Sn;clear kD qd Lo Sn GG);go_ret;exact ⟨az HF.o.symm,kL.o.trans ((Kp.below cO).trans HH.o.1),l3,HH.o.2.1,HH.o.2.2.1,by have:=HH.o.2.2.2;omega,fun h=>by rw[HF.o]at h;cases h⟩
 |clear pp243b;have jb:=na bg;have pN:=jv l (j+1);have hf:=HF.o.mem (aw bg);have pG:=fR.o l[j] (aw bg);have gu:TermV ok wr u.val l[j]:=hu.move (fun b hok hlt=>⟨hok,bj.same b hlt (p_.o b hok)⟩);obtain ⟨⟨xv,xn,xa⟩,hx⟩:∃x,l[j]=x:=⟨_,rfl⟩;rw[hx]at gu hf pG jb;have s8:nodesT (.mk xv xn xa)=nodesTs xa+1:=rfl;rw[s8]at jb;obtain ⟨s1,h2,e_⟩:=aP.1 gu;obtain ⟨uv,un,ua,ul,uc⟩:=u;have pp123a:=();exact pm123
 |have d3:=bj.cell wL c3;have pN:=cI s (k+1);have jb:=eA bg;have GP:=io bg
  first
  |clear pp161;have E2:cW true (s.take (k+1))=_:=km bg;have gu:FormV ok wr u.val s[k]:=hu.move (fun b hok hlt=>⟨hok,bj.same b hlt (p_.o b hok)⟩);have fJ:=fR.o s[k] (aw bg) ok J true (left - 1 - nodesTs a - nodesFs (s.take k)) br (aZ+1) (wr.alloc (.cells #[.int .u8 u.o,.string u.n,.slice u.a u.l u.c,.slice u.b u.m u.e] 36)) u ((HT.o.kp bj (fun b hb=>by subst hb;exact Tk)).next cO) Tk (gu.later cO) p_.o (hj.later cO) (by omega) (by omega) Oj (by omega) (by omega);obtain ⟨bb,cQ⟩:=am (okF true s[k] && (decide ((nodesF s[k]:Int)<=left - 1 - nodesTs a - nodesFs (s.take k)) && decide (aZ+1+depthF s[k]<=br+1)));rw[<-cQ]at fJ
   cases bb with
   | true=>
    have oQ:=cQ.symm;simp only[af,bp]at oQ;have hrel:cW true (s.take (k+1))=true/\((nodesFs (s.take (k+1)):Int))<=left - 1 - nodesTs a/\aZ+1+aS (s.take (k+1))<=br+1/\left - 1 - nodesTs a - nodesFs (s.take k) - nodesF s[k]=left - 1 - nodesTs a - nodesFs (s.take (k+1)):=⟨by rw[E2,ha,oQ.1];rfl,by omega,by omega,by omega⟩;exact pm89
   | false=>
    have kl:(cW true s && (decide ((nodesFs s:Int)<=left - 1 - nodesTs a) && decide (aZ+1+aS s<=br+1)))=false:=by
     have dD:=cI s (k+1);have hdm:=nc bg
     cases h1:okF true s[k] with
     | false=>rw[ut bg h1];rfl
     | true=>
      exact pm139
    exact pm100
  |have E2:cW sc (s.take (k+1))=_:=km bg;have gu:FormV ok wr u.val s[k]:=hu.move (fun b hok hlt=>⟨hok,bj.same b hlt (p_.o b hok)⟩);have fJ:=fR.o s[k] (aw bg) ok J sc (left - 1 - nodesTs a - nodesFs (s.take k)) br (aZ+1) (wr.alloc (.cells #[.int .u8 u.o,.string u.n,.slice u.a u.l u.c,.slice u.b u.m u.e] 36)) u ((HT.o.kp bj (fun b hb=>by subst hb;exact Tk)).next cO) Tk (gu.later cO) p_.o (hj.later cO) (by omega) (by omega) Oj (by omega) (by omega);obtain ⟨bb,cQ⟩:=am (okF sc s[k] && (decide ((nodesF s[k]:Int)<=left - 1 - nodesTs a - nodesFs (s.take k)) && decide (aZ+1+depthF s[k]<=br+1)));rw[<-cQ]at fJ
   cases bb with
   | true=>
    have oQ:=cQ.symm;simp only[af,bp]at oQ;have hrel:cW sc (s.take (k+1))=true/\((nodesFs (s.take (k+1)):Int))<=left - 1 - nodesTs a/\aZ+1+aS (s.take (k+1))<=br+1/\left - 1 - nodesTs a - nodesFs (s.take k) - nodesF s[k]=left - 1 - nodesTs a - nodesFs (s.take (k+1)):=⟨by rw[E2,ha,oQ.1];rfl,by omega,by omega,by omega⟩;exact pm89
   | false=>
    have kl:(cW sc s && (decide ((nodesFs s:Int)<=left - 1 - nodesTs a) && decide (aZ+1+aS s<=br+1)))=false:=by
     have dD:=cI s (k+1);have hdm:=nc bg
     cases h1:okF sc s[k] with
     | false=>rw[ut bg h1];rfl
     | true=>
      exact pm139
    exact pm100):G:=h
theorem pm244(h:G:=by
 unfold Oper.wp execOp;simp only[ho,resolve,invoke,builtin,Sem.run_bind,Sem.run_pure,Result.andThen_ok,List.map_toArray,cz,List.map_nil,hs,hx,hr]
 first
 |clear pp244;exact hK _ _ (h v' w' h2 h3)
 |exact hK _ _ (h v' w' h3 h4)):G:=h
theorem pm245(h:G:=by
 cases e with
 | returned u=>exact ⟨keep a hy u,by rw[<-Act.put_comm a v u h2];exact he⟩
 | panicked c=>exact hQ _ _ _ he
 | outgrown=>exact he):G:=h
theorem pm246(h:G:=by
 refine m4 Tryz.func127 ?_;simp only[Tryz.ntmps127,Nat.reduceAdd,Nat.reduceSub,lu]
 first
 |clear pp246;exact pm56
 |have iz:=fd
  first
  |clear pp140;gi_wp2_with (first | (gi_at_call 119;rw[<-HX.o];refine aK.2 (tE.o.mono ?_);rintro e w3 ⟨rfl,aM⟩;have y1:=(aM.block _ (by have:=HY.o.2.2.2.1;omega)).trans HY.o.2.1;have y0:=(aM.block _ (by have:=HY.o.2.2.2.1;omega)).trans HY.o.2.2.1;have pP:=aM.size;have pR:=HY.o.2.2.2.1;have JP:w.heap.size+2<=w3.heap.size:=(by omega);have bD:=cG (HY.o.1.tr aM) y1 y0 (HY.o.2.2.2.2.tr aM);obtain ⟨p0,p1,p2,_⟩:=gN y0;clear aM pP pR y1;have da:Below w3.heap.size w3 (w3.alloc (.cells #[.bool true,.string ⟨n.toArray⟩,.slice none 0 0] 43)):=cO;have r2:=aa da p2;clear y0 da) | (gi_at_call 128;refine aK.2 ((WY.o _ bD.o.2.2.2).mono ?_);rintro e w4 ⟨rfl,U0⟩;cases U0));clear p0 p1 p2 r2;obtain ⟨W1,bY⟩:=am (w3.alloc (.cells #[.bool true,.string ⟨n.toArray⟩,.slice none 0 0] 43));have iN:Below w.heap.size w W1:=by rw[bY];exact bD.o.1.tr cO
   have x1:W1.heap[w.heap.size+1]?=some (.cells #[.bool false,.string ⟨#[]⟩,.slice none 0 0] 43 (0,0)):=by rw[bY];exact (bE _ _ _ (by omega)).trans bD.o.2.1
   have x2:=bU bY;rw[<-bY];clear bY;obtain ⟨ec,jN⟩:=aW iN x1;have wI:=ac (Fills.start (R:=w3.heap.size) (mk:=fun rr=>#[.bool true,.string ⟨n.toArray⟩,rr]) (Row:=fun r W=>RowT W1.heap.size r ((a.map (cM kd.ts sc)).take 0) W) x2 (RowT.nil _ _));clear iN x1 x2;gi_loopw [47] (fun i wr=>∃k:Nat,k<=k0/\i=.int .i64 k/\∃row,Fills 43 (w3.heap.size) W1.heap.size (fun rr=>#[.bool true,.string ⟨n.toArray⟩,rr]) (fun r W=>RowT W1.heap.size r ((a.map (cM kd.ts sc)).take k) W) W1 wr row) (fun i _=>k0 - (intOf i).toNat)
   case atStart=>exact ⟨0,aX _,rfl,_,wI.o⟩
   case round=>
    obtain ⟨k,hk,rfl,row,hF⟩:=hrel;have ar:=hF.below ec.o ((by omega))
    by_cases hlt:k<k0
    ·have dJ:=ce dA.o hlt;have pp61j:=();exact pm61
    ·obtain rfl:k=k0:=by omega
     have pp205:=();exact pm205
  |gi_wp2_with (first | (gi_at_call 119;rw[<-HX.o];refine aK.2 (tE.o.mono ?_);rintro e w3 ⟨rfl,aM⟩;have y1:=(aM.block _ (by have:=HY.o.2.2.2.1;omega)).trans HY.o.2.1;have y0:=(aM.block _ (by have:=HY.o.2.2.2.1;omega)).trans HY.o.2.2.1;have pP:=aM.size;have pR:=HY.o.2.2.2.1;have JP:w.heap.size+2<=w3.heap.size:=(by omega);have bD:=cG (HY.o.1.tr aM) y1 y0 (HY.o.2.2.2.2.tr aM);obtain ⟨p0,p1,p2,_⟩:=gN y0;clear aM pP pR y1;clear y0) | (gi_at_call 128;refine aK.2 ((WY.o _ bD.o.2.2.2).mono ?_);rintro e w4 ⟨rfl,U0⟩;cases U0) | (gi_at_call 130;refine aK.2 ((fC n _ (by omega)).mono ?_);rintro e w5 ⟨rfl,Zl⟩;cases Zl) | (gi_at_call 131;refine aK.2 ((gK (bQ n) _).mono ?_);rintro e w5 ⟨rfl,bm⟩;have x1:=(bm.block _ (by omega)).trans bD.o.2.1;obtain ⟨e0,e1,e2,z0,z1,z2⟩:=gN x1;have H5:=aG (bD.o.1.tr bm) x1;have Y9:=bm.size;clear bm x1));have x6:=qA (v0:=.bool true) (v1:=.string ⟨(bQ n).toArray⟩) (v2:=.slice none 0 0) H5.o.2;have k6:=eM (W:=w5) (b:=w.heap.size+1) (v0:=.bool true) (v1:=.string ⟨(bQ n).toArray⟩) (v2:=.slice none 0 0);obtain ⟨W6,dm⟩:=am (((w5.setCell ⟨w.heap.size+1,0,none⟩ (.bool true)).setCell ⟨w.heap.size+1,1,none⟩ (.string ⟨(bQ n).toArray⟩)).setCell ⟨w.heap.size+1,2,none⟩ (.slice none 0 0));rw[<-dm]at x6 k6 ⊢;clear dm;obtain ⟨g0,g1,g2,_⟩:=gN x6;refine bI (v:=TQ.val ⟨true,⟨(bQ n).toArray⟩,none,0,0⟩) (by simp[TQ.val,results,Tryz.results127,go_sem,g0,g1,g2]) rfl ⟨⟨⟨true,⟨(bQ n).toArray⟩,none,0,0⟩,rfl,aP.2 ⟨_,rfl,none,0,fun _=>.string ByteArray.empty,rfl,.inl rfl,fun j hj=>absurd hj (by simp)⟩⟩,Below.kp1 H5.o.1 k6 (by omega)⟩):G:=h
theorem pm247(h:G:=by
 have jP:(p2 == yn)=false:=by simpa using hb
 have HT:=ac (show lL ps.reverse xn yn=lL (ps.take j).reverse xn yn by rw[ht];simp[gY,jP]);clear ht
 first
 |clear pp247;have pp83c:=();exact pm83
 |go_wp2;go_roundw
  case rel=>exact ⟨j,by omega,by go_num,lY.o.trans (cO.mono lY.o.size),HT.o⟩
  case measure=>simp[intOf];try omega):G:=h
theorem pm248(h:G:=by
 obtain ⟨_,h2,_,_,h5⟩:=mn hf eQ dN;obtain ⟨m,ii,oy⟩:=nk p.c k.ts p.s.a p.f.a k.ts k.ts h5 (SubL.refl _) h2;have hs:=hp.s;have Hk:=hp.f
 first
 |clear pp248;obtain ⟨⟨o,n,a,s⟩,⟨o',n',a',s'⟩,c⟩:=p;simp only[okF,af]at hs Hk;have h6:=q_ (c:=c.map (·.1)) a hs.2.2.2.1 hx;simp only[Fm.a]at oy;rw[oy]at h6;exact Ku hp.c Hk.2.2.2.1 ii h6.1 h6.2
 |have hc:=hp.c;obtain ⟨⟨o,n,a,s⟩,⟨o',n',a',s'⟩,c⟩:=p;simp only[okF,af]at hs Hk;simp only[Fm.a]at ii oy ⊢;rw[nq (c:=c.map (·.1)) a hs.2.2.2.1,oy,(xh hc Hk.2.2.2.1 ii).2]):G:=h
theorem pm249(h:G:=by
 have Y7:=fO (aL [] g);have r':=eY g [];have CT:=fM (dI (aL [] g)) (by have:=nU.o.1;omega) nx _ wf vf RX.o.strs;rw[lZ,yd]at CT;have Hh:=ac CT
 first
 |clear pp249;clear Y7 r' CT yd;gi_wp2_with (gi_at_call 128;refine aK.2 (Hh.o.mono ?_);rintro e w4 ⟨rfl,rfl⟩);have CC:=ov (.mk qo n [] [g]) Y6.o.1 ok w4 ⟨qo,⟨n.toArray⟩,qa,0,qc,some ⟨b,off,none⟩,1,qe⟩ (Y6.o.2.later Hn.o.below);simp only[FQ.val]at CC;exact pm19
 |clear Y7 r' CT;have CFT:=lU z Pz.o.1 (fun _=>True) (wf.alloc (.cells #[.int .u8 go,.string gn,.slice ga gl gc,.slice gb gm ge] 36)) ⟨zv,zn,za,zl,zc⟩ ((HZ.o.later Hn.o.below).move (wC cO));simp only[TQ.val]at CFT;have zct:=ac CFT;have Wr:=Hn.o.later ((aj _ _).alloc (aD _) (.cells #[.int .u8 go,.string gn,.slice ga gl gc,.slice gb gm ge] 36));obtain ⟨d0,d1,d2,d3⟩:=mu Hn.o.below HC.o.1 HC.o.2.1 HC.o.2.2.1 HC.o.2.2.2;obtain ⟨u0,u1,u2⟩:=lQ Wr.bu;obtain ⟨Fj,HCn⟩:=aW Wr yd;clear CFT Wr yd;gi_wp2_with fail;refine aK.2 (Hh.o.mono ?_);rintro e w4 ⟨rfl,rfl⟩;gi_wp2_with fail;refine aK.2 (zct.o.mono ?_);rintro e w6 ⟨⟨vn,rfl,hvn⟩,da⟩;clear d0 d1 d2 d3 u0 u1 u2 p0 p1 p2 p3;have Ws:=Fj.o.later da;have t6:w6.heap[w4.heap.size]?=some (.cells #[.int .u8 go,.string gn,.slice ga gl gc,.slice gb gm ge] 36 (0,0)):=(da.block _ (by simp)).trans (ai rfl);have hlz:=fO (aC z);have sY:=mh z;have CT2:=fM (dI (aC z)) (by have:=Pz.o.2;omega) n _ w6 vn hvn.strs;rw[lZ]at CT2;obtain ⟨zcu,Fk,HT6,HVn⟩:=eH CT2 Ws t6 hvn;have SK:=ac (show Below w4.heap.size w4 w6 from cO.tr da);have n1:=ah Ws.b0 1;clear CT2 Ws t6 hlz sY hvn da;gi_wp2_with fail;refine aK.2 (zcu.o.mono ?_);rintro e w7 ⟨rfl,rfl⟩
  cases PD:(aC z).contains n with
  | false=>
   have wX:Hd (RS=.mk qo n [] [eW kk nx z g]):=ac (by rw[UD.o,mH qh,HCn.o,PD,ak (by simpa using hn)];rfl);have HGX:=ac ((HG.o.later Hn.o.below).later SK.o);clear n1 PD;have CP:=fR.o W0 g nx z nU.o.2.2.2.2 nU.o.1 nU.o.2.1 nU.o.2.2.1 nU.o.2.2.2.1 LK.o Pz.o.1 Pz.o.2 _ _ w7 ⟨go,gn,ga,gl,gc,gb,gm,ge⟩ ⟨zv,zn,za,zl,zc⟩ (PA.o.next Fk.o.below) HGX.o (HZ.o.later Fk.o.below);simp only[FQ.val,TQ.val]at CP;have J5:=ac CP;obtain ⟨tu0,tu1,tu2⟩:=lQ Fk.o.bu;obtain ⟨tt0,tt1,tt2,tt3⟩:=m5 HT6.o;clear CP;gi_wp2_with fail;refine aK.2 (J5.o.mono ?_);rintro e w8 ⟨⟨⟨po,pn,pa,pl,pc,pb,pm,pe⟩,rfl,UE⟩,ic⟩;clear tu0 tu1 tu2 tt0 tt1 tt2 tt3;have Wu:=ic.size;have hwX:=Fk.o.below.size;have l7:Below w8.heap.size w8 (w8.alloc (.cells #[.int .u8 po,.string pn,.slice pa pl pc,.slice pb pm pe] 36)):=cO;have uQ:=(Fk.o.later ic).later l7;have pp86:=();exact pm86
  | true=>
   have zcv:=fO (aL [] g);have zcw:=eY g [];have zcx:=fO (aC z);have zcy:=mh z;have zal:=Pz.o.2;have zam:=nU.o.1;have zan:OwnS hZ.heap.size w7 vf (dI (aL [] g)):=OwnS.later (show OwnS hZ.heap.size w4 vf (dI (aL [] g)) from RX.o.1) SK.o;have zao:∀ b,vf.ownBlock=some b->w.heap.size+3<b/\b<w4.heap.size:=fun b hb=>by
    have h1:=(RX.o.1.lt b hb);have h2:=HPB.o.lt;exact ⟨by omega,by omega⟩
   obtain ⟨m,hm⟩:=am (c_ (aL [] g ++ aC z));have LL:c_ (dI (aL [] g) ++ dI (aC z))=m:=by rw[hm];exact J2 (by omega) (by omega) (by omega) (by omega)
   have wn:m.length<=2000000:=by rw[hm];exact oZ (by simp only[dO];omega)
   have my:∀ x∈dI (aL [] g) ++ dI (aC z),x.length<=2000000:=fun x hx=>by
    rcases List.mem_append.1 hx with hx | hx
    ·exact o7 g [] nU.o.2.2.2.2.2 x ((dQ x _).1 hx)
    ·exact mG z Pz.o.1.2 x ((dQ x _).1 hx)
   have nS:(dI (aL [] g) ++ dI (aC z)).length<=1000000:=by simp only[dO];omega
   have wX:Hd (RS=.mk qo m [] [eW kk nx z (eW kk n (ao m) g)]):=ac (by rw[UD.o,mH qh,HCn.o,PD,ak (by simpa using hn),au rfl,<-hm];rfl);have HM:=cG LL wn my nS;obtain ⟨HVB,HV6⟩:=aW zao zan;have HL6:=ac (show hZ.heap.size<=w7.heap.size from aU (by have:=Hn.o.below.size;have:=HPB.o.lt;exact zcs.o) SK.o.size);have Wv:=ac (show (dI (aL [] g)).length+(dI (aC z)).length<=4000000 by omega);clear n1 PD zcv zcw zcx zcy zal zam zan zao hm LL wn my nS;gi_wp2_with (gi_at_builtin;refine pQ rfl _ _ rfl hZ.heap.size HL6.o vf _ rfl HV6.o vn _ rfl _ HVn.o.strs Wv.o ?_;intro v8 w8 Ho UG;have SL:=aG Ho UG;clear Ho UG);have Ww:=Fk.o.grown SL.o.2 (fun b hb=>(HVB.o b hb).1);have t8:w8.heap[w4.heap.size]?=some (.cells #[.int .u8 go,.string gn,.slice ga gl gc,.slice gb gm ge] 36 (0,0)):=(SL.o.2.block _ (by have:=SK.o.size;have:=(bz HT6.o);omega) (fun e=>by have:=(HVB.o _ e.symm).2;omega)).trans HT6.o;have Wx:=D5 W0 w8 (PA.o.next Ww.below) _ HM.o.2.2.2 HM.o.2.2.1 _ v8 SL.o.1.strs;rw[HM.o.1]at Wx;obtain ⟨Wy,zcz,HT8⟩:=cH Wx Ww t8;clear Wx Ww t8;refine aK.2 (Wy.o.mono ?_);rintro e w9 ⟨rfl,l7⟩;have uQ:=zcz.o.later l7;have t9:w9.heap[w4.heap.size]?=some (.cells #[.int .u8 go,.string gn,.slice ga gl gc,.slice gb gm ge] 36 (0,0)):=bJ l7 HT8.o;have q1:=ah uQ.b2 1;have zq1:=ae uQ.b2 1;have m8:=uQ.setR 1 (.string ⟨m.toArray⟩);have tA:(w9.setCell ⟨w.heap.size+1+1+1,1,none⟩ (.string ⟨m.toArray⟩)).heap[w4.heap.size]?=some (.cells #[.int .u8 go,.string gn,.slice ga gl gc,.slice gb gm ge] 36 (0,0)):=(dV _ _ _ _ (by have:=Hn.o.lt;simp <;> omega)).trans t9;obtain ⟨M0,Wz⟩:=aW m8 tA;clear l7 uQ t9 m8 tA;gi_wp2;obtain ⟨W2,a_⟩:=am (w9.setCell ⟨w.heap.size+1+1+1,1,none⟩ (.string ⟨m.toArray⟩));rw[<-a_]at M0 Wz ⊢;clear a_ q1 zq1;exact pm154):G:=h
theorem pm250(h:G:=by
 have ht:l.take k=l:=by rw[dA.o];exact cY
 rw[ht]at hR ⊢;obtain ⟨HR,HB,HT⟩:=cH hR ar ht;clear hR ar ht;rw[<-dA.o]at HR ⊢;go_wp2;go_ret
 first
 |clear pp250;exact ⟨ra,rc,rfl,by have:=HR.o.terms;rw[dA.o]at *;exact this,HB.o⟩
 |exact ⟨ra,rc,rfl,by have:=HR.o.forms;rw[dA.o]at *;exact this,HB.o⟩):G:=h
theorem pm251(h:G:=by
 have l2:=(hl (w3.alloc (.cells #[.bool false,.string ⟨#[]⟩,.slice none 0 0] 43)).drew (bE _ _ _ (by have:=lB.ts.lt;omega))).1
 first
 |clear pp251;have Nd:=ac (show R=true by rw[rJ.o,hg];rfl);have yb:=ac (bm.drew);clear lB x3 bm hl hg;go_region
  all_goals
   go_wp2;go_ret;exact ⟨by rw[Nd.o];rfl,(H1.o.1.tr H3.o).tr yb.o⟩
 |have Nd:=ac (show R=false by rw[rJ.o,hg];rfl);have yb:=ac ((((aj w3.heap.size w3).alloc (aD _) (.cells #[.bool xv,.string xn,.slice xa xl xc] 43))).drew);clear lB x3 bm hl hg hxv hpu;go_region
  all_goals
   go_wp2;go_ret;exact ⟨by rw[Nd.o];rfl,(H1.o.1.tr H3.o).tr yb.o⟩):G:=h
theorem pm252(h:G:=by
 have l2:=(hl (w4.alloc (.cells #[.bool false,.string ⟨#[]⟩,.slice none 0 0] 43)).drew (bE _ _ _ (by have:=o_.ts.lt;omega))).1
 first
 |clear pp252;obtain ⟨W5,fv⟩:=am (w4.alloc (.cells #[.bool false,.string ⟨#[]⟩,.slice none 0 0] 43)).drew;have pW:Below w4.heap.size w4 W5:=by rw[fv];exact bm.drew
  have nL:Below W3.heap.size W3 W5:=H4.o.tr pW;have Fs:Below W5.heap.size W5 W5.drew:=(aj _ _).drew;have PU:=(o_.later pW).later Fs;have zaC:=(HT.o.2.1.later nL).later Fs;obtain ⟨w6,cR,Ht,Hu,Jc⟩:=PU.storeT (fun h=>h HG.o.2.2.2.1) (by have:=PS.o.1;omega) (x:=n) (by omega) zaC HF.o.2 (l':=fS n (.mk uv n' a') k.ts) (fun y=>AQ hg y);have r0:=aa pW g0;have r1:=aa Fs r0;have r2:=aa nL e1;have r3:=aa Fs r2;have r4:=aa nL f0;have r5:=aa Fs r4;have r6:=aa nL f1;have r7:=aa Fs r6;have r8:=aa nL f2;have r9:=aa Fs r8;have HE:=ac (show R=some (fS n (.mk uv n' a') k.ts) by rw[HR.o,au (by simp[oG]),hg]);have Kb:=aG Ht ((Kp.below ((H3.o.1.tr nL).tr Fs)).trans Hu);unfold TQ.val at cR;clear o_ hl PU zaC Ht Hu Jc hg nL pW Fs;go_region
  all_goals
   rw[<-fv];clear fv;go_wp2;go_region;go_wp2;go_ret;exact ⟨Kb.o.2,true,rfl,(fun h=>by rw[HE.o]at h;cases h),(fun ts gz=>⟨rfl,nT+1,by have:=PS.o.2;omega,by rw[HE.o]at gz;cases gz;exact Kb.o.1⟩)⟩
 |obtain ⟨W5,fv⟩:=am (w4.alloc (.cells #[.bool xv,.string xn,.slice xa xl xc] 43)).drew;have pW:Below w4.heap.size w4 W5:=by rw[fv];exact cO.drew
  have nL:Below W3.heap.size W3 W5:=H4.o.tr pW;have x5:W5.heap[w4.heap.size]?=some (.cells #[.bool xv,.string xn,.slice xa xl xc] 43 (0,0)):=by rw[fv];exact ai rfl
  obtain ⟨r0,r1,r2⟩:=j4 nL f0 f1 f2;obtain ⟨s0,s1,s2,_⟩:=gN x5;have CS:=uV u (.mk uv n' a') _ _ W5 ⟨xv,xn,xa,xl,xc⟩ ⟨uv,⟨n'.toArray⟩,ua,n2,uc⟩ (HG.o.2.1 _ hpu) (HG.o.2.1 _ HF.o.2) (hxv.later pW) (HT.o.2.1.later nL);simp only[TQ.val]at CS;have sI:=ac CS;have HE:=ac (show R=if wA u (.mk uv n' a') then some k.ts else none by rw[HR.o,au (by simp[oG]),hg]);have SV:=aG (o_.later pW) (H3.o.1.tr nL);obtain ⟨bb,cQ⟩:=am (wA u (.mk uv n' a'));rw[<-cQ]at HE sI;clear o_ hl hg nL pW x5 CS cQ hxv hpu;go_region
  all_goals
   rw[<-fv];clear fv;go_wp2_with (go_at_call 162;refine sI.o.mono ?_;rintro e w6 ⟨rfl,da⟩;have H6:=ac da;clear da);go_ret;refine ⟨Kp.below (SV.o.2.tr H6.o),bb,rfl,(fun h=>?_),(fun ts gz=>?_)⟩
   ·rw[HE.o]at h;cases bb;rfl;cases h
   ·rw[HE.o]at gz;cases bb;cases gz;cases gz;exact ⟨rfl,nT,by omega,SV.o.1.later H6.o⟩):G:=h
theorem pm253(h:G:=by
 have bj:0<k0:=by rw[bX];exact iZ.2 h0
 rw[<-bX]at hlen ⊢;obtain ⟨dA,eb,HCp⟩:=cH bX hv hcp;have j9:((k0:Int) == 0)=false:=by simp;omega
 first
 |clear pp253;have xK:∀ W:World,(Instr.makeSlice 33 (.int .i64 0) (.int .i64 (k0:Int))).run Tryz.prog W=.ok (.slice (some ⟨W.heap.size,0,none⟩) 0 k0) (W.alloc (.cells (madeCells (Value.cells (.agg #[.bool false,.string ByteArray.empty,.slice none 0 0])) (k0 * 3)) 43)):=fun W=>by
   have h:=run_makeSlice (P:=Tryz.prog) W 33 43 i0 (.agg #[.bool false,.string ByteArray.empty,.slice none 0 0]) Tryz.underlying33 hi oM .i64 .i64 0 (k0:Int) (by omega) (by omega) (by rw[ju];simp;omega) (by rw[iy];omega) (by omega);simp only[Int.toNat_zero,Int.toNat_natCast,ju]at h;exact h
  have Hm:RowT w.heap.size (.slice (some ⟨w.heap.size,0,none⟩) 0 k0) (l.take 0) (w.alloc (.cells (madeCells (Value.cells (.agg #[.bool false,.string ByteArray.empty,.slice none 0 0])) (k0 * 3)) 43)):=RowT.made _ _ (aD _) (by unfold maxLen;omega) (by rw[size_madeCells]);have Px:=ac Hm;clear hv hcp bX hfit Hm h0;go_enter Tryz.func106,Tryz.ntmps106;go_wp2;go_loopw [5,16] (fun r i wr=>∃k:Nat,k<=k0/\i=.int .i64 k/\RowT w.heap.size r (l.take k) wr/\Below w.heap.size w wr) (fun _ i _=>k0 - (intOf i).toNat)
  case atStart=>exact ⟨0,aX _,rfl,Px.o,cO⟩
  case round=>
   obtain ⟨k,hk,rfl,hR,ar⟩:=hrel;obtain ⟨ra,rc,rfl⟩:=hR.slice
   by_cases hlt:k<k0
   ·have dJ:=ce dA.o hlt;have pp61b:=();exact pm61
   ·obtain rfl:k=k0:=by omega
    have pp250:=();exact pm250
 |have xK:∀ W:World,(Instr.makeSlice 34 (.int .i64 0) (.int .i64 (k0:Int))).run Tryz.prog W=.ok (.slice (some ⟨W.heap.size,0,none⟩) 0 k0) (W.alloc (.cells (madeCells (Value.cells (.agg #[.int .u8 0,.string ByteArray.empty,.slice none 0 0,.slice none 0 0])) (k0 * 4)) 36)):=fun W=>by
   have h:=run_makeSlice (P:=Tryz.prog) W 34 36 i0 (.agg #[.int .u8 0,.string ByteArray.empty,.slice none 0 0,.slice none 0 0]) Tryz.underlying34 hi oM .i64 .i64 0 (k0:Int) (by omega) (by omega) (by rw[ju];simp;omega) (by rw[iy];omega) (by omega);simp only[Int.toNat_zero,Int.toNat_natCast,ju]at h;exact h
  have Hm:RowF w.heap.size (.slice (some ⟨w.heap.size,0,none⟩) 0 k0) (l.take 0) (w.alloc (.cells (madeCells (Value.cells (.agg #[.int .u8 0,.string ByteArray.empty,.slice none 0 0,.slice none 0 0])) (k0 * 4)) 36)):=RowF.made _ _ (aD _) (by unfold maxLen;omega) (by rw[size_madeCells]);have Px:=ac Hm;clear hv hcp bX hfit Hm h0;go_enter Tryz.func108,Tryz.ntmps108;go_wp2;go_loopw [5,16] (fun r i wr=>∃k:Nat,k<=k0/\i=.int .i64 k/\RowF w.heap.size r (l.take k) wr/\Below w.heap.size w wr) (fun _ i _=>k0 - (intOf i).toNat)
  case atStart=>exact ⟨0,aX _,rfl,Px.o,cO⟩
  case round=>
   obtain ⟨k,hk,rfl,hR,ar⟩:=hrel;obtain ⟨ra,rc,rfl⟩:=hR.slice
   by_cases hlt:k<k0
   ·have dJ:=ce dA.o hlt;obtain ⟨b,off,u,rfl,_,hu,c0,c1,c2,c3⟩:=eb.o.get dJ;obtain ⟨d0,d1,d2,d3⟩:=mu ar c0 c1 c2 c3;have cB:(l.take k).length=k:=by rw[dT];omega
    rw[cB]at hR ⊢;have HU:=ac ((hu.later ar).later (W':=wr.alloc (.cells #[.int .u8 u.o,.string u.n,.slice u.a u.l u.c,.slice u.b u.m u.e] 36)) cO);obtain ⟨cv,HR,ek⟩:=cH ar hR cB;clear hu ar hR cB c0 c1 c2 c3;have CC:=ac (HCp.o l[k] (aw dJ) _ _ u HU.o);go_wp2_with fail;refine CC.o.mono ?_;rintro _ A ⟨p,rfl,hp,hA⟩;obtain ⟨qs,eE,aA,gL⟩:=HR.o;rw[ek.o]at eE aA;have cC:Below wr.heap.size wr A:=cO.trans (hA.mono (by simp));have oN:=cC.size;have Py:=cv.o.size;have HO:=ac (bi aA (fun b _ hlt=>cC.block b hlt));have HH:=bF eE aA gL;have SF:=aG hp cC;clear eE aA gL hp hA cC;have pR:(A.alloc (.cells #[.int .u8 p.o,.string p.n,.slice p.a p.l p.c,.slice p.b p.m p.e] 36)).heap.size=A.heap.size+1:=by simp
    unfold FQ.val;go_wp2_with (at_builtin;refine wpList_append_lies _ rfl _ _ 34 rfl w.heap.size 36 i0 (.agg #[.int .u8 0,.string ByteArray.empty,.slice none 0 0,.slice none 0 0]) 4 72 Tryz.underlying34 hi oM ju iy rfl (by decide) _ _ _ rfl (HO.o.alloc _) ⟨A.heap.size,0,none⟩ 1 1 p.cells rfl rfl (dc (cs:=#[.int .u8 p.o,.string p.n,.slice p.a p.l p.c,.slice p.b p.m p.e]) (t:=36) (fr:=(0,0)) (fZ _ _)) (by simp[FQ.cells,Value.oneCell']) (by decide) (by unfold maxLen;omega) (by omega) (by simp;omega) (A.heap.size+1) pR ?_;intro g eF w4 aV aq hg eD;have HG:=bF aV aq hg;clear aV aq hg eD pR);go_roundw
    case rel=>
     exact pm268
    case measure=>simp[intOf];omega
   ·obtain rfl:k=k0:=by omega
    exact pm250):G:=h
theorem pm254(h:G:=by
 obtain ⟨a,cap,hv,hc,h⟩:=h;refine ⟨a,cap,hv,hc,?_⟩
 first
 |clear pp254a;rcases h with h | ⟨b,off,ha,hok,h⟩
  ·exact .inl h
  ·by_cases h0:l=[]
   ·exact .inl h0
   ·have hk:=hb b hok (World.block_lt_of_cell? W _ (h 0 (iZ.2 h0)));exact .inr ⟨b,off,ha,hk.1,fun j hj=>dj hk.2 (h j hj)⟩
 |clear pp254b;rcases h with h | ⟨b,off,ha,_,h⟩
  ·exact .inl h
  ·exact .inr ⟨b,off,ha,h⟩
 |clear pp254c;rcases h with ⟨h,_⟩ | ⟨b,off,ha,h⟩
  ·exact .inl h
  ·exact .inr ⟨b,off,ha,trivial,h⟩
 |clear pp254d;rcases h with h | ⟨b,off,ha,h⟩
  ·exact .inl h
  ·subst ha;exact .inr ⟨b,off,rfl,fun j hj=>hk.cell (hf b (by rw[hv];rfl)) (h j hj)⟩
 |rcases h with h | ⟨b,off,ha,h⟩
  ·exact .inl h
  ·exact .inr ⟨b,off,ha,fun j hj=>aa hb (h j hj)⟩):G:=h
theorem pm255(h:G:=by
 have cB:((a.map aN).take k).length=k:=by rw[dT];have:=dA.o;simp;omega
 have ki:(a.map aN).take k=(a.map aN):=gU (by have:=dA.o;simp;omega)
 first
 |clear pp255;have pp17f:=();exact pm17
 |exact pm17):G:=h
theorem pm256(h:G:=by
 go_enter Tryz.func17,Tryz.ntmps17
 first
 |clear pp256;go_wp2_with (go_at_call 19;refine (CT.o _ HB.o).mono ?_;rintro e w1 ⟨rfl,hb1⟩;have ec:=ac hb1;clear hb1);go_ret;exact ⟨rfl,HB.o.trans (ec.o.mono HB.o.size)⟩
 |go_wp2;go_ret;exact ⟨rfl,HB.o⟩):G:=h
theorem pm257(h:G:=by
 subst sq;rw[List.getElem_append_right (by omega),List.getElem_append_right (by omega)];simp only[hk,Nat.sub_self,List.getElem_cons_zero]
 first
 |clear pp257;refine ⟨trivial,hq.move (fun b hok hlt=>⟨⟨by omega,fun e=>?_⟩,hold b (by omega) hlt (fun e=>by have:=hv b e;omega)⟩)⟩
  injection e with e;obtain rfl:g=b:=e;rcases hg with hg | hg
  ·have:=hv g hg;omega
  ·omega
 |refine hq.move (fun b hok hlt=>⟨⟨by omega,fun e=>?_⟩,hold b (by omega) hlt (fun e=>by have:=hv b e;omega)⟩)
  injection e with e;obtain rfl:g=b:=e;rcases hg with hg | hg
  ·have:=hv g hg;omega
  ·omega):G:=h
theorem pm258(h:G:=by
 clear CT Za zf gE dD Y_ hc;go_wp2_with (go_at_call 128;refine Hh.o.mono ?_;rintro e w8 ⟨rfl,rfl⟩)
 first
 |clear pp258;obtain ⟨W8,l8,x8,k8,g0,g1,g2⟩:=uL Gp.o.1 (.bool false) (.string ⟨#[]⟩) (.slice none 0 0);rw[<-l8];refine bI (v:=.tuple #[TQ.val ⟨false,⟨#[]⟩,none,0,0⟩,.bool false]) (by simp[TQ.val,results,Tryz.results98,go_sem,g0,g1,g2]) rfl ⟨⟨⟨false,⟨#[]⟩,none,0,0⟩,by rw[HE.o];rfl,fun u hu=>by rw[HE.o]at hu;cases hu⟩,Below.kp1 Gp.o.2 k8 (by omega)⟩
 |go_roundw
  case rel=>exact ⟨j3+1,by omega,by go_num,by simp,AD.o⟩
  case measure=>simp[intOf];omega):G:=h
theorem pm259(h:G:=by
 have HB:=ac ar;clear CB ar gE hq c0 hok;go_wp2_with (go_at_fn g;refine HC.o.mono ?_;rintro e w4 ⟨rfl,aO⟩;have H4:=ac aO;clear aO)
 first
 |clear pp259;go_ret;exact ⟨.inr ⟨k,_,HE.o.2.2,rfl,HE.o.1,HE.o.2.1⟩,HB.o.tr H4.o⟩
 |go_roundw
  case rel=>exact ⟨k+1,by omega,by go_num,HB.o.tr H4.o,AD.o⟩
  case measure=>simp[intOf];omega):G:=h
theorem pm260(h:G:=by
 have hB:Below wr.heap.size wr (wr.alloc (.cells #[.int .u8 u.o,.string u.n,.slice u.a u.l u.c,.slice u.b u.m u.e] 36)):=cO
 first
 |clear pp260;have e1:(wr.alloc (.cells #[.int .u8 u.o,.string u.n,.slice u.a u.l u.c,.slice u.b u.m u.e] 36)).cell? ⟨W.heap.size+1,0,none⟩=some (.map (some mb)):=aa hB (ah b1 0);have e2:(wr.alloc (.cells #[.int .u8 u.o,.string u.n,.slice u.a u.l u.c,.slice u.b u.m u.e] 36)).cell? ⟨W.heap.size+2,0,none⟩=some (.func (.yield l) #[] #[]):=aa hB (ah b2 0);have ur:(pre ++ (A ++ bq bs' (ss.take k)) ++ aL bs' ss[k]) <+: xs:=by
   have h1:bq bs' ss=bq bs' (ss.take (k+1)) ++ bq bs' (ss.drop (k+1)):=by
    conv=>lhs;rw[<-List.take_append_drop (k+1) ss]
    exact nK _ _ _
   have h2:=ob.o;rw[h1,jb]at h2;obtain ⟨r,rfl⟩:=h2;exact ⟨bq bs' (ss.drop (k+1)) ++ r,by simp⟩
  have hNn:=wm.o;have CC:=fR.o ss[k] (aw bg) M B l J xs (pre ++ (A ++ bq bs' (ss.take k))) W0 _ u mb n' bs' Cs.o Wm.o HJ.o HY.o hu (bj.trans (Kp.below hB)) (pU.same (hB.block mb pU.lt)) (by omega) (by omega) ur (HJ.o _ _ _ ((Nw.below hB)) hj);unfold FQ.val at CC;have HC:=ac CC;have HS:=bF jb Fh D3;have kL:=ac (j9.trans (Kp.below hB));clear hu hB ur CC jb Fh mw D3 pU bj j9 hj c0 c1 c2 c3 b0 b1 b2 hNn;go_wp2_with (go_at_call 149;refine HC.o.mono ?_;rintro e w3 ⟨rfl,qd,kD,aM,Pw⟩;have HH:=cG qd kD aM Pw;clear qd kD aM Pw);go_roundw
  case rel=>
   obtain ⟨n'',zcq,Wn⟩:=HH.o.2.2.1;exact ⟨k+1,by omega,by go_num,by rw[HS.o.1,<-List.append_assoc A];simpa using HH.o.1,HH.o.2.1,⟨n'',by have:=HS.o.2.1;have:=HS.o.2.2;omega,Wn⟩,kL.o.trans HH.o.2.2.2⟩
  case measure=>simp[intOf];omega
 |have xF:=bj.size;have CY:∀ b,M b->b<(wr.alloc (.cells #[.int .u8 u.o,.string u.n,.slice u.a u.l u.c,.slice u.b u.m u.e] 36)).heap.size:=fun b hb=>by have:=Cs.o b hb;simp;omega
  have ur:(pre ++ ([f] ++ dR (s.take k)) ++ kM s[k]) <+: xs:=by
   have h1:dR s=dR (s.take (k+1)) ++ dR (s.drop (k+1)):=by
    conv=>lhs;rw[<-List.take_append_drop (k+1) s]
    exact qD _ _
   have h2:=ob.o;rw[h1,jb]at h2;obtain ⟨r,rfl⟩:=h2;exact ⟨dR (s.drop (k+1)) ++ r,by simp⟩
  have CC:=fR.o s[k] (aw bg) M B l J xs (pre ++ ([f] ++ dR (s.take k))) _ u CY (fun t=>(HJ.o t).mono (by simp;omega)) (HY.o.later (bj.trans (Kp.below hB))) (hu.kp (bj.trans (Kp.below hB))) ur (HJ.o _ _ _ (Nw.below hB) hj);obtain ⟨HC,HS⟩:=aW CC jb;have kL:=ac (bj.trans (Kp.below hB));clear hu hB CY ur CC jb bj hj c0 c1 c2 c3;gi_wp2_with (gi_at_call 151;refine aK.2 (HC.o.mono ?_);rintro e w3 ⟨rfl,qd,kD⟩;have HH:=aG qd kD;clear qd kD);go_roundw
  case rel=>exact ⟨k+1,by omega,by go_num,by rw[HS.o];simpa using HH.o.1,kL.o.trans HH.o.2⟩
  case measure=>simp[intOf];omega):G:=h
theorem pm261(h:G:=by
 have CP:=ac (fun w:World=>hp ▸ oJ s[k].toNat w);clear hp;go_wp2;go_quiet ((go_at_call 189;exact fU (CP.o _)))
 first
 |clear pp261;go_wp2;go_ret;exact ⟨az (sU (sT s k j9 hlt _ HP.o)).symm,DS HW.o _⟩
 |exact pm235):G:=h
theorem pm262(h:G:=by
 have CP:=ac (fun w:World=>hp ▸ zW s[k].toNat w);clear hp;go_wp2;go_quiet ((go_at_call 217;exact fU (CP.o _)))
 first
 |clear pp262;go_wp2;go_ret;exact ⟨az (sU (sT s k j9 hlt _ HP.o)).symm,DS HW.o _⟩
 |exact pm235):G:=h
theorem pm263(h:G:=by
 obtain ⟨bb,off,⟨a0,a1,a2,a3,a4,a5,a6,a7⟩,⟨b0,b1,b2,b3,b4,b5,b6,b7⟩,rfl,hok,hs,hf,c0,c1,c2,c3,c4,c5,c6,c7⟩:=HV.o.1.get lr
 first
 |clear pp263;obtain ⟨d0,d1,d2,d3,d4,d5,d6,d7⟩:=Jp nJ c0 c1 c2 c3 c4 c5 c6 c7;simp only at d0 d1 d2 d3 d4 d5 d6 d7;have cR:=FW lr;have o8:=HV.o.2.2.2.2 _ (aw lr);obtain ⟨⟨s,f⟩,U8⟩:∃x,x=l[j]:=⟨_,rfl⟩;rw[<-U8]at cR o8 hs hf;simp only at cR o8 hs hf;obtain ⟨W5,fv⟩:=am (wr.alloc (.cells #[.int .u8 a0,.string a1,.slice a2 a3 a4,.slice a5 a6 a7,.int .u8 b0,.string b1,.slice b2 b3 b4,.slice b5 b6 b7] 50));have bm:=cV fv;have x5:=bU fv;have DK:(j:Int)<(n1:Int):=by omega
  have CS:=BK W0 s o8.1 _ W5 ((HV.o.2.2.1.next nJ).next bm) ⟨a0,a1,a2,a3,a4,a5,a6,a7⟩ ((hs.move (dw nJ)).later bm);have CR:=fun (V:World) (h:Below W5.heap.size W5 V)=>oB W0 f o8.2 _ V (((HV.o.2.2.1.next nJ).next bm).next h) ⟨b0,b1,b2,b3,b4,b5,b6,b7⟩ (((hf.move (dw nJ)).later bm).later h);simp only[FQ.val]at CS CR;obtain ⟨gs,QI⟩:=am (e9 s);obtain ⟨gr,Ow⟩:=am (cf f);rw[<-QI]at CS;rw[<-Ow]at CR;rw[<-QI,<-Ow]at cR;obtain ⟨sI,HCR,sJ⟩:=cH CS CR fv;have H5:=bF (nJ.tr bm) bm x5;have cv:=ac ar;have Ov:=((H3.o.2.1 ▸ (ar.block _ (bz H3.o.2.1))):wr.heap[w.heap.size+1]?=_);have jN:=ac (bJ bm Ov);clear CS CR fv bm x5 nJ ar hs hf o8 U8 QI Ow hok c0 c1 c2 c3 c4 c5 c6 c7 Ov lr
  cases gs with
  | false=>
   have HE:=ac (show R=(⟨[],[]⟩,j,2) by rw[HR.o];exact vK L8.o.symm (by rw[gP,cR];rfl));clear gP cR;gi_wp2_with (rw[<-sJ.o];gi_at_call 26;refine aK.2 (sI.o.mono ?_);rintro e w6 ⟨rfl,da⟩;have R7:=bJ da jN.o;obtain ⟨y0,y1,z0,z1⟩:=tN R7;have H6:=aG da R7;clear da R7);obtain ⟨W8,l8,x8,k8,g0,g1⟩:=Dv H6.o.2 (.slice none 0 0) (.slice none 0 0);rw[<-l8,Exit.noGoto_ret];have tR:Below w.heap.size w W8:=Below.kp1 (H5.o.1.tr H6.o.1) k8 (by omega);exact pm111
  | true=>
   cases gr with
   | false=>
    have HE:=ac (show R=(⟨[],[]⟩,j,2) by rw[HR.o];exact vK L8.o.symm (by rw[gP,cR];rfl));clear gP cR;gi_wp2_with (first | (rw[<-sJ.o];gi_at_call 26;refine aK.2 (sI.o.mono ?_);rintro e w6 ⟨rfl,da⟩;have QJ:=bJ da H5.o.2.2;have i4:=ah QJ 4;have i5:=ah QJ 5;have i6:=ah QJ 6;have i7:=ah QJ 7;have H6:=ac da;clear da QJ) | (gi_at_call 39;refine aK.2 ((HCR.o _ H6.o).mono ?_);rintro e w7 ⟨rfl,fW⟩;have XD:=bJ (H6.o.tr fW) jN.o;obtain ⟨y0,y1,z0,z1⟩:=tN XD;have H7:=aG (H6.o.tr fW) XD;clear fW XD));obtain ⟨W8,l8,x8,k8,g0,g1⟩:=Dv H7.o.2 (.slice none 0 0) (.slice none 0 0);rw[<-l8,Exit.noGoto_ret];have tR:Below w.heap.size w W8:=Below.kp1 (H5.o.1.tr H7.o.1) k8 (by omega);exact pm111
   | true=>
    have HG:=ac (show gg 0 l=gg (j+1) (l.drop (j+1)) by rw[gP,cR];rfl);clear gP cR;gi_wp2_with (first | (rw[<-sJ.o];gi_at_call 26;refine aK.2 (sI.o.mono ?_);rintro e w6 ⟨rfl,da⟩;have QJ:=bJ da H5.o.2.2;have i4:=ah QJ 4;have i5:=ah QJ 5;have i6:=ah QJ 6;have i7:=ah QJ 7;have H6:=ac da;clear da QJ) | (gi_at_call 39;refine aK.2 ((HCR.o _ H6.o).mono ?_);rintro e w7 ⟨rfl,fW⟩;have H7:=ac (H6.o.tr fW);clear fW));go_roundw
    case rel=>exact ⟨j+1,by omega,by go_num,(cv.o.tr H5.o.2.1).tr H7.o,HG.o⟩
    case measure=>simp[intOf];omega
 |obtain ⟨d0,d1,d2,d3,d4,d5,d6,d7⟩:=Jp lM c0 c1 c2 c3 c4 c5 c6 c7;simp only at d0 d1 d2 d3 d4 d5 d6 d7;have cR:=BL (step:=bK) (k:=kj) lr;have pp57:=();exact pm57):G:=h
theorem pm264(h:G:=by
 obtain ⟨qs,hk,ho,ht⟩:=h;rcases fT ho with ⟨rfl,h0⟩ | ⟨g,cap,rfl,hg,_⟩
 first
 |clear pp264a
  ·obtain rfl:=jJ h0;exact cq
  ·refine ⟨_,cap,fun j=>if h:j<qs.length then qs[j].val else .bool false,rfl,.inr ⟨g,0,rfl,hg,fun j hj=>?_⟩,fun j hj=>?_⟩
   ·have sS:j<qs.length:=by omega
    simp only[dif_pos sS,Nat.zero_add];exact GH ho j sS
   ·have sS:j<qs.length:=by omega
    simp only[dif_pos sS];exact (ht j sS hj).move (fun b hok _=>⟨hok.1,rfl⟩)
 |clear pp264b
  ·obtain rfl:=jJ h0;exact gI
  ·refine ⟨_,cap,fun j=>if h:j<qs.length then qs[j].val else .bool false,rfl,.inr ⟨g,0,rfl,hg,fun j hj=>?_⟩,fun j hj=>?_⟩
   ·have sS:j<qs.length:=by omega
    simp only[dif_pos sS,Nat.zero_add];exact xI ho j sS
   ·have sS:j<qs.length:=by omega
    simp only[dif_pos sS];exact (ht j sS hj).move (fun b hok _=>⟨hok.1,rfl⟩)
 |·obtain rfl:=jJ h0;exact gI
  ·refine ⟨_,cap,fun j=>if h:j<qs.length then qs[j].val else .bool false,rfl,.inr ⟨g,0,rfl,trivial,fun j hj=>?_⟩,fun j hj=>?_⟩
   ·have sS:j<qs.length:=by omega
    simp only[dif_pos sS,Nat.zero_add];exact xI ho j sS
   ·have sS:j<qs.length:=by omega
    simp only[dif_pos sS];exact (ht j sS hj).move (fun b _ _=>⟨trivial,rfl⟩)):G:=h
theorem pm265(h:G:=by
 go_wp2_with (go_at_call 22;refine sI.o.mono ?_;rintro e w' ⟨rfl,hb⟩;have gG:=ac hb;clear hb);go_ret
 first
 |clear pp265;exact ⟨by rw[HE.o];rfl,HB.o.tr gG.o⟩
 |exact ⟨by rw[HE.o];rfl,(jj.o.1.tr HB.o).tr gG.o⟩):G:=h
theorem pm266(h:G:=by
 intro m ok ok' w a n c a' n' c' hfit hl hm;obtain rfl:=hl.len;obtain rfl:=hm.len;have hlen:=hfit.len
 by_cases nS:l.length=m.length
 first
 |clear pp266
  ·obtain ⟨k0,bX⟩:=am l.length;rw[<-nS,<-bX];rw[<-bX]at hlen;obtain ⟨dA,Wv,HL,HM,fR,HF⟩:=VE bX nS hl hm ih hfit;clear bX nS hl hm ih hfit;go_enter Tryz.func19,Tryz.ntmps19;have pp179:=();exact pm179
  ·have jZ:jl l m=false:=by
    cases he:jl l m with
    | false=>rfl
    | true=>exact absurd (by rw[(h_ _ _).1 he]) nS
   have pp153:=();exact pm153
 |·obtain ⟨k0,bX⟩:=am l.length;rw[<-nS,<-bX];rw[<-bX]at hlen;obtain ⟨dA,Wv,HL,HM,fR,HF⟩:=VE bX nS hl hm ih hfit;clear bX nS hl hm ih hfit;go_enter Tryz.func52,Tryz.ntmps52;exact pm179
  ·have jZ:nY l m=false:=by
    cases he:nY l m with
    | false=>rfl
    | true=>exact absurd (by rw[(oc _ _).1 he]) nS
   exact pm153):G:=h
theorem pm267(h:G:=by
 obtain ⟨b,off,u,rfl,_,hu,c0,c1,c2⟩:=HL.o.get bg;obtain ⟨b',jD,u',rfl,_,gu,j6,kG,kH⟩:=HM.o.get kt;have hf:=HF.o.mem (aw bg)
 first
 |clear pp267;have EW:=fw.o.mem (aw kt);have pG:=fR.o l[k] (aw bg);rw[M8 bg kt]at ht;obtain ⟨e,he⟩:=am (uU l[k] m[k]);have f0:=fun x:Later wr=>x.get (aa ar c0);have f1:=fun x:Later wr=>x.get (aa ar c1);have f2:=fun x:Later wr=>x.get (aa ar c2);have f3:=fun x:Later wr=>x.get (aa ar j6);have f4:=fun x:Later wr=>x.get (aa ar kG);have f5:=fun x:Later wr=>x.get (aa ar kH);have CC:=ac (fun (x:Later wr)=>pK l[k] pG m[k] ok ok' x.w u u' hf EW ((hu.later ar).later x.below) ((gu.later ar).later x.below));unfold TQ.val at CC;rw[<-he]at ht CC;obtain ⟨HB,HT⟩:=aW ar ht;clear hu gu pG hf EW ar ht c0 c1 c2 j6 kG kH he;go_wp2;refine aH (by kernel_rfl) (by kernel_rfl) ?_
  repeat (go_big_quiet_step ((go_at_call 226;exact bO (CC.o _))))
  refine wpQuiet_nil ?_;rintro _ ⟨x',rfl⟩;clear f0 f1 f2 f3 f4 f5;have cw:=ac (HB.o.trans (x'.below.mono HB.o.size))
  by_cases h0:e=0
  ·subst h0;go_wp2;go_roundw
   case rel=>exact ⟨k+1,by omega,by go_num,cw.o,by simpa using HT.o⟩
   case measure=>simp[intOf];omega
  ·have d1:(e == 0)=false:=by simpa using h0
   have d2:(e != 0)=true:=by simpa using h0
   have HE:=ac (show R=e by have:=HT.o;simpa[h0] using this);clear h0;go_wp2;go_ret;exact ⟨rB HE.o.symm,cw.o⟩
 |have pG:=fR.o l[k] (aw bg);obtain ⟨⟨xv,xn,xa⟩,hx⟩:∃x,l[k]=x:=⟨_,rfl⟩;obtain ⟨⟨yv,yn,ya⟩,hy⟩:∃x,m[k]=x:=⟨_,rfl⟩;rw[hx]at hu hf pG;rw[hy]at gu;obtain ⟨s1,h1,e_⟩:=aP.1 hu;obtain ⟨s2,h2,yX⟩:=aP.1 gu;obtain ⟨uv,un,ua,ul,uc⟩:=u;obtain ⟨vv,vn,va,vl,vc⟩:=u';have pp64e:=();exact pm64):G:=h
theorem pm268(h:G:=by
 obtain ⟨eE,aA,gL⟩:=HH.o;obtain ⟨hp,cC⟩:=SF.o;obtain ⟨aV,aq,hg⟩:=HG.o;have Fg:=aq.size;simp only[World.size_alloc]at Fg
 first
 |clear pp268;have h4:=RowT.step (lo:=w.heap.size) (v:=.slice ra k rc) (ts:=l.take k) (t:=l[k]) (W:=wr) (W1:=A) (w4:=w4) (q:=p) (g:=g) (cap:=eF) (by rw[ek.o];exact eE) cC Py (fun j h1 h2=>gL j h1 h2) (fun b hb=>(aA.lt b hb).2) (hp.move (fun b hok _=>⟨aU (by simp) hok,rfl⟩)) (by rw[ek.o];exact aV)
   (fun c _ hc hn=>(aq.block c (by simp;omega) (fun e=>hn e.symm)).trans (bE _ _ _ (by omega))) (by rcases hg with h | h;exact .inl h;exact .inr (by omega))
  exact pm196
 |have h4:=RowF.step (lo:=w.heap.size) (v:=.slice ra k rc) (ts:=l.take k) (t:=l[k]) (W:=wr) (W1:=A) (w4:=w4) (q:=p) (g:=g) (cap:=eF) (by rw[ek.o];exact eE) cC Py (fun j h1 h2=>gL j h1 h2) (fun b hb=>(aA.lt b hb).2) (hp.move (fun b hok _=>⟨aU (by simp) hok,rfl⟩)) (by rw[ek.o];exact aV)
   (fun c _ hc hn=>(aq.block c (by simp;omega) (fun e=>hn e.symm)).trans (bE _ _ _ (by omega))) (by rcases hg with h | h;exact .inl h;exact .inr (by omega))
  exact pm196):G:=h
theorem pm269(h:G:=by
 obtain ⟨a',cap,hv,_,h⟩:=h;injection hv with hv _ _;subst hv
 first
 |clear pp269a;rcases h with rfl | ⟨b,off,ha,hc⟩
  ·simp at hj
  ·exact ⟨b,off,ha,hc⟩
 |clear pp269b;rcases h with rfl | ⟨b,off,ha,hok,hc⟩
  ·simp at hj
  ·exact ⟨b,off,ha,hok,hc j hj⟩
 |clear pp269c;rcases h with rfl | ⟨b,off,ha,hc⟩
  ·exact absurd rfl hl
  ·exact ⟨b,off,ha,hc⟩
 |rcases h with ⟨rfl,_⟩ | ⟨b,off,ha,hc⟩
  ·simp at hj
  ·exact ⟨b,off,ha,(hc j hj).1,(hc j hj).2⟩):G:=h
theorem pm270(h:G:=by
 rintro D c pre X _ hD dx ⟨rfl,k',er,h2,h3,h4,h5,h6⟩ hd;obtain ⟨rs,hrs⟩:=dx;have XJ:=rn pre rs kj k' er h2 h3;rw[hrs]at XJ
 first
 |clear pp270;have gX:ew bK 0 k l=(k',j,er):=by rw[UX.o,XJ,ak h2]
  have HE:=ac (show R=(⟨[],[]⟩,j,er) by rw[y_.o,<-tw.o.1 (by simp),gX];exact au h2);exact pm93
 |have gX:ew ev 0 k l=(k',j,er):=by rw[UX.o,XJ,ak h2]
  have HE:=ac (show R=(⟨[],[]⟩,j,er) by rw[y_.o,tw.o.2.1 (by simp)];simp only[ne_eq,not_true_eq_false,↓reduceIte];rw[gX];exact au h2);exact pm93):G:=h
theorem pm271(h:G:=by
 obtain ⟨⟨a,cap,rfl,hc,h⟩,hM⟩:=h;refine ⟨⟨a,cap,rfl,hc,?_⟩,hM⟩;rcases h with h | ⟨b,off,rfl,h⟩
 ·exact .inl h
 first
 |clear pp271
  ·exact .inr ⟨b,off,rfl,fun j hj=>⟨hk.cell (hM b rfl) (h j hj).1,hk.cell (hM b rfl) (h j hj).2⟩⟩
 |·exact .inr ⟨b,off,rfl,fun j hj=>⟨hb.cell hl (h j hj).1,hb.cell hl (h j hj).2⟩⟩):G:=h
theorem pm272(h:G:=by
 rw[qM hq];simp only[si,hq,Bool.not_false,Bool.true_or,du];refine (qX _).2 fun g hg=>?_;obtain ⟨g',yU,rfl⟩:=List.mem_map.1 hg
 first
 |clear pp272;exact rP k g' x y ((iD s).1 hw.2 g' yU) ((gy s).1 hq1.2 g' yU) (by have:=iR s g' yU;omega) (by have:=jR s g' yU;omega) ((qX s).1 hb.2 g' yU)
 |exact zD (u:=u) k g' x ((iD s).1 hw.2 g' yU) ((gy s).1 hq1.2 g' yU) (by have:=iR s g' yU;omega) (by have:=jR s g' yU;omega) ((qX s).1 hb.2 g' yU)):G:=h
theorem pm273(h:G:=by
 go_wp2_with (go_at_call 119;refine (C1.o _).mono ?_;rintro e w' ⟨rfl,hb⟩);go_ret;exact ⟨by simp,hb⟩):G:=h
theorem pm274(h:G:=by
 have b0:=(j9.same W.heap.size pT.o.1 pT.o.2.1).trans MC.o;have b1:=(j9.same (W.heap.size+1) pT.o.2.2.1 pT.o.2.2.2.1).trans jN.o
 first
 |clear pp274;have b2:=(j9.same (W.heap.size+2) pT.o.2.2.2.2.1 pT.o.2.2.2.2.2).trans HX2.o
  by_cases hlt:k<m0
  ·have bg:=ce gR.o hlt;obtain ⟨b,off,u,rfl,ja,hu,c0,c1,c2,c3⟩:=Pa.o.get bg;exact pm300
  first
  |clear pp11
   ·obtain rfl:m0=k:=by omega
    have ht:ss.take m0=ss:=by rw[gR.o];exact cY
    rw[ht]at hj D3;have Gn:=ac D3;have HH:=cG hj bj pU j9;clear hj bj pU j9 ht b0 b1 b2 D3;go_wp2;simp only[bodyPostD];refine ⟨.bool true,by simp[results,Tryz.results149,go_sem],rfl,HH.o.1,HH.o.2.1,⟨n',by have:=Gn.o;have:=wm.o;omega,by have h:=HH.o.2.2.1;rw[gG.o]at h;exact h⟩,(Kp.below ec.o).trans HH.o.2.2.2⟩
  |·obtain rfl:m0=k:=by omega
    have ht:ss.take m0=ss:=by rw[gR.o];exact cY
    rw[ht]at hj D3;have Gn:=ac D3;have HH:=cG hj bj pU j9;have f1:wr.cell? ⟨W.heap.size+1,0,none⟩=some (.map (some mb)):=ah b1 0;have f0:wr.cell? ⟨W.heap.size,1,none⟩=some (.string ⟨nm.toArray⟩):=ah b0 1;have CD:=SE mb n' W.heap.size bs nm Jy.o (by have:=Gn.o;have:=wm.o;omega) (by have:=wm.o;omega) .returning wr f1 f0 (gG.o ▸ pU);have HCD:=ac CD;clear hj bj pU j9 ht b0 b1 b2 D3 CD f0 f1;go_wp2;refine leaves_cons (f:=215) (args:=#[.pointer (some ⟨W.heap.size+1,0,none⟩),.pointer (some ⟨W.heap.size,0,none⟩)]) (by simp) (by simp[go_sem]) ?_;refine HCD.o.mono ?_;rintro e u' w5 ⟨rfl,rfl,bm,hg5,J4,hn5⟩;have hmS:=HMS.o;refine ⟨.bool true,by simp[results,Tryz.results149,go_sem],rfl,HJ.o _ _ _ (hn5 _ Wm.o) HH.o.1,Pv HH.o.2.1 (hn5 _ Wm.o) (aD _),⟨n'+1,by have:=Gn.o;have:=wm.o;omega,bm⟩,((Kp.below ec.o).trans HH.o.2.2.2).trans ⟨hg5.os,hg5.tape,hg5.output,Nat.le_of_eq J4.symm,fun b hb hm=>hg5.block b hb (fun h=>hm (.inr (by cases h;rfl)))⟩⟩
 |have x0:wr.cell? ⟨W.heap.size,0,none⟩=some (.int .u8 uo):=ah b0 0;have x1:wr.cell? ⟨W.heap.size,1,none⟩=some (.string ⟨nm.toArray⟩):=ah b0 1;have x2:wr.cell? ⟨W.heap.size,2,none⟩=some (.slice ua k0 uc):=ah b0 2;have x3:wr.cell? ⟨W.heap.size,3,none⟩=some (.slice ub m0 ue):=ah b0 3;have x4:wr.cell? ⟨W.heap.size+1,0,none⟩=some (.map (some mb)):=ah b1 0
  cases qh:bh uo with
  | false=>
   have gG:Hd (bs'=bs):=ac (by rw[gG.o,qh];rfl);have pp294:=();exact pm294
  | true=>
   have gG:Hd (bs'=nm :: bs):=ac (by rw[gG.o,qh];rfl);exact pm294):G:=h
theorem pm275(h:G:=by
 have pP:W2.heap.size=w.heap.size+1+1:=by omega
 have HZ3:=ac pP;rw[pP]at C2;obtain ⟨zw,cw,fp,VW⟩:=eH C2 bB a_ pN;rw[a_]at zw
 first
 |clear pp275;clear C2 bB a_ pN qg hq hfit iy pP;obtain ⟨qv,qn,qa,ql,qc⟩:=q;unfold TQ.val;go_enter Tryz.func166,Tryz.ntmps166;go_wp2_with (go_at_call 220;refine (C0 ⟨qv,qn,qa,ql,qc⟩ _).mono ?_;rintro e w2 ⟨rfl,rfl⟩);exact pm67
 |clear C2 bB a_ pN qg hq hfit iy pP ze;obtain ⟨qo,qn,qa,ql,qc,qb,qm,qe⟩:=q;unfold FQ.val;go_enter Tryz.func40,Tryz.ntmps40;go_wp2_with (go_at_call 85;refine (De ⟨qo,qn,qa,ql,qc,qb,qm,qe⟩ _).mono ?_;rintro e w2 ⟨rfl,rfl⟩);exact pm67):G:=h
theorem pm276(h:G:=by
 obtain ⟨qs,hk,ho,ht⟩:=h;exact ⟨qs,hk,bi ho hb,fun j h1 h2=>(ht j h1 h2).move (fun b hok hlt=>⟨hok,hb b hok.1 hlt⟩)⟩):G:=h
theorem pm277(h:G:=by
 refine m4 Tryz.func69 ?_;simp only[Tryz.ntmps69,Nat.reduceAdd,Nat.reduceSub,lu]
 first
 |clear pp277;have iz:=fd
  first
  |clear pp14;gi_wp2_with (gi_at_call 123;refine aK.2 ((CP.o _).mono ?_);rintro e w3 ⟨rfl,aM⟩;obtain ⟨b1,b2,b3,b0⟩:=ON HY.o aM;have p1:w3.cell? ⟨w.heap.size,1,none⟩=some (.string ⟨n.toArray⟩):=ah b0 1;have p2:w3.cell? ⟨w.heap.size,2,none⟩=some (.slice qa k0 qc):=ah b0 2;have bD:=ac b1;have VN:=ac b2;have uh:=ac b3;clear aM b1 b2 b3 b0);obtain ⟨W1,bY⟩:=am w3;have iN:Below w.heap.size w W1:=by rw[bY];exact bD.o
   have x1:W1.heap[w.heap.size+1]?=some (.cells #[.bool false,.string ⟨#[]⟩,.slice none 0 0] 43 (0,0)):=by rw[bY];exact VN.o
   have x2:W1.heap[w.heap.size+1+1]?=some (.cells #[.bool true,.string ⟨n.toArray⟩,.slice none 0 0] 43 (0,0)):=by rw[bY];exact uh.o
   rw[<-bY];clear bY;obtain ⟨ec,jN⟩:=aW iN x1;have wI:=ac (Fills.start (R:=w.heap.size+1+1) (mk:=fun rr=>#[.bool true,.string ⟨n.toArray⟩,rr]) (Row:=fun r W=>RowT W1.heap.size r ((a.map aN).take 0) W) x2 (RowT.nil _ _));clear iN x1 x2;gi_loopw [25] (fun i wr=>∃k:Nat,k<=k0/\i=.int .i64 k/\∃row,Fills 43 (w.heap.size+1+1) W1.heap.size (fun rr=>#[.bool true,.string ⟨n.toArray⟩,rr]) (fun r W=>RowT W1.heap.size r ((a.map aN).take k) W) W1 wr row) (fun i _=>k0 - (intOf i).toNat)
   case atStart=>exact ⟨0,aX _,rfl,_,wI.o⟩
   case round=>
    have pp0b:=();exact pm0
  |gi_wp2_with (gi_at_call 123;refine aK.2 ((CP.o _).mono ?_);rintro e w3 ⟨rfl,aM⟩;obtain ⟨b1,b2,b3,b0⟩:=ON HY.o aM;have p1:w3.cell? ⟨w.heap.size,1,none⟩=some (.string ⟨n.toArray⟩):=ah b0 1;have p2:w3.cell? ⟨w.heap.size,2,none⟩=some (.slice qa k0 qc):=ah b0 2;have bD:=ac b1;have VN:=ac b2;have uh:=ac b3;have e1:w3.cell? ⟨w.heap.size+1+1,1,none⟩=some (.string ⟨n.toArray⟩):=ah b3 1;have z1:w3.frozen? ⟨w.heap.size+1+1,1,none⟩=false:=ae b3 1;clear aM b1 b2 b3 b0);obtain ⟨W1,bY⟩:=am (w3.setCell ⟨w.heap.size+1+1,1,none⟩ (.string ⟨r.toArray⟩));have iN:Below w.heap.size w W1:=by rw[bY];exact bD.o.setCell (by simp;omega) _
   have x1:W1.heap[w.heap.size+1]?=some (.cells #[.bool false,.string ⟨#[]⟩,.slice none 0 0] 43 (0,0)):=by rw[bY];exact (dV _ _ _ _ (by simp)).trans VN.o
   have x2:W1.heap[w.heap.size+1+1]?=some (.cells #[.bool true,.string ⟨r.toArray⟩,.slice none 0 0] 43 (0,0)):=by rw[bY];exact (aY uh.o _).trans rfl
   rw[<-bY];clear bY;obtain ⟨ec,jN⟩:=aW iN x1;have wI:=ac (Fills.start (R:=w.heap.size+1+1) (mk:=fun rr=>#[.bool true,.string ⟨r.toArray⟩,rr]) (Row:=fun r W=>RowT W1.heap.size r ((a.map aN).take 0) W) x2 (RowT.nil _ _));clear iN x1 x2;gi_loopw [25] (fun i wr=>∃k:Nat,k<=k0/\i=.int .i64 k/\∃row,Fills 43 (w.heap.size+1+1) W1.heap.size (fun rr=>#[.bool true,.string ⟨r.toArray⟩,rr]) (fun r W=>RowT W1.heap.size r ((a.map aN).take k) W) W1 wr row) (fun i _=>k0 - (intOf i).toNat)
   case atStart=>exact ⟨0,aX _,rfl,_,wI.o⟩
   case round=>
    exact pm0
 |have pp56a:=();exact pm56):G:=h
theorem pm278(h:G:=by
 have jb:=fK bg;have hB:Below wr.heap.size wr (wr.alloc (.cells #[.bool u.v,.string u.n,.slice u.a u.l u.c] 43)):=cO
 first
 |clear pp278;have xF:=bj.size;have CY:∀ b,M b->b<(wr.alloc (.cells #[.bool u.v,.string u.n,.slice u.a u.l u.c] 43)).heap.size:=fun b hb=>by have:=Cs.o b hb;simp;omega
  first
  |clear pp28a;have ur:(pre ++ ([] ++ ap (a.take k)) ++ aC a[k]) <+: xs:=by
    exact pm73
   have CC:=fR.o a[k] (aw bg) M B l J xs (pre ++ ([] ++ ap (a.take k))) _ u CY (fun t=>(HJ.o t).mono (by simp;omega)) (HY.o.later (bj.trans (Kp.below hB))) (hu.kp (bj.trans (Kp.below hB))) ur (HJ.o _ _ _ (Nw.below hB) hj);unfold TQ.val at CC;obtain ⟨HC,HS⟩:=aW CC jb;have kL:=ac (bj.trans (Kp.below hB));clear hu hB CY ur CC jb bj hj c0 c1 c2;gi_wp2_with (gi_at_call 214;refine aK.2 (HC.o.mono ?_);rintro e w3 ⟨rfl,qd,kD⟩;have HH:=aG qd kD;clear qd kD);go_roundw
   case rel=>exact ⟨k+1,by omega,by go_num,by rw[HS.o];simpa using HH.o.1,kL.o.trans HH.o.2⟩
   case measure=>simp[intOf];omega
  |clear pp28b;have ur:(pre ++ ([n] ++ ap (a.take k)) ++ aC a[k]) <+: xs:=by
    exact pm73
   have CC:=fR.o a[k] (aw bg) M B l J xs (pre ++ ([n] ++ ap (a.take k))) _ u CY (fun t=>(HJ.o t).mono (by simp;omega)) (HY.o.later (bj.trans (Kp.below hB))) (hu.kp (bj.trans (Kp.below hB))) ur (HJ.o _ _ _ (Nw.below hB) hj);unfold TQ.val at CC;obtain ⟨HC,HS⟩:=aW CC jb;have kL:=ac (bj.trans (Kp.below hB));clear hu hB CY ur CC jb bj hj c0 c1 c2;gi_wp2_with (gi_at_call 214;refine aK.2 (HC.o.mono ?_);rintro e w3 ⟨rfl,qd,kD⟩;have HH:=aG qd kD;clear qd kD);go_roundw
   case rel=>exact ⟨k+1,by omega,by go_num,by rw[HS.o];simpa using HH.o.1,kL.o.trans HH.o.2⟩
   case measure=>simp[intOf];omega
  |clear pp28c;have ur:(pre ++ ([] ++ ap (a.take k)) ++ aC a[k]) <+: xs:=by
    exact pm73
   have CC:=fR.o a[k] (aw bg) M B J xs (pre ++ ([] ++ ap (a.take k))) _ u CY (fun t=>(HJ.o t).mono (by simp;omega)) HG.o (hu.kp (bj.trans (Kp.below hB))) ur (HJ.o _ _ _ ((Nw.below hB)) hj);unfold TQ.val at CC;obtain ⟨HC,HS⟩:=aW CC jb;have kL:=ac (bj.trans (Kp.below hB));clear hu hB CY ur CC jb bj hj c0 c1 c2;go_wp2_with (go_at_call 214;refine HC.o.mono ?_;rintro e w3 ⟨rfl,qd,kD⟩;have HH:=aG qd kD;clear qd kD);go_roundw
   case rel=>exact ⟨k+1,by omega,by go_num,by rw[HS.o];simpa using HH.o.1,kL.o.trans HH.o.2⟩
   case measure=>simp[intOf];omega
  |have ur:(pre ++ ([n] ++ ap (a.take k)) ++ aC a[k]) <+: xs:=by
    exact pm73
   have CC:=fR.o a[k] (aw bg) M B J xs (pre ++ ([n] ++ ap (a.take k))) _ u CY (fun t=>(HJ.o t).mono (by simp;omega)) HG.o (hu.kp (bj.trans (Kp.below hB))) ur (HJ.o _ _ _ ((Nw.below hB)) hj);unfold TQ.val at CC;obtain ⟨HC,HS⟩:=aW CC jb;have kL:=ac (bj.trans (Kp.below hB));clear hu hB CY ur CC jb bj hj c0 c1 c2;go_wp2_with (go_at_call 214;refine HC.o.mono ?_;rintro e w3 ⟨rfl,qd,kD⟩;have HH:=aG qd kD;clear qd kD);go_roundw
   case rel=>exact ⟨k+1,by omega,by go_num,by rw[HS.o];simpa using HH.o.1,kL.o.trans HH.o.2⟩
   case measure=>simp[intOf];omega
 |have xF:=j9.size;have hmW:=HMW.o.1;have Ph:=HS1.o;have CY:∀ b,(M b\/b=mb)->b<(wr.alloc (.cells #[.bool u.v,.string u.n,.slice u.a u.l u.c] 43)).heap.size:=fun b hb=>by
   rcases hb with hb | hb
   ·have:=Cs.o b hb;have:=HMW.o.2;simp;omega
   ·simp;omega
  have ur:(ap (a.take k) ++ aC a[k]) <+: ap a:=by
   exact pm302
  have CC:=AJ (W.heap.size+1) (W.heap.size+2) a[k] (HFT.o _ (aw bg)) (fun b=>M b\/b=mb) wr.heap.size (FrJ J pre M W0 mb n bs l W.heap.size) (ap a) (ap (a.take k)) _ u CY (fun t=>(HFA.o wr xF t).mono (by simp)) HG.o
   ((hu.move (ok':=fun b=>b<wr.heap.size/\¬(M b\/b=mb)) (fun b hb hlt=>⟨⟨bH hlt hj.kp.size,fun h=>by rcases h with h | h;exact hb.2 h;have:=Wm.o;omega⟩,(Kp.trans hj.kp (Kp.below hB)).same b hlt hb.2⟩))) ur (HFA.o wr xF _ _ _ (Nw.below hB) hj)
  unfold TQ.val frV at CC;obtain ⟨HC,HS⟩:=aW CC jb;have kL:=ac (j9.trans (Kp.below hB));clear hu hB CY ur CC jb j9 hj c0 c1 c2 hmW Ph xF;go_wp2_with (go_at_call 214;refine HC.o.mono ?_;rintro e w3 ⟨rfl,qd,kD⟩;have HH:=aG qd kD;clear qd kD);go_roundw
  case rel=>exact ⟨k+1,by omega,by go_num,by rw[HS.o];exact HH.o.1,kL.o.trans HH.o.2⟩
  case measure=>simp[intOf];omega):G:=h
theorem pm279(h:G:=by
 obtain ⟨W6,dm,x6,k6,g0,g1,g2,g3⟩:=AG H5.o.2 (.int .u8 0) (.string ⟨#[]⟩) (.slice none 0 0) (.slice none 0 0);rw[<-dm]
 first
 |clear pp279;have HE:=ac (show RS=none from Pq.o.2.1 (AD.o (by simp)));exact pm115
 |have HE:=ac (show RS=none from y_.o.1 (AD.o (by simp)));exact pm115):G:=h
theorem pm280(h:G:=by
 go_wp2;go_ret;exact ⟨az (wG (by rw[kf];omega) HR.o (by rw[n_ h1];exact HF.o) (by have:=HA.o;rwa [zU]at this)).symm,HW.o⟩):G:=h
theorem pm281(h:G:=by
 obtain ⟨b,rfl,h1,h2,_⟩:=hv;obtain ⟨b',cs,rfl,h3,q,hq,h4⟩:=hf;cases h1
 first
 |clear pp281a;simp only[FQ.val,cF]at hq;exact pm133
 |clear pp281b;simp only[TQ.val,cF]at hq;exact pm133
 |simp only[BQ.val,cF]at hq;exact pm133):G:=h
theorem pm282(h:G:=by
 rw[hb]at C;obtain ⟨HC,HB⟩:=aW C hB;clear C hB hJ hb hn hq hf;have HW:=ac a_;rw[a_]at HC;clear a_;unfold FQ.val at HC ⊢
 first
 |clear pp282;obtain ⟨bb,cQ⟩:=am (cf t);rw[<-cQ]at HC ⊢;clear cQ;cases bb
  all_goals
   go_enter Tryz.func39,Tryz.ntmps39;go_wp2_with (go_at_call 64;refine HC.o.mono ?_;rintro e w3 ⟨rfl,kD,_⟩;have m7:=ac kD;clear kD);go_ret;refine ⟨rfl,?_⟩;rw[<-HW.o]at m7;exact Below.kp1 HB.o m7.o (by omega)
 |obtain ⟨bb,cQ⟩:=am (e9 t);rw[<-cQ]at HC ⊢;clear cQ;cases bb
  all_goals
   go_enter Tryz.func26,Tryz.ntmps26;go_wp2_with (go_at_call 64;refine HC.o.mono ?_;rintro e w3 ⟨rfl,kD,_⟩;have m7:=ac kD;clear kD);go_ret;refine ⟨rfl,?_⟩;rw[<-HW.o]at m7;exact Below.kp1 HB.o m7.o (by omega)):G:=h
theorem pm283(h:G:=by
 have hli:¬((n1:Int)=(n2:Int)):=by omega
 have hlb:((n1:Int) == (n2:Int))=false:=by simp[hli]
 have LJ:(n == n)=true:=by simp
 first
 |clear pp283;clear oG Kc Cu;have pp7b:=();exact pm7
 |exact pm88):G:=h
theorem pm284(h:G:=by
 refine m4 Tryz.func154 ?_;simp only[Tryz.ntmps154,Nat.reduceAdd,Nat.reduceSub,lu]
 first
 |clear pp284;have iz:=fd;have Pc:Below w.heap.size w ((w.alloc (.cells #[.bool true,.string ⟨n.toArray⟩,.slice qa k0 qc] 43)).alloc (.cells #[.bool false,.string ⟨#[]⟩,.slice none 0 0] 43)):=cO.alloc (by simp) _;have y1:((w.alloc (.cells #[.bool true,.string ⟨n.toArray⟩,.slice qa k0 qc] 43)).alloc (.cells #[.bool false,.string ⟨#[]⟩,.slice none 0 0] 43)).heap[w.heap.size+1]?=some (.cells #[.bool false,.string ⟨#[]⟩,.slice none 0 0] 43 (0,0)):=ai (by simp);have y0:((w.alloc (.cells #[.bool true,.string ⟨n.toArray⟩,.slice qa k0 qc] 43)).alloc (.cells #[.bool false,.string ⟨#[]⟩,.slice none 0 0] 43)).heap[w.heap.size]?=some (.cells #[.bool true,.string ⟨n.toArray⟩,.slice qa k0 qc] 43 (0,0)):=(bE _ _ _ (by simp)).trans (ai rfl);have rX:((w.alloc (.cells #[.bool true,.string ⟨n.toArray⟩,.slice qa k0 qc] 43)).alloc (.cells #[.bool false,.string ⟨#[]⟩,.slice none 0 0] 43)).heap.size=w.heap.size+2:=by simp
  have CI:=hI n ((w.alloc (.cells #[.bool true,.string ⟨n.toArray⟩,.slice qa k0 qc] 43)).alloc (.cells #[.bool false,.string ⟨#[]⟩,.slice none 0 0] 43)) mw (LI.o.tr Pc);rw[su]at CI;have HY:=cG Pc y1 y0 rX;have Uo:=ac CI
  first
  |clear pp23;clear Pc y1 y0 rX CI su;gi_wp2_with (gi_at_fn g;refine aK.2 (Uo.o.mono ?_);rintro e w3 ⟨⟨q3,rfl,Pe⟩,aM⟩;obtain ⟨Us,Ut,Uu,Uv,Uw⟩:=q3;simp only[TQ.val,Option.isSome]at Pe ⊢;have b1:=HY.o.1.tr aM;have y1:=(aM.block _ (by have:=HY.o.2.2.2;omega)).trans HY.o.2.1;have y0:=(aM.block _ (by have:=HY.o.2.2.2;omega)).trans HY.o.2.2.1;have pP:=aM.size;have pR:=HY.o.2.2.2;have JP:w.heap.size+2<=w3.heap.size:=(by omega);have bD:=cG b1 y1 y0 Pe;clear aM b1 pP pR Pe;have p0:w3.cell? ⟨w.heap.size,0,none⟩=some (.bool true):=ah y0 0;have p1:w3.cell? ⟨w.heap.size,1,none⟩=some (.string ⟨n.toArray⟩):=ah y0 1;have p2:w3.cell? ⟨w.heap.size,2,none⟩=some (.slice qa k0 qc):=ah y0 2;have aO:Below w3.heap.size w3 (w3.alloc (.cells #[.bool Us,.string Ut,.slice Uu Uv Uw] 43)):=cO;have q0:=aa aO p0;have q1:=aa aO p1;have q2:=aa aO p2;have da:Below (w3.alloc (.cells #[.bool Us,.string Ut,.slice Uu Uv Uw] 43)).heap.size (w3.alloc (.cells #[.bool Us,.string Ut,.slice Uu Uv Uw] 43)) ((w3.alloc (.cells #[.bool Us,.string Ut,.slice Uu Uv Uw] 43)).alloc (.cells #[.bool true,.string ⟨n.toArray⟩,.slice none 0 0] 43)):=cO;have r2:=aa da q2;clear y1 y0 aO da);clear p0 p1 p2 q0 q1 q2 r2;obtain ⟨W1,bY⟩:=am ((w3.alloc (.cells #[.bool Us,.string Ut,.slice Uu Uv Uw] 43)).alloc (.cells #[.bool true,.string ⟨n.toArray⟩,.slice none 0 0] 43));have iN:Below w.heap.size w W1:=by rw[bY];exact bD.o.1.tr ((cO.alloc (by simp) _))
   have x1:W1.heap[w.heap.size+1]?=some (.cells #[.bool false,.string ⟨#[]⟩,.slice none 0 0] 43 (0,0)):=by rw[bY];exact (bE _ _ _ (by simp;omega)).trans ((bE _ _ _ (by omega)).trans bD.o.2.1)
   have x2:=j_ bY;rw[<-bY];clear bY;obtain ⟨ec,jN⟩:=aW iN x1;have wI:=ac (Fills.start (R:=w3.heap.size+1) (mk:=fun rr=>#[.bool true,.string ⟨n.toArray⟩,rr]) (Row:=fun r W=>RowT W1.heap.size r ((a.map (gp f)).take 0) W) x2 (RowT.nil _ _));clear iN x1 x2;gi_loopw [30] (fun i wr=>∃k:Nat,k<=k0/\i=.int .i64 k/\∃row,Fills 43 (w3.heap.size+1) W1.heap.size (fun rr=>#[.bool true,.string ⟨n.toArray⟩,rr]) (fun r W=>RowT W1.heap.size r ((a.map (gp f)).take k) W) W1 wr row) (fun i _=>k0 - (intOf i).toNat)
   case atStart=>exact ⟨0,aX _,rfl,_,wI.o⟩
   case round=>
    obtain ⟨k,hk,rfl,row,hF⟩:=hrel;have ar:=hF.below ec.o ((by omega))
    by_cases hlt:k<k0
    ·have dJ:=ce dA.o hlt;have pp61d:=();exact pm61
    ·obtain rfl:k=k0:=by omega
     have pp234:=();exact pm234
  |clear Pc y1 y0 rX CI;clear su;have HCu:=ac hcu;clear hcu;gi_wp2_with (first | (gi_at_fn g;refine aK.2 (Uo.o.mono ?_);rintro e w3 ⟨⟨q3,rfl,Pe⟩,aM⟩;obtain ⟨Us,Ut,Uu,Uv,Uw⟩:=q3;simp only[TQ.val,Option.isSome]at Pe ⊢;have b1:=HY.o.1.tr aM;have y1:=(aM.block _ (by have:=HY.o.2.2.2;omega)).trans HY.o.2.1;have y0:=(aM.block _ (by have:=HY.o.2.2.2;omega)).trans HY.o.2.2.1;have pP:=aM.size;have pR:=HY.o.2.2.2;have JP:w.heap.size+2<=w3.heap.size:=(by omega);have bD:=cG b1 y1 y0 Pe;clear aM b1 pP pR Pe;have aO:Below w3.heap.size w3 (w3.alloc (.cells #[.bool Us,.string Ut,.slice Uu Uv Uw] 43)):=cO;have z1:=(aO.block _ (by omega)).trans y1;have HE:=ac (HCu.o _ _ ⟨Us,Ut,Uu,Uv,Uw⟩ ((bD.o.2.2.2 u rfl).later aO));simp only[TQ.val]at HE;have HZ:=aG z1 (bD.o.1.tr aO);clear y1 y0 aO z1) | (gi_at_call 218;refine aK.2 (HE.o.mono ?_);rintro e w5 ⟨⟨p5,rfl,pS⟩,bm⟩;obtain ⟨pv,pn,pa,pl,pc⟩:=p5;simp only at pS ⊢;have x1:=(bm.block _ (by simp;omega)).trans HZ.o.1;have e0:=ah x1 0;have e1:=ah x1 1;have e2:=ah x1 2;have z0:=ae x1 0;have z1:=ae x1 1;have z2:=ae x1 2;have H5:=cG pS (HZ.o.2.tr bm) x1 bm.size;clear bm pS x1));have x6:=qA (v0:=.bool pv) (v1:=.string pn) (v2:=.slice pa pl pc) H5.o.2.2.1;have k6:=eM (W:=w5) (b:=w.heap.size+1) (v0:=.bool pv) (v1:=.string pn) (v2:=.slice pa pl pc);obtain ⟨W6,dm⟩:=am (((w5.setCell ⟨w.heap.size+1,0,none⟩ (.bool pv)).setCell ⟨w.heap.size+1,1,none⟩ (.string pn)).setCell ⟨w.heap.size+1,2,none⟩ (.slice pa pl pc));rw[<-dm]at x6 k6 ⊢;clear dm;have g0:W6.cell? ⟨w.heap.size+1,0,none⟩=some (.bool pv):=ah x6 0;have g1:W6.cell? ⟨w.heap.size+1,1,none⟩=some (.string pn):=ah x6 1;have g2:W6.cell? ⟨w.heap.size+1,2,none⟩=some (.slice pa pl pc):=ah x6 2;refine bI (v:=TQ.val ⟨pv,pn,pa,pl,pc⟩) (by simp[TQ.val,results,Tryz.results154,go_sem,g0,g1,g2]) rfl ⟨⟨⟨pv,pn,pa,pl,pc⟩,rfl,H5.o.1.move (fun b hok hlt=>⟨by simp at hok;omega,k6.same b hlt (by simp at hok;omega)⟩)⟩,Below.kp1 H5.o.2.1 k6 (by omega)⟩
 |have pp56b:=();exact pm56):G:=h
theorem pm285(h:G:=by
 refine ⟨fun h=>(by rw[h]at hr;cases hr),fun j hj=>?_⟩
 by_cases ES:j=i
 ·subst ES;exact zP qj hi hy hS ⟨fun _=>hS,H⟩
 first
 |clear pp285
  ·have:=ready_mono hj ES;rw[H.1]at this;cases this
 |·have h1:=H.2 j (ready_mono hj ES);obtain ⟨ZM,oj,YT,eI⟩:=mem_ready.1 hj;have Jk:∀ e∈oj.after,Region.binds md e=true->e.on≠i:=fun e he hb heq=>by
    have h1:=eI e he hb;have h0:=(mem_ready.1 hr).1;rw[heq]at h1;rcases Nat.lt_or_ge i listed.size with h' | h'
    ·simp[h']at h0 h1;rw[h0]at h1;cases h1
    ·simp[Array.getElem?_eq_none h']at h1
   have h2:=Gz qj YT (Ud j oj YT ES ZM Jk) (fun cs b=>ZL i oi cs b hi) (fun cs b=>ZL j oj cs b YT) hQ hy h1;have VH:∀ k ok,ops[k]?=some ok->k≠i->(listed.setIfInBounds j true).getD k true=false →
     (∀ e∈ok.after,Region.binds md e=true->e.on≠i)->oi.apart ops ok=true:=fun k ok hk DK Og gE=>by
    refine Ud k ok hk DK ?_ gE
    by_cases sq:j=k
    ·subst sq;exact ZM
    ·rw[getD_set_ne true sq]at Og;exact Og
   have hje:j<e:=by
    have lr:j<ops.size:=(bz YT);have h7:=List.all_eq_true.1 ZK j (List.mem_range.2 lr);simp only[Bool.or_eq_true,bp]at h7;rcases h7 with h7 | h7
    ·exact h7
    ·have h5:=Mw hcl hj h7;have h6:=(mem_ready.1 hr).1;rcases Nat.lt_or_ge i listed.size with h' | h'
     ·simp[h']at h5 h6;rw[h5]at h6;cases h6
     ·simp[Array.getElem?_eq_none h']at h6
   refine wpOpIn_mono (fun a' w' h3=>⟨h3.2.1,ih (listed.setIfInBounds j true) a' w' (Jj hcl hj) VH (ready_mono hr (Ne.symm ES)) h3.1 (h3.2.1 hje) ?_⟩) h2;rw[Array.setIfInBounds_comm _ _ ES];exact h3.2.2):G:=h
theorem pm286(h:G:=by
 refine ⟨some ⟨b,0,none⟩,c,fun j=>if j=0 then p.val else q.val,rfl,.inr ⟨b,0,rfl,hok,fun j hj=>?_⟩,fun j hj=>?_⟩
 first
 |clear pp286
  ·rcases j with _ | _ | j
   ·exact ⟨_,_,_,rfl,ah hb 0,ah hb 1,ah hb 2⟩
   ·exact ⟨_,_,_,rfl,ah hb 3,ah hb 4,ah hb 5⟩
   ·simp at hj;omega
  ·rcases j with _ | _ | j
   ·exact hx
   ·exact hy
   ·simp at hj;omega
 |·rcases j with _ | _ | j
   ·exact ⟨_,_,_,_,rfl,ah hb 0,ah hb 1,ah hb 2,ah hb 3⟩
   ·exact ⟨_,_,_,_,rfl,ah hb 4,ah hb 5,ah hb 6,ah hb 7⟩
   ·simp at hj;omega
  ·rcases j with _ | _ | j
   ·exact hx
   ·exact hy
   ·simp at hj;omega):G:=h
theorem pm287(h:G:=by
 unfold Act.put;split
 ·rename_i d' VI;have:d'≠d:=fun e=>sq (hok.one j k oj o d hj ho I4 (by rw[VI,e]));simp[this]
 ·rfl):G:=h
theorem pm288(h:G:=by
 rw[hm]
 by_cases h1:uo=vo
 ·by_cases h2:k0=m0
  ·have h3:¬k1=m1:=fun h=>C5 ⟨h1,h2,h⟩;simp[h3]
  ·simp[h2]
 ·simp[h1]):G:=h
theorem pm289(h:G:=by
 unfold dz dF c9;cases decide (n.length<=16) <;> cases (n.head? == some 63) <;> cases xG n.tail <;> cases CG n.tail <;> rfl):G:=h
theorem pm290(h:G:=by
 rw[hS]at h;exact ⟨aa h (ah jG.box 1),A_ V (h.block _ bg),aa h (ah y5 0),aa h (ah y5 1),aa h (ah y5 2),aa h (ah y5 3)⟩):G:=h
theorem pm291(h:G:=by
 exact .inr ⟨b,off,ha,hk.1,fun j hj=>(hc j hj).kept hk.2⟩):G:=h
theorem pm292(h:G:=by
 have BH:=cQ.symm;simp only[af,bp]at BH;obtain ⟨hb1,bB,aM⟩:=BH;rw[du]at hM;have HE:=ac hM;clear hM sZ qk Cw cQ hb1 aM
 first
 |clear pp292;have pp72e:=();exact pm72
 |have pp72h:=();exact pm72):G:=h
theorem pm293(h:G:=by
 have C1:=ac (fun w=>h1 ▸ nE n w hn);clear h1;go_enter Tryz.func119,Tryz.ntmps119
 first
 |clear pp293;go_wp2_with (go_at_call 185;refine (C1.o _).mono ?_;rintro e w' ⟨rfl,hb⟩);go_ret;exact ⟨by simp,hb⟩
 |go_wp2_with (first | (go_at_call 185;refine (C1.o _).mono ?_;rintro e w' ⟨rfl,hb⟩) | (go_at_call 186;refine (kX n _ hn).mono ?_;rintro e OF ⟨rfl,bB⟩));go_ret;exact ⟨by simp,hb.trans (bB.mono hb.size)⟩):G:=h
theorem pm294(h:G:=by
 have CQ:=ly ⟨uo,⟨nm.toArray⟩,ua,k0,uc,ub,m0,ue⟩ wr;simp only[FQ.val,qh]at CQ;have I7:=ac CQ;have HE:=bF hj Lu j9
 first
 |clear pp294;have gO:=ac x3;clear hj Lu j9 ht b0 b1 CQ qh;go_wp2_with fail;refine I7.o.mono ?_;rintro e w3 ⟨rfl,aM⟩;have H4:=ac (show J (pre ++ (A ++ [])) w3/\Kp M W0 w3/\BoundW w3 mb (n+0) bs'/\Kp (fun b=>M b\/b=mb) W1 w3 from ⟨by simpa using HJ.o _ _ _ (Nw.below aM) HE.o.2.1,HE.o.1.kp.trans (Kp.below aM),by rw[gG.o];exact HE.o.1.bd.same (aM.block mb HE.o.1.bd.lt),HE.o.2.2.trans (Kp.below aM)⟩);have y3:w3.cell? ⟨W.heap.size,3,none⟩=some (.slice ub m0 ue):=aa aM gO.o;clear x0 x1 x2 x3 x4 aM;go_wp2;clear y3;go_loopw [36] (fun i wr=>∃k:Nat,k<=m0/\i=.int .i64 k/\J (pre ++ (A ++ bq bs' (ss.take k))) wr/\Kp M W0 wr/\(∃n',n'<=n+0+2 * nodesFs (ss.take k)/\BoundW wr mb n' bs')/\Kp (fun b=>M b\/b=mb) W1 wr) (fun i _=>m0 - (intOf i).toNat)
  case atStart=>exact ⟨0,aX _,rfl,by simpa[bq] using H4.o.1,H4.o.2.1,⟨n+0,by omega,H4.o.2.2.1⟩,H4.o.2.2.2⟩
  case round=>
   have pp11:=();exact pm11
 |obtain ⟨gO,HX4,mv⟩:=cH x3 x4 x1;clear hj Lu j9 ht b0 b1 CQ qh;go_wp2_with fail;refine I7.o.mono ?_;rintro e w3 ⟨rfl,aM⟩;have pU:=HE.o.1.bd.same (aM.block mb HE.o.1.bd.lt);obtain ⟨w4,cR,aO,wg,Fg,I8⟩:=pU.store (bs':=nm :: bs) (x:=nm) (by have:=wm.o;omega) Jy.o (fun y hy=>by rw[List.count_cons_of_ne];exact fun h=>hy h.symm);have hr:=pU.look Jy.o w3 rfl;have hcl:bs.count nm<=4000000:=by have:=wm.o;have:=List.count_le_length (a:=nm) (l:=bs);omega
  rw[List.count_cons_self]at cR;obtain ⟨cn,yd⟩:=am (bs.count nm);rw[<-yd]at cR hr hcl;have cR:(Instr.mapUpdate 198 (.map (some mb)) (.string ⟨nm.toArray⟩) (.int .i64 ((cn:Int)+1))).run Tryz.prog w3=.ok () w4:=cR;have lK:Kp (fun b=>M b\/b=mb) w3 w4:=⟨wg.os,wg.tape,wg.output,Nat.le_of_eq Fg.symm,fun b hb hm=>wg.block b hb (fun h=>hm (.inr (by cases h;rfl)))⟩;have H4:=ac (show J (pre ++ (A ++ [])) w4/\Kp M W0 w4/\BoundW w4 mb (n+1) bs'/\Kp (fun b=>M b\/b=mb) W1 w4 from ⟨by simpa using HJ.o _ _ _ (I8 _ Wm.o) (HJ.o _ _ _ (Nw.below aM) HE.o.2.1),Pv (HE.o.1.kp.trans (Kp.below aM)) (I8 _ Wm.o) (aD _),by rw[gG.o];exact aO,(HE.o.2.2.trans (Kp.below aM)).trans lK⟩);have z1:w3.cell? ⟨W.heap.size,1,none⟩=some (.string ⟨nm.toArray⟩):=aa aM mv.o;have z4:w3.cell? ⟨W.heap.size+1,0,none⟩=some (.map (some mb)):=aa aM HX4.o;have y3:w4.cell? ⟨W.heap.size,3,none⟩=some (.slice ub m0 ue):=lK.cell pT.o.2.1 (aa aM gO.o);clear x0 x1 x2 x3 x4 aM pU aO wg Fg I8 lK yd;go_wp2;clear y3 z1 z4 cR hr;go_loopw [36] (fun i wr=>∃k:Nat,k<=m0/\i=.int .i64 k/\J (pre ++ (A ++ bq bs' (ss.take k))) wr/\Kp M W0 wr/\(∃n',n'<=n+1+2 * nodesFs (ss.take k)/\BoundW wr mb n' bs')/\Kp (fun b=>M b\/b=mb) W1 wr) (fun i _=>m0 - (intOf i).toNat)
  case atStart=>exact ⟨0,aX _,rfl,by simpa[bq] using H4.o.1,H4.o.2.1,⟨n+1,by omega,H4.o.2.2.1⟩,H4.o.2.2.2⟩
  case round=>
   exact pm11):G:=h
theorem pm295(h:G:=by
 have CR:=ac (fun w:World=>hr ▸ eL s w);clear hr;have pp48c:=();exact pm48):G:=h
theorem pm296(h:G:=by
 have HU:=ac (hu.later ar);have sF:=ac (gu.later ar);have tw:=ac (pL.o.later dt);obtain ⟨yY,yZ,cv,lY⟩:=eH lX he ar dt
 first
 |clear pp296;have kJ:=cG (aa cv.o j6) (aa cv.o kG) (aa cv.o kH) (aa cv.o AY);obtain ⟨uh,HT⟩:=aW y2 ht;clear hu gu lX he ar dt ht c0 c1 c2 j6 kG kH c3 AY;go_wp2
  first
  |clear pp38a;have pp10c:=();exact pm10
  |clear pp38b;have pp10d:=();exact pm10
  |clear pp38c;exact pm10
  |clear pp38d;have pp10a:=();exact pm10
  |have pp10b:=();exact pm10
 |have kJ:=bF (aa cv.o j6) (aa cv.o kG) (aa cv.o kH)
  first
  |clear pp75;obtain ⟨uh,HT⟩:=aW y2 ht;clear hu gu lX he ar dt ht c0 c1 c2 j6 kG kH;have pp55a:=();exact pm55
  |obtain ⟨uh,HT⟩:=aW y2 ht;clear hu gu lX he ar dt ht c0 c1 c2 j6 kG kH;have pp55c:=();exact pm55):G:=h
theorem pm297(h:G:=by
 obtain ⟨fa,fl,fc,ta,tl,tc⟩:=q;obtain ⟨yf,pV⟩:=hq;simp only at yf pV
 first
 |clear pp297a;obtain rfl:=yf.len;obtain ⟨n1,ea⟩:=am b.fs.length;obtain ⟨R,hR⟩:=am (getB b.fs n);rw[<-ea]at hF yf;rw[<-ea,<-hR];obtain ⟨W2,a_⟩:=am ((w.alloc (.cells #[.slice fa n1 fc,.slice ta tl tc] 26)).alloc (.cells #[.int .u8 0,.string ⟨#[]⟩,.slice none 0 0,.slice none 0 0] 36));have bB:=lv a_;have iy:=yJ a_;have x1:=j_ a_;obtain ⟨WI,HP,HN⟩:=cH yf hfit ea;have H2:=bF bB iy x1;obtain ⟨fp,HR⟩:=aW a_ hR;clear yf pV hfit ea bB iy x1 a_ hR;unfold BQ.val;go_enter Tryz.func16,Tryz.ntmps16;go_wp2_with fail;rw[<-fp.o];go_loopw [11] (fun i wr=>∃k:Nat,k<=n1/\i=.int .i64 k/\Below W2.heap.size W2 wr/\R=getB (b.fs.drop k) n) (fun i _=>n1 - (intOf i).toNat)
  case atStart=>exact ⟨0,aX _,rfl,aj _ _,by simpa using HR.o⟩
  case round=>
   obtain ⟨k,hk,rfl,ar,gP⟩:=hrel;have hx:=bJ ar H2.o.2.2
   by_cases hlt:k<n1
   ·have bg:k<b.fs.length:=by rw[<-HN.o];exact hlt
    have pp237a:=();exact pm237
   ·obtain rfl:k=n1:=by omega
    have HE:=ac (show R=none by rw[gP,gD (by rw[<-HN.o];exact aD _)];rfl);obtain ⟨e0,e1,e2,e3,y0,y1,y2,y3⟩:=dy hx;have HB:=aG hx (H2.o.1.tr ar);clear ar gP hx;go_wp2;obtain ⟨W8,l8,x8,k8,g0,g1,g2,g3⟩:=AG HB.o.1 (.int .u8 0) (.string ⟨#[]⟩) (.slice none 0 0) (.slice none 0 0);rw[<-l8];refine bI (v:=.tuple #[FQ.val ⟨0,⟨#[]⟩,none,0,0,none,0,0⟩,.bool false]) (by simp[FQ.val,results,Tryz.results16,go_sem,g0,g1,g2,g3]) rfl ⟨⟨⟨0,⟨#[]⟩,none,0,0,none,0,0⟩,by rw[HE.o];rfl,?_⟩,Below.kp1 HB.o.2 k8 (by omega)⟩;rw[HE.o];exact mm
 |clear pp297b;obtain rfl:=pV.len;obtain ⟨n1,ea⟩:=am b.ts.length;obtain ⟨R,hR⟩:=am (getB b.ts n);rw[<-ea]at hF pV;rw[<-ea,<-hR];obtain ⟨W2,a_⟩:=am ((w.alloc (.cells #[.slice fa fl fc,.slice ta n1 tc] 26)).alloc (.cells #[.bool false,.string ⟨#[]⟩,.slice none 0 0] 43));have bB:=lv a_;have iy:=yJ a_;have x1:=j_ a_;obtain ⟨WI,HP,HN⟩:=cH pV hfit ea;have H2:=bF bB iy x1;obtain ⟨fp,HR⟩:=aW a_ hR;clear yf pV hfit ea bB iy x1 a_ hR;unfold BQ.val;go_enter Tryz.func18,Tryz.ntmps18;go_wp2_with fail;rw[<-fp.o];go_loopw [11] (fun i wr=>∃k:Nat,k<=n1/\i=.int .i64 k/\Below W2.heap.size W2 wr/\R=getB (b.ts.drop k) n) (fun i _=>n1 - (intOf i).toNat)
  case atStart=>exact ⟨0,aX _,rfl,aj _ _,by simpa using HR.o⟩
  case round=>
   obtain ⟨k,hk,rfl,ar,gP⟩:=hrel;have hx:=bJ ar H2.o.2.2
   by_cases hlt:k<n1
   ·have bg:k<b.ts.length:=by rw[<-HN.o];exact hlt
    obtain ⟨bb,off,⟨qo,qn,qa,ql,qc⟩,rfl,hok,hf,c0,c1,c2,c3⟩:=WI.o.get bg;have nJ:=H2.o.1.tr ar;obtain ⟨d0,d1,d2,d3⟩:=mu nJ c0 c1 c2 c3;obtain ⟨nm,dD⟩:=am (b.ts[k].1);obtain ⟨g,hg⟩:=am (b.ts[k].2);rw[Eo bg,<-dD,<-hg]at gP;rw[<-dD]at d0;have Qb:=HP.o _ (aw bg);rw[<-hg]at hf Qb;simp only at d1 d2 d3;obtain ⟨W5,fv⟩:=am (wr.alloc (.cells #[.string ⟨nm.toArray⟩,.bool qo,.string qn,.slice qa ql qc] 47));have bm:=cV fv;have DK:(k:Int)<(n1:Int):=by omega
    have sJ:=ac fv
    by_cases my:nm=n
    ·subst my;have LJ:(nm == nm)=true:=by simp
     rw[LJ]at gP;have CC:=oL g Qb ok W5 ⟨qo,qn,qa,ql,qc⟩ ((hf.later nJ).later bm);simp only[TQ.val]at CC;have HC:=ac CC;have HE:=ac (show R=some g from gP);have H5:=aG (nJ.tr bm) (bJ bm hx);clear CC nJ ar gP hf Qb bm hx fv hg dD c0 c1 c2 c3 hok;go_wp2_with (rw[<-sJ.o];go_at_call 53;refine HC.o.mono ?_;rintro e w6 ⟨⟨p0,p1,p2,p3,p4⟩,rfl,hp,da⟩;have WT:=bJ da H5.o.2;obtain ⟨e0,e1,e2,y0,y1,y2⟩:=gN WT;have H6:=bF WT hp da;clear WT hp da);obtain ⟨W8,l8,x8,k8,g0,g1,g2⟩:=uL H6.o.1 (.bool p0) (.string p1) (.slice p2 p3 p4);rw[<-l8];refine bI (v:=.tuple #[TQ.val ⟨p0,p1,p2,p3,p4⟩,.bool true]) (by simp[TQ.val,results,Tryz.results18,go_sem,g0,g1,g2]) rfl ⟨⟨⟨p0,p1,p2,p3,p4⟩,by rw[HE.o];rfl,?_⟩,Below.kp1 (H5.o.1.tr H6.o.2.2) k8 (by omega)⟩;exact pm315
    ·have LJ:(nm == n)=false:=by simp[my]
     rw[LJ]at gP;have HG:=aG (ar.tr bm) (show R=getB (b.ts.drop (k+1)) n from gP);clear nJ ar gP hf Qb bm hx fv hg dD c0 c1 c2 c3 hok;exact pm299
   ·obtain rfl:k=n1:=by omega
    have HE:=ac (show R=none by rw[gP,gD (by rw[<-HN.o];exact aD _)];rfl);obtain ⟨e0,e1,e2,y0,y1,y2⟩:=gN hx;have HB:=aG hx (H2.o.1.tr ar);clear ar gP hx;go_wp2;obtain ⟨W8,l8,x8,k8,g0,g1,g2⟩:=uL HB.o.1 (.bool false) (.string ⟨#[]⟩) (.slice none 0 0);rw[<-l8];refine bI (v:=.tuple #[TQ.val ⟨false,⟨#[]⟩,none,0,0⟩,.bool false]) (by simp[TQ.val,results,Tryz.results18,go_sem,g0,g1,g2]) rfl ⟨⟨⟨false,⟨#[]⟩,none,0,0⟩,by rw[HE.o];rfl,?_⟩,Below.kp1 HB.o.2 k8 (by omega)⟩;rw[HE.o];exact Ep
 |obtain rfl:=yf.len;obtain rfl:=pV.len;obtain ⟨n1,ea⟩:=am b.fs.length;obtain ⟨n2,kY⟩:=am b.ts.length
  first
  |clear pp185;obtain ⟨M,hM⟩:∃M:Nat->Prop,M=fun b=>b=w.heap.size+1\/b=w.heap.size+1+1:=⟨_,rfl⟩;rw[<-ea]at hF;rw[<-kY]at hT;obtain ⟨W4,xH⟩:=am ((((w.alloc (.cells #[.slice fa n1 fc,.slice ta n2 tc] 26)).alloc (.map #[] 0)).alloc (.map #[] 0)).alloc (.cells #[.map (some (w.heap.size+1)),.map (some (w.heap.size+1+1))] 148));have aO:=Sc xH;have pR:=VG xH;have x0:=OD xH;have kn4:KnV (fun b=>b<w.heap.size) PF PT W4 (w.heap.size+1+1+1) (w.heap.size+1) (w.heap.size+1+1) 0 0 ⟨[],[]⟩:=by
    refine ⟨by rw[xH];exact ai (by simp),?_,?_,by omega,by omega,by omega⟩
    ·have h:=MapV.made (P:=Tryz.prog) (k:=9) (V:=FormK (fun b=>b<w.heap.size) PF W4) (w.alloc (.cells #[.slice fa n1 fc,.slice ta n2 tc] 26));have hz:(w.alloc (.cells #[.slice fa n1 fc,.slice ta n2 tc] 26)).heap.size=w.heap.size+1:=by simp
     rw[hz]at h;exact h.move (by rw[xH];exact (bE _ _ _ (by simp <;> omega)).trans (bE _ _ _ (by simp))) (fun _ _ _ _ h=>h)
    ·have h:=MapV.made (P:=Tryz.prog) (k:=9) (V:=TermK (fun b=>b<w.heap.size) PT W4) ((w.alloc (.cells #[.slice fa n1 fc,.slice ta n2 tc] 26)).alloc (.map #[] 0));have hz:((w.alloc (.cells #[.slice fa n1 fc,.slice ta n2 tc] 26)).alloc (.map #[] 0)).heap.size=w.heap.size+1+1:=by simp
     rw[hz]at h;exact h.move (by rw[xH];exact (bE _ _ _ (by simp))) (fun _ _ _ _ h=>h)
   rw[<-ea]at yf;rw[<-kY]at pV;rw[<-ea,<-kY];obtain ⟨WI,HTv⟩:=aW yf pV;have HP:=rU sd qC hdF hdT hPF UN;have HN:=aG ea kY;have H4:=cG aO pR x0 kn4;obtain ⟨HM,HW4⟩:=aW hM xH;clear yf pV sd qC hdF hdT hPF UN ea kY aO pR x0 kn4 xH hM;unfold BQ.val;go_enter Tryz.func46,Tryz.ntmps46;go_wp2_with fail;rw[<-HW4.o];go_loopw [15] (fun i wr=>∃k:Nat,k<=n1/\i=.int .i64 k/\Kp M W4 wr/\KnV (fun b=>b<w.heap.size) PF PT wr (w.heap.size+1+1+1) (w.heap.size+1) (w.heap.size+1+1) k 0 ⟨b.fs.take k,[]⟩) (fun i _=>n1 - (intOf i).toNat)
   case atStart=>exact ⟨0,aX _,rfl,Kp.refl _,by simpa using H4.o.2.2.2⟩
   case round=>
    obtain ⟨k,hk,rfl,bj,dZ⟩:=hrel
    by_cases hlt:k<n1
    ·have bg:k<b.fs.length:=by rw[<-HN.o.1];exact hlt
     have pp237b:=();exact pm237
    ·obtain rfl:k=n1:=by omega
     have cB:b.fs.take k=b.fs:=by rw[HN.o.1];exact cY
     rw[cB]at dZ;obtain ⟨wo,JT⟩:=am wr;subst JT;have x0:=(bj.same _ (by have:=H4.o.2.1;omega) (by rw[HM.o];omega)).trans H4.o.2.2.1;obtain ⟨y0,y1⟩:=Sh x0;have HO:=aG bj dZ;clear bj dZ cB x0;go_wp2_with fail;clear y0 y1;go_loopw [31] (fun i wr=>∃j:Nat,j<=n2/\i=.int .i64 j/\Kp M W4 wr/\KnV (fun b=>b<w.heap.size) PF PT wr (w.heap.size+1+1+1) (w.heap.size+1) (w.heap.size+1+1) k j ⟨b.fs,b.ts.take j⟩) (fun i _=>n2 - (intOf i).toNat)
     case atStart=>exact ⟨0,aX _,rfl,HO.o.1,by simpa using HO.o.2⟩
     case round=>
      obtain ⟨j,hj,rfl,bj,dZ⟩:=hrel
      by_cases eJ:j<n2
      ·have bg:j<b.ts.length:=by rw[<-HN.o.2];exact eJ
       obtain ⟨bb,off,⟨qv,qn,qa,ql,qc⟩,rfl,hok,hf,c0,c1,c2,c3⟩:=HTv.o.get bg;exact pm142
      ·obtain rfl:j=n2:=by omega
       have cB:b.ts.take j=b.ts:=by rw[HN.o.2];exact cY
       rw[cB]at dZ;have HE:=aG bj dZ;clear bj dZ cB;go_wp2;go_ret;refine ⟨rfl,HE.o.2,?_⟩;exact ⟨HE.o.1.os.trans H4.o.1.os,HE.o.1.tape.trans H4.o.1.tape,HE.o.1.output.trans H4.o.1.output,aU H4.o.1.size HE.o.1.size,fun b hb=>(HE.o.1.same b (bH hb H4.o.1.size) (by rw[HM.o];omega)).trans (H4.o.1.block b hb)⟩
  |obtain ⟨R,hR⟩:=am (bw b);rw[<-ea]at hF yf;rw[<-kY]at hT pV;rw[<-ea,<-kY,<-hR];obtain ⟨W1,bY⟩:=am (w.alloc (.cells #[.slice fa n1 fc,.slice ta n2 tc] 26));have hb1:=cV bY;have ju:=Gx bY;have x1:=bU bY;obtain ⟨WI,HTv⟩:=aW yf pV;have HP:=aG sd qC;have HN:=aG ea kY;have H1:=bF hb1 ju x1;obtain ⟨R6,jj,HR⟩:=cH ht bY hR;clear yf pV sd qC ea kY hb1 ju x1 bY ht hR;unfold BQ.val;go_enter Tryz.func27,Tryz.ntmps27;go_wp2_with fail;rw[<-jj.o];go_loopw [3,12] (fun v i wr=>∃k:Nat,k<=n1/\i=.int .i64 k/\Below W1.heap.size W1 wr/\OwnS W1.heap.size wr v ((b.fs.take k).map (·.1))/\(b.fs.take k).all (fun x=>dF x.1 && cf (bA x.2))=true) (fun _ i _=>n1 - (intOf i).toNat)
   case atStart=>exact ⟨0,aX _,rfl,aj _ _,OwnS.nil _ _,by simp⟩
   case round=>
    obtain ⟨k,hk,rfl,ar,aA,eI⟩:=hrel
    by_cases hlt:k<n1
    ·have bg:k<b.fs.length:=by rw[<-HN.o.1];exact hlt
     exact pm237
    ·obtain rfl:k=n1:=by omega
     have cB:b.fs.take k=b.fs:=by rw[HN.o.1];exact cY
     rw[cB]at aA eI;obtain ⟨wo,JT⟩:=am wr;subst JT;have y1:=aa ar (ah H1.o.2.2 1);have Zp:=cG ar aA eI (H1.o.1.tr ar);clear ar aA eI cB;go_wp2_with fail;clear y1;go_loopw [4,36] (fun v i wr=>∃j:Nat,j<=n2/\i=.int .i64 j/\Below wo.heap.size wo wr/\OwnS wo.heap.size wr v ((b.ts.take j).map (·.1))/\(b.ts.take j).all (fun x=>c9 x.1 && i8 false (aN x.2))=true) (fun _ i _=>n2 - (intOf i).toNat)
     case atStart=>exact ⟨0,aX _,rfl,aj _ _,OwnS.nil _ _,by simp⟩
     case round=>
      obtain ⟨j,hj,rfl,ar,aA,eI⟩:=hrel
      by_cases eJ:j<n2
      ·have lr:j<b.ts.length:=by rw[<-HN.o.2];exact eJ
       obtain ⟨bb,off,⟨qv,qn,qa,ql,qc⟩,rfl,hok,hf,c0,c1,c2,c3⟩:=HTv.o.get lr;have nJ:=Zp.o.2.2.2.tr ar;obtain ⟨d0,d1,d2,d3⟩:=mu nJ c0 c1 c2 c3;obtain ⟨nm,dD⟩:=am (b.ts[j].1);obtain ⟨g,hg⟩:=am (b.ts[j].2);have mf:=HP.o.2 _ (aw lr);rw[<-dD]at d0;rw[<-dD,<-hg]at mf;rw[<-hg]at hf;simp only at d1 d2 d3;obtain ⟨W5,fv⟩:=am (wr.alloc (.cells #[.string ⟨nm.toArray⟩,.bool qv,.string qn,.slice qa ql qc] 47));have bm:=cV fv;have x5:=bU fv;have DK:(j:Int)<(n2:Int):=by omega
       have je:(nm,g)∈b.ts:=by rw[dD,hg];exact aw lr
       have CM:=E0 nm W5 (by omega);have H5:=cG (nJ.tr bm) x5 (hf.later (nJ.tr bm)) mf;have HO:=fE ar aA eI dD hg;have sJ:=ac fv
       cases Dk:c9 nm with
       | false=>
        rw[Dk]at CM;have HC:=ac CM;have HE:=ac (show R=false by
         rw[HR.o];unfold bw;rw[Zp.o.2.2.1];rw[show (b.ts.all fun x=>c9 x.1 && i8 false (aN x.2))=false from List.all_eq_false.2 ⟨_,je,by simp[Dk]⟩];simp)
        clear CM nJ ar aA eI dD hg mf hf bm x5 fv je Dk c0 c1 c2 c3 hok;go_wp2_with (rw[<-sJ.o];go_at_call 67;refine HC.o.mono ?_;rintro e w6 ⟨rfl,da⟩;have H6:=ac da;clear da);go_ret;exact ⟨by rw[HE.o];rfl,H5.o.1.tr H6.o⟩
       | true=>
        rw[Dk]at CM;have HC:=ac CM;have JU:=ac (fun (W:World) (hb:Below W5.heap.size W5 W)=>sA g mf.2.1 ok W ⟨qv,qn,qa,ql,qc⟩ ((hf.later (nJ.tr bm)).later hb));have KF:=ac (fun (W:World) (p:TQ) (ok':Nat->Prop) (hb:Below W5.heap.size W5 W) (hp:TermV ok' W p.val (aN g))=>OW (aN g) mf.2.2 ok' W p hp);simp only[TQ.val]at JU KF
        cases NJ:i8 false (aN g) with
        | false=>
         rw[NJ]at KF;have HE:=ac (show R=false by
          rw[HR.o];unfold bw;rw[Zp.o.2.2.1];rw[show (b.ts.all fun x=>c9 x.1 && i8 false (aN x.2))=false from List.all_eq_false.2 ⟨_,je,by simp[NJ]⟩];simp)
         clear CM nJ ar aA eI dD hg mf hf bm x5 fv je Dk NJ c0 c1 c2 c3 hok;go_wp2_with (first | (rw[<-sJ.o];go_at_call 67;refine HC.o.mono ?_;rintro e w6 ⟨rfl,da⟩;have x6:=bJ da H5.o.2.1;have s0:=ah x6 0;have s1:=ah x6 1;have s2:=ah x6 2;have s3:=ah x6 3;have H6:=aG da x6;clear da x6) | (go_at_call 69;refine (JU.o w6 H6.o.1).mono ?_;rintro e w7 ⟨⟨p0,p1,p2,p3,p4⟩,rfl,Kk,fW⟩;have H7:=aG Kk fW;clear Kk fW) | (go_at_call 68;refine (KF.o w7 ⟨p0,p1,p2,p3,p4⟩ _ (H6.o.1.tr H7.o.2) H7.o.1).mono ?_;rintro e w8 ⟨rfl,ic⟩;have H8:=ac (H6.o.1.tr (H7.o.2.tr ic));clear ic));go_ret;exact ⟨by rw[HE.o];rfl,H5.o.1.tr H8.o⟩
        | true=>
         rw[NJ]at KF;have yb:=ac bm;have WY:=ac (show ((b.ts.take j).map (·.1)).length+1<=4000000 by simp;omega);have LK:=ac (show (b.ts.take (j+1)).map (·.1)=(b.ts.take j).map (·.1) ++ [nm]/\(b.ts.take (j+1)).all (fun x=>c9 x.1 && i8 false (aN x.2))=true by
          rw[List.take_add_one,gT lr];refine ⟨by rw[List.map_append,dD];rfl,?_⟩;rw[List.all_append,eI];simp only[Option.toList,List.all_cons,List.all_nil,Bool.and_true,du];rw[<-dD,<-hg,Dk,NJ];simp)
         clear CM nJ ar aA eI dD hg mf hf bm x5 fv je Dk NJ c0 c1 c2 c3 hok;go_wp2_with (first | (rw[<-sJ.o];go_at_call 67;refine HC.o.mono ?_;rintro e w6 ⟨rfl,da⟩;have x6:=bJ da H5.o.2.1;have s0:=ah x6 0;have s1:=ah x6 1;have s2:=ah x6 2;have s3:=ah x6 3;have H6:=aG da x6;clear da x6) | (go_at_call 69;refine (JU.o w6 H6.o.1).mono ?_;rintro e w7 ⟨⟨p0,p1,p2,p3,p4⟩,rfl,Kk,fW⟩;have H7:=aG Kk fW;clear Kk fW) | (go_at_call 68;refine (KF.o w7 ⟨p0,p1,p2,p3,p4⟩ _ (H6.o.1.tr H7.o.2) H7.o.1).mono ?_;rintro e w8 ⟨rfl,ic⟩;have r0:=aa (H7.o.2.tr ic) s0;have H8:=ac (H6.o.1.tr (H7.o.2.tr ic));clear ic) | (at_builtin;refine dY rfl _ _ rfl wo.heap.size (by have:=HO.o.1.size;have:=yb.o.size;have:=H8.o.size;simp;omega) u4 ((b.ts.take j).map (·.1)) rfl (HO.o.2.1.later ((yb.o.tr H8.o).tr cO)) (.slice (some ⟨w8.heap.size,0,none⟩) 1 1) [nm] rfl (fun _=>True) (AN (ai rfl)) WY.o ?_;intro v9 w9 PE Ja;have HG:=aG PE (ow ((Kp.below (M:=fun _=>False) ((HO.o.1.tr yb.o).tr H8.o)).trans (Kp.below cO)) Ja (fun g hg=>(World.ownsRow.lt HO.o.2.1 g hg).1)).empty;clear PE Ja));go_roundw
         case rel=>exact ⟨j+1,by omega,by go_num,HG.o.2,by rw[LK.o.1];exact HG.o.1,LK.o.2⟩
         case measure=>simp[intOf];omega
      ·obtain rfl:j=n2:=by omega
       have cB:b.ts.take j=b.ts:=by rw[HN.o.2];exact cY
       rw[cB]at aA eI;have hE:R=(dK (b.fs.map (·.1)) && dK (b.ts.map (·.1))):=by rw[HR.o];unfold bw;rw[Zp.o.2.2.1,eI];simp
       have HE:=ac hE;have C1:=uI (b.fs.map (·.1)) (by simp;have:=HN.o.1;omega) wr u3 (IF (Zp.o.2.1.later ar).strs);have HS2:=ac (fun (W:World) (hb:Below wr.heap.size wr W)=>uI (b.ts.map (·.1)) (by simp;have:=HN.o.2;omega) W u4 (IF (aA.later hb).strs));obtain ⟨B1,iN⟩:=am (dK (b.fs.map (·.1)));obtain ⟨B2,f9⟩:=am (dK (b.ts.map (·.1)));rw[<-iN,<-f9]at HE;rw[<-iN]at C1;rw[<-f9]at HS2;have HS1:=ac C1;have cv:=ac (Zp.o.2.2.2.tr ar);clear hE C1 iN f9 aA eI ar cB
       cases B1 with
       | false=>
        go_wp2_with (go_at_call 70;refine HS1.o.mono ?_;rintro e w6 ⟨rfl,da⟩;have H6:=ac da;clear da);go_ret;exact ⟨by rw[HE.o];rfl,cv.o.tr H6.o⟩
       | true=>
        go_wp2_with fail;refine HS1.o.mono ?_;rintro e w6 ⟨rfl,da⟩;have H6:=ac da;clear da;go_wp2_with fail;refine (HS2.o w6 H6.o).mono ?_;rintro e w7 ⟨rfl,fW⟩;have H7:=ac (H6.o.tr fW);clear fW;go_wp2;go_ret;exact ⟨by rw[HE.o];rfl,cv.o.tr H7.o⟩):G:=h
theorem pm298(h:G:=by
 rw[fN bg kt]at ht;obtain ⟨e,he⟩:=am (eU ps.reverse xa[k] ya[k]);rw[<-he]at ht;obtain ⟨d0,d1,d2⟩:=j4 ar c0 c1 c2
 first
 |clear pp298;have y2:wr.cell? ⟨w.heap.size+1,2,none⟩=some (.slice (some ⟨b',jD,none⟩) k0 vc):=aa dt (ah nj.o 2);have As:(k:Int)<(k0:Int):=by omega
  exact pm296
 |have y2:wr.cell? ⟨w.heap.size+1,2,none⟩=some (.slice (some ⟨b',jD,none⟩) k0 vc):=aa dt (ah HY.o 2);have As:(k:Int)<(k0:Int):=by omega
  have HU:=ac (hu.later ar);have sF:=ac (gu.later ar);have tw:=ac (HP.o.later ar);obtain ⟨Pg,yY,yZ,cv,lY⟩:=t5 pG lX he ar dt
  first
  |clear pp78;have kJ:=bF (aa ar j6) (aa ar kG) (aa ar kH);obtain ⟨uh,HT⟩:=aW y2 ht;clear hu gu pG lX he ar dt ht c0 c1 c2 j6 kG kH;have pp55b:=();exact pm55
  |have kJ:=bF (aa ar j6) (aa ar kG) (aa ar kH);obtain ⟨uh,HT⟩:=aW y2 ht;clear hu gu pG lX he ar dt ht c0 c1 c2 j6 kG kH;exact pm55):G:=h
theorem pm299(h:G:=by
 go_wp2;rw[<-sJ.o];go_roundw
 case rel=>exact ⟨k+1,by omega,by go_num,HG.o.1,HG.o.2⟩
 case measure=>simp[intOf];omega):G:=h
theorem pm300(h:G:=by
 have d0:=bj.cell ja.2 c0;have d1:=bj.cell ja.2 c1;have d2:=bj.cell ja.2 c2
 first
 |clear pp300a;have pp278:=();exact pm278
 |clear pp300b;have d3:=bj.cell ja.2 c3;have jb:=uk bg;exact pm260
 |have d3:=bj.cell ja.2 c3;have jb:=ot (b:=bs') bg;have Fh:=eA bg;have mw:=cI ss (k+1);have pp260:=();exact pm260):G:=h
theorem pm301(h:G:=by
 obtain ⟨x,y,e_,Jg,FG,bl⟩:=jU HQ.o.2.2.1;rw[bl]at hE;obtain ⟨di,yo⟩:=am (bQ x);rw[<-yo]at bl hE;have Ih:=fX FG
 first
 |clear pp301;have zs:=fP (.mk 16 n a ss) (by simp[Fm.a,e_]) (by simp[Fm.a,e_]) (fun t ht=>by
   have h2:=fI.1 HQ.o.2.2.2.2.2.2.1 t (by simpa[Fm.a] using ht);obtain ⟨tv,tn,ta⟩:=t;simp only[j5,af,bp]at h2;have:=h2.1;simp only;omega) _ W2 ⟨16,⟨n.toArray⟩,sa,n1,sc,sb,m1,se⟩ HQ.o.1
  simp only[FQ.val,bl]at zs;have zs:=ac zs;exact pm240
 |have Oq:di.length<=17:=by rw[yo];have:=iT Jg;simp[bQ];omega
  have Gv:=fun (V:World) (h:Below W2.heap.size W2 V)=>fP (.mk 16 n a ss) (by simp[Fm.a,e_]) (by simp[Fm.a,e_]) (fun t ht=>by
   have h2:=fI.1 HQ.o.2.2.2.2.2.2.1 t (by simpa[Fm.a] using ht);obtain ⟨tv,tn,ta⟩:=t;simp only[j5,af,bp]at h2;have:=h2.1;simp only;omega) _ V ⟨16,⟨n.toArray⟩,sa,n1,sc,sb,m1,se⟩ (HQ.o.1.later h)
  simp only[FQ.val,bl]at Gv
  first
  |clear pp81;have HIN:=ac Gv;have HY:=aG Ih Oq;have pp70:=();exact pm70
  |have k0:W2.cell? ⟨kb,0,none⟩=some (.map (some mF)):=ah H2.o.2.2.box 0;have k1:W2.drew.cell? ⟨kb,0,none⟩=some (.map (some mF)):=k0;have k3:W2.drew.cell? ⟨w.heap.size+1,1,none⟩=some (.string ⟨n.toArray⟩):=e1;have aM:Below W2.heap.size W2 (W2.alloc (.cells #[.int .u8 0,.string ⟨#[]⟩,.slice none 0 0,.slice none 0 0] 36)):=cO;obtain ⟨k4,k5⟩:=zS aM k0 e1;have l1:=wl W2.drew rfl;have l2:=wl (W2.alloc (.cells #[.int .u8 0,.string ⟨#[]⟩,.slice none 0 0,.slice none 0 0] 36)).drew (bE _ _ _ (by omega));obtain ⟨W3,dB⟩:=am (W2.alloc (.cells #[.int .u8 g0,.string g1,.slice g2 g3 g4,.slice g5 g6 g7] 36)).drew;have pX:Below W2.heap.size W2 W3:=by rw[dB];exact cO.drew
   have x3:=bJ pX H2.o.2.1;have y3:W3.heap[W2.heap.size]?=some (.cells #[.int .u8 g0,.string g1,.slice g2 g3 g4,.slice g5 g6 g7] 36 (0,0)):=by rw[dB];exact ai rfl
   obtain ⟨i0,i1,i2,i3,_,_,_,_⟩:=dy x3;obtain ⟨n0,ti⟩:=am (fG di f);have I8:n0<=400:=by have:=pg di f;have:=vk.o.2.2;omega
   have zs:=ac (Gv W3 pX);have Nj:=ac (fun (V:World) (h:Below W3.heap.size W3 V)=>jx di f vk.o.2.1 _ V ⟨g0,g1,g2,g3,g4,g5,g6,g7⟩ ((vk.o.1.later pX).later h));have Gt:=ac (fun (V:World) (h:Below W3.heap.size W3 V)=>kO f vk.o.2.1 _ V ⟨g0,g1,g2,g3,g4,g5,g6,g7⟩ ((vk.o.1.later pX).later h));obtain ⟨nf,uM⟩:=am (nodesF f);have hn5:nf<=400:=by have:=vk.o.2.2;omega
   simp only[FQ.val,<-ti,<-uM]at Nj Gt;rw[<-ti,<-uM]at hE;have H3:=bF pX y3 (H2.o.2.2.later pX);have HE3:=ac hE;have HY:=bF Ih I8 hn5;clear hE x3 y3 Gv bl yo e_ Jg FG Oq ti uM pX aM wl wn Ih I8 hn5 Ij Fi Kg;go_enter Tryz.func126,Tryz.ntmps126;go_upto_region 2 with fail;rw[<-fp.o];go_upto_region 6 with fail;go_region
   all_goals
    rw[<-dB];clear dB l1 l2 k0 k1 k3 k4 k5 e0 e1 e2 e3;go_upto_region 8 with (go_at_call 96;refine zs.o.mono ?_;rintro e w4 ⟨rfl,aO⟩;have H4:=ac aO;clear aO);clear i0 i1 i2 i3;have y4:=bJ H4.o H3.o.2.1;obtain ⟨j0,j1,j2,j3,_,_,_,_⟩:=dy y4;have Zj:=ac (Nj.o w4 H4.o);clear y4;go_upto_region 9 with (go_at_call 97;refine Zj.o.mono ?_;rintro e w5 ⟨rfl,bm⟩;have H5:=ac (H4.o.tr bm);clear bm);clear j0 j1 j2 j3;have y5:=bJ H5.o H3.o.2.1
    by_cases h0:n0=0
    ·subst h0;obtain ⟨j0,j1,j2,j3,_,_,_,_⟩:=dy y5;have HC6:=ac (Gt.o w5 H5.o);have rJ:=ac (show R=nf by rw[HE3.o];simp);clear y5;go_wp2_with (go_at_call 99;refine HC6.o.mono ?_;rintro e w6 ⟨rfl,da⟩;have H6:=ac da;clear da);go_ret;exact ⟨by rw[rJ.o];rfl,(H2.o.1.tr H3.o.1).tr (H5.o.tr H6.o)⟩
    ·have oM:((n0:Int) == 0)=false:=by simp;omega
     have ju:¬((n0:Int)=0):=by omega
     exact pm148):G:=h
theorem pm302(h:G:=by
 have h1:ap a=ap (a.take (k+1)) ++ ap (a.drop (k+1)):=by
  conv=>lhs;rw[<-List.take_append_drop (k+1) a]
  exact gw _ _
 first
 |clear pp302;have h2:=ob.o;rw[h1,jb]at h2;obtain ⟨r,rfl⟩:=h2;exact ⟨ap (a.drop (k+1)) ++ r,by simp⟩
 |rw[h1,jb];exact ⟨_,rfl⟩):G:=h
theorem pm303(h:G:=by
 simp only[Bool.or_eq_true,bne_iff_ne,ne_eq,not_or,Decidable.not_not]at hd
 first
 |clear pp303a;obtain ⟨rfl,rfl,hl⟩:=hd
  cases v with
  | true=>
   simp only[i8,↓reduceIte,af]at ht;have:a=[]:=by simpa using ht.1
   subst this;have:a'=[]:=List.length_eq_zero_iff.1 (by simpa using hl.symm);subst this;simp only[bR,cX]at h;rw[<-h];exact hk
  | false=>
   simp only[i8,bW,↓reduceIte,af]at ht;exact sD sc a a' k k' ht.2.2 (Af hu) hk h
 |clear pp303b;obtain ⟨rfl,rfl,hl⟩:=hd;rw[vr sc K a a' k k' h hK hl]
 |cases v with
  | true=>rw[Nu rfl];rfl
  | false=>
   simp only[i8,bW,↓reduceIte,af]at hok;exact sL sc K a a' k k' h hK hd.2.2 hok.2.2):G:=h
theorem pm304(h:G:=by
 simp only[i8,↓reduceIte,af]at hok;obtain rfl:a=[]:=by simpa using hok.1
 first
 |clear pp304a;simp[dr]at h
 |clear pp304b;split <;> simp[ao,nodesT,nodesTs,eh,d_]
 |simp[lV,d_,ep]):G:=h
theorem pm305(h:G:=by
 have HE:=ac (show R=(lg,2) by rw[HR.o];rfl);go_enter Tryz.func32,Tryz.ntmps32
 first
 |clear pp305;go_wp2_with (rw[<-fp.o];go_at_call 26;refine sI.o.mono ?_;rintro e w4 ⟨rfl,aO⟩;have x4:=bJ aO HB.o.2.2.2.2;obtain ⟨i0,i1,i2,i3,z0,z1,z2,z3⟩:=dy x4;have KN:=ac x4;have H4:=ac aO;clear aO x4);exact pm49
 |go_wp2_with (first | (rw[<-fp.o];go_at_call 26;refine sI.o.mono ?_;rintro e w3 ⟨rfl,aM⟩;have x3:=bJ aM HB.o.2.2.2.1;have j0:=ah x3 0;have j1:=ah x3 1;have H3:=ac aM;clear aM x3) | (go_at_call 27;refine (XC.o _ H3.o).mono ?_;rintro e w4 ⟨rfl,aO⟩;have x4:=bJ (H3.o.tr aO) HB.o.2.2.2.2;obtain ⟨i0,i1,i2,i3,z0,z1,z2,z3⟩:=dy x4;have KN:=ac x4;have H4:=ac (H3.o.tr aO);clear aO x4));exact pm49):G:=h
theorem pm306(h:G:=by
 obtain ⟨wz,YH⟩:=am wr;subst YH;obtain ⟨S,hS⟩:∃S:World->Prop,S=fun V=>Below W1.heap.size W1 V:=⟨_,rfl⟩
 first
 |clear pp306;have g0:=jj.o.2.1;have f0:∀ V,S V->V.cell? ⟨w.heap.size,0,none⟩=some (.slice (some ⟨b,off,none⟩) n1 qc):=fun V h=>by rw[hS]at h;exact aa h g0
  have ff:∀ V,S V->V.cell? ⟨b,off+k * 5,none⟩=some (.string ⟨nm.toArray⟩)/\V.cell? ⟨b,off+k * 5+1,none⟩=some (.int .u8 x.o)/\V.cell? ⟨b,off+k * 5+2,none⟩=some (.string x.n)/\V.cell? ⟨b,off+k * 5+3,none⟩=some (.slice x.a x.l x.c)/\V.cell? ⟨b,off+k * 5+4,none⟩=some (.slice x.b x.m x.e):=fun V h=>by
   rw[hS]at h;exact ⟨aa (jj.o.1.tr h) c0,aa (jj.o.1.tr h) c1,aa (jj.o.1.tr h) c2,aa (jj.o.1.tr h) c3,aa (jj.o.1.tr h) c4⟩
  have pp206:=();exact pm206
 |have g0:=jj.o.2.2;have f0:∀ V,S V->V.cell? ⟨w.heap.size,1,none⟩=some (.slice (some ⟨b,off,none⟩) n2 qe):=fun V h=>by rw[hS]at h;exact aa h g0
  have ff:∀ V,S V->V.cell? ⟨b,off+j * 4,none⟩=some (.string ⟨nm.toArray⟩)/\V.cell? ⟨b,off+j * 4+1,none⟩=some (.bool x.v)/\V.cell? ⟨b,off+j * 4+2,none⟩=some (.string x.n)/\V.cell? ⟨b,off+j * 4+3,none⟩=some (.slice x.a x.l x.c):=fun V h=>by
   rw[hS]at h;exact ⟨aa (jj.o.1.tr h) c0,aa (jj.o.1.tr h) c1,aa (jj.o.1.tr h) c2,aa (jj.o.1.tr h) c3⟩
  exact pm206):G:=h
theorem pm307(h:G:=by
 exact bI (v:=.bool true) (by simp[results,Tryz.results7,go_sem,tr]) Sg ⟨rfl,ei⟩):G:=h
theorem pm308(h:G:=by
 obtain ⟨k,hk,rfl,ar,ht⟩:=hrel
 by_cases hlt:k<k0
 first
 |clear pp308a
  ·have bg:=ce dA.o hlt;have pp195a:=();exact pm195
  ·obtain rfl:k0=k:=by omega
   have HE:=ac (show R=none by rw[ht,gD (by rw[dA.o];exact aD _)];simp[eK]);have HB:=ac ar;clear ar ht;go_wp2;go_ret;exact ⟨⟨_,rfl,by rw[HE.o];exact IntsV.nil _⟩,HB.o⟩
 |clear pp308b
  ·have bg:=ce dA.o hlt;obtain ⟨b,off,u,rfl,_,hu,c0,c1,c2,c3⟩:=Pa.o.get bg;have hf:=HF.o.mem (aw bg);have pG:=fR.o xs[k] (aw bg);rw[Hc bg]at ht;exact pm198
  ·obtain rfl:k0=k:=by omega
   have HE:=ac (show R=none by rw[ht,gD (by rw[dA.o];exact aD _)];simp[mr]);have HB:=ac ar;clear ar ht;go_wp2;refine bI (v:=.tuple #[.slice none 0 0,.slice none 0 0]) (by simp[results,Tryz.results165,go_sem]) rfl ⟨⟨_,_,rfl,?_,?_⟩,HB.o⟩
   ·rw[HE.o];exact IntsV.nil _
   ·rw[HE.o];exact IntsV.nil _
 |clear pp308c
  ·have bg:=ce dA.o hlt;have kt:k<m.length:=by rw[<-gR.o,<-HKM.o];exact hlt
   have WK:k<m0:=by rw[<-HKM.o];exact hlt
   have pp267:=();exact pm267
  ·obtain rfl:k=k0:=by omega
   have he:R=0:=by rw[ht,gD (by rw[dA.o];exact aD _),AP]
   obtain ⟨HE,HB⟩:=aW he ar;clear he ar ht;go_wp2;go_ret;exact ⟨rB HE.o.symm,HB.o⟩
 |clear pp308d
  ·have bg:=ce dA.o hlt;have kt:=ce Wv.o bg;exact pm267
  ·obtain rfl:k=k0:=by omega
   have pp194:=();exact pm194
 |·have bg:=ce dA.o hlt;have kt:=ce Wv.o bg;obtain ⟨b,off,u,rfl,_,hu,c0,c1,c2,c3⟩:=HL.o.get bg;obtain ⟨b',jD,u',rfl,_,gu,j6,kG,kH,AY⟩:=HM.o.get kt;have hf:=HF.o.mem (aw bg);have pG:=fR.o l[k] (aw bg);have f0:=fun x:Later wr=>x.get (aa ar c0);have f1:=fun x:Later wr=>x.get (aa ar c1);have f2:=fun x:Later wr=>x.get (aa ar c2);have f3:=fun x:Later wr=>x.get (aa ar c3);have f4:=fun x:Later wr=>x.get (aa ar j6);have f5:=fun x:Later wr=>x.get (aa ar kG);have f6:=fun x:Later wr=>x.get (aa ar kH);have f7:=fun x:Later wr=>x.get (aa ar AY);have As:(k:Int)<(k0:Int):=by omega
   obtain ⟨HB,HT⟩:=aW ar ht;have jZ:∀ (h:l[k]≠m[k]),nY l m=false:=fun h=>by
    cases he:nY l m with
    | false=>rfl
    | true=>exact absurd (by rw[List.getElem_of_eq ((oc _ _).1 he)]) h
   have HNe:=ac jZ;have CC:=fun (x:Later wr)=>pG m[k] ok ok' x.w u u' hf ((hu.later ar).later x.below) ((gu.later ar).later x.below);obtain ⟨R,hR⟩:=am (yL l[k] m[k]);rw[<-hR]at CC;obtain ⟨HC,HR⟩:=aW CC hR;clear hu gu pG hf ar ht jZ hR CC c0 c1 c2 c3 j6 kG kH AY;have pp114a:=();exact pm114
  ·obtain rfl:k=k0:=by omega
   exact pm194):G:=h
theorem pm309(h:G:=by
 obtain ⟨k,hk,rfl,dt,ht⟩:=hrel
 by_cases hlt:k<k1
 first
 |clear pp309a
  ·have bg:=ce Jd.o hlt;have pp53a:=();exact pm53
  ·obtain rfl:k1=k:=by omega
   exact pm68
 |clear pp309b
  ·have bg:=ce Jd.o hlt;have pp53b:=();exact pm53
  ·obtain rfl:k1=k:=by omega
   exact pm68
 |clear pp309c
  ·have bg:=ce Jd.o hlt;have pp53c:=();exact pm53
  ·obtain rfl:k1=k:=by omega
   exact pm68
 |clear pp309d
  ·have bg:=ce Jd.o hlt;have pp53d:=();exact pm53
  ·obtain rfl:k1=k:=by omega
   exact pm68
 |·have bg:=ce Jd.o hlt;exact pm53
  ·obtain rfl:k1=k:=by omega
   exact pm68):G:=h
theorem pm310(h:G:=by
 obtain ⟨k0,bX⟩:=am l.length;rw[<-bX]at hlen ⊢;obtain ⟨dA,HL,fR,HF⟩:=eH bX hl ih hfit;clear bX hl ih hfit
 first
 |clear pp310;go_enter Tryz.func164,Tryz.ntmps164;go_wp2;go_loopw [5,10] (fun r i wr=>∃k:Nat,k<=k0/\i=.int .i64 k/\Below w.heap.size w wr/\r=.int .i64 (eV x (l.take k))) (fun _ i _=>k0 - (intOf i).toNat)
  case atStart=>exact ⟨0,aX _,rfl,aj _ _,by simp[eV]⟩
  case round=>
   obtain ⟨k,hk,rfl,ar,rfl⟩:=hrel
   by_cases hlt:k<k0
   ·have bg:=ce dA.o hlt;have pp195b:=();exact pm195
   ·obtain rfl:k=k0:=by omega
    have h1:l.take k=l:=by rw[dA.o];exact cY
    rw[h1];have HB:=ac ar;clear h1 ar;go_wp2;go_ret;exact ⟨rfl,HB.o⟩
 |go_enter Tryz.func54,Tryz.ntmps54;go_wp2;go_loopw [5,6] (fun r i wr=>∃k m:Nat,k<=k0/\i=.int .i64 k/\r=.int .i64 m/\Below w.heap.size w wr/\jr l left 0=jr (l.drop k) left m/\m<=100002000000) (fun _ i _=>k0 - (intOf i).toNat)
  case atStart=>exact ⟨0,0,aX _,rfl,rfl,aj _ _,by simp,by omega⟩
  case round=>
   obtain ⟨k,m,hk,rfl,rfl,ar,hcut,Cu⟩:=hrel
   by_cases hlt:k<k0
   ·by_cases wn:(m:Int)<=left
    ·have bg:=ce dA.o hlt;exact pm195
    ·have Im:decide ((m:Int)<=left)=false:=by simp;omega
     have As:decide ((k:Int)<(k0:Int))=true:=by simp;omega
     have he:=hcut.trans (KY _ wn);obtain ⟨HE,HB⟩:=aW he ar;clear he hcut ar;go_wp2;go_ret;exact ⟨rB (by rw[HE.o]),HB.o⟩
   ·obtain rfl:k=k0:=by omega
    have hd:l.drop k=[]:=by rw[dA.o];exact List.drop_length
    rw[hd]at hcut;have he:jr l left 0=m:=hcut;obtain ⟨HE,HB⟩:=aW he ar;clear he hcut ar hd;go_wp2;go_ret;exact ⟨rB (by rw[HE.o]),HB.o⟩):G:=h
theorem pm311(h:G:=by
 go_enter Tryz.func242,Tryz.ntmps242;go_wp2;go_ret
 first
 |clear pp311;simp
 |refine ⟨az ?_,rfl⟩;rw[OM,gV];simp):G:=h
theorem pm312(h:G:=by
 have Xx:((m0:Int) != (r4:Int))=true:=by simp;omega
 have HE:Hd (BX=false):=ac (hM.trans (by simp[Tl]));exact pm6):G:=h
theorem pm313(h:G:=by
 intro c L ok w vL q cQ hL S9 Qj hq;obtain ⟨so,sn,sa,sl,sc,sb,sm,se⟩:=q;obtain ⟨v1,v2,h1,iF,mK⟩:=aT.1 hq
 first
 |clear pp313;have pp35i:=();exact pm35
 |have pp35j:=();exact pm35):G:=h
theorem pm314(h:G:=by
 rcases hs with hs | ⟨b,off,ha,hok,hc⟩
 ·exact .inl hs
 first
 |clear pp314a
  ·by_cases h0:al=[]
   ·exact .inl h0
   ·have hk:=hb b hok (DQ (hc 0 (iZ.2 h0)));exact pm291
 |clear pp314b
  ·by_cases h0:ss=[]
   ·exact .inl h0
   ·have hk:=hb b hok (DR (hc 0 (iZ.2 h0)));exact pm291
 |clear pp314c
  ·exact .inr ⟨b,off,ha,hok,fun j hj=>(hc j hj).nw hn⟩
 |first
  |clear pp239
   ·by_cases h0:l=[]
    ·exact .inl h0
    ·have hk:=hb b hok (DQ (hc 0 (iZ.2 h0)));exact pm291
  |·by_cases h0:l=[]
    ·exact .inl h0
    ·have hk:=hb b hok (DR (hc 0 (iZ.2 h0)));exact pm291):G:=h
theorem pm315(h:G:=by
 rw[HE.o];exact H6.o.2.1.move (fun b hb hlt=>⟨aU H5.o.1.size hb,k8.same b hlt (by have:=(bz H5.o.2);omega)⟩)):G:=h
theorem pm316(h:G:=by
 rintro X Y hn ⟨h1,h2,h3,h4⟩;exact ⟨h1,h2,hn.cells h3,nO h4 hn⟩):G:=h
theorem pm317(h:G:=by
 have gY:(xn == xn)=true:=by simp
 have jP:(!(xn == xn))=false:=by simp
 first
 |clear pp317a;have gG:=cw;have l9:=HX;have nj:=HY;have pL:=ac (HP.o.later cw.o);cases qb
  ·have HM:Hd (R=(bM ps.reverse xa ya && cb ps.reverse xs ys)):=ac (by rw[hm];simp);clear hm;go_wp2;rw[<-fp.o];go_loopw [47] (fun i wr=>∃k:Nat,k<=k0/\i=.int .i64 k/\Below W2.heap.size W2 wr/\R=(bM ps.reverse (xa.drop k) (ya.drop k) && cb ps.reverse xs ys)) (fun i _=>k0 - (intOf i).toNat)
   case atStart=>exact ⟨0,aX _,rfl,aj _ _,by simpa using HM.o⟩
   case round=>
    have pp2a:=();exact pm2
  ·have HM:Hd (R=(bM ps.reverse xa ya && cb (ps ++ [(xn,xn)]).reverse xs ys)):=ac (by rw[hm];simp);clear hm;go_wp2;rw[<-fp.o];go_loopw [47] (fun i wr=>∃k:Nat,k<=k0/\i=.int .i64 k/\Below W2.heap.size W2 wr/\R=(bM ps.reverse (xa.drop k) (ya.drop k) && cb (ps ++ [(xn,xn)]).reverse xs ys)) (fun i _=>k0 - (intOf i).toNat)
   case atStart=>exact ⟨0,aX _,rfl,aj _ _,by simpa using HM.o⟩
   case round=>
    have pp2b:=();exact pm2
 |clear pp317b;have HM:Hd (R=(bM ps.reverse xa ya && cb ps.reverse xs ys)):=ac (by rw[hm];simp);clear hm;go_wp2_with (go_at_call 146;refine (Hz.o _).mono ?_;rintro e X0 ⟨rfl,lM⟩;have mO:Below W2.heap.size W2 X0:=(by rw[fp.o];exact lM);have l9:=ac (bJ mO HX.o);have nj:=ac (bJ mO HY.o);have pL:=ac ((HP.o.later cw.o).later mO);have gG:=ac (cw.o.trans (mO.mono cw.o.size));have z1:X0.cell? ⟨w.heap.size,1,none⟩=some (.string ⟨xn.toArray⟩):=ah l9.o 1;have z3:X0.cell? ⟨w.heap.size+1,1,none⟩=some (.string ⟨xn.toArray⟩):=ah nj.o 1;have z2:X0.cell? ⟨w.heap.size,2,none⟩=some (.slice ua k0 uc):=ah l9.o 2;clear lM mO);clear z1 z2 z3;go_loopw [47] (fun i wr=>∃k:Nat,k<=k0/\i=.int .i64 k/\Below X0.heap.size X0 wr/\R=(bM ps.reverse (xa.drop k) (ya.drop k) && cb ps.reverse xs ys)) (fun i _=>k0 - (intOf i).toNat)
  case atStart=>exact ⟨0,aX _,rfl,aj _ _,by simpa using HM.o⟩
  case round=>
   have pp15:=();exact pm15
 |have HMt:Hd (R=bM ps.reverse xa ya):=ac (by rw[qO.o];simp);clear qO;go_wp2
  first
  |clear pp141a;rw[<-fp.o];go_loopw [67] (fun i wr=>∃k:Nat,k<=k0/\i=.int .i64 k/\Below W2.heap.size W2 wr/\R=bM ps.reverse (xa.drop k) (ya.drop k)) (fun i _=>k0 - (intOf i).toNat)
   case atStart=>exact ⟨0,aX _,rfl,(aj _ _),by simpa using HMt.o⟩
   case round=>
    exact pm13
  |clear pp141b;go_loopw [67] (fun i wr=>∃k:Nat,k<=k0/\i=.int .i64 k/\Below W2.heap.size W2 wr/\R=bM ps.reverse (xa.drop k) (ya.drop k)) (fun i _=>k0 - (intOf i).toNat)
   case atStart=>exact ⟨0,aX _,rfl,Y1.o,by simpa using HMt.o⟩
   case round=>
    exact pm13
  |rw[<-fp.o];go_loopw [36] (fun i wr=>∃k:Nat,k<=k0/\i=.int .i64 k/\Below W2.heap.size W2 wr/\R=bM ps.reverse (xa.drop k) (ya.drop k)) (fun i _=>k0 - (intOf i).toNat)
   case atStart=>exact ⟨0,aX _,rfl,(aj _ _),by simpa using HMt.o⟩
   case round=>
    obtain ⟨k,hk,rfl,dt,ht⟩:=hrel
    by_cases hlt:k<k0
    ·have bg:=ce dA.o hlt;have kt:=ce gR.o hlt;have ar:=cw.o.trans (dt.mono (by omega));exact pm78
    ·obtain rfl:k=k0:=by omega
     exact pm202):G:=h
theorem pm318(h:G:=by
 have e:bV k c (.mk o n [] [g])=mt o n [] (bV k (n :: c) g):=by
  simp only[bV,ak eQ,ak dN,au hq,dS,d_]
 rw[e]
 first
 |clear pp318;generalize bV k (n :: c) g=r at i1 i2;unfold mt;generalize (if (aL [] r).contains n then c_ (aL [] r) else n)=m';obtain ⟨p1,p2,_⟩:=eP (depthF r) r (bQ n) m' i1 i2 (aD _);exact ⟨by simp[gS,el,ep,fH,p1],by simp[qone,ee,fH,p2]⟩
 |generalize bV k (n :: c) g=r at ih iw;have hm:=KA (n:=n) (r:=r) dD.2.1 (by omega);unfold mt;generalize (if (aL [] r).contains n then c_ (aL [] r) else n)=m' at hm;have hp:=uY (depthF r) r (bQ n) (ao m') iw.1 iw.2 (aD _);have hv:nodesT (ao m')=1:=by simp[ao,nodesT,nodesTs]
  have Gu:=o6 (depthF r) r (bQ n) (ao m') iw.1 iw.2 (aD _) (by rw[hv];omega) ih.2 (wV hm);rw[hv]at hp;refine ⟨?_,?_⟩
  ·simp only[nodesF,nodesTs,nodesFs,fH];omega
  ·simp only[ls,nmTs,nmFs,fH,Gu,Bool.and_true,af,bp];exact ⟨dD.1,hm⟩):G:=h
