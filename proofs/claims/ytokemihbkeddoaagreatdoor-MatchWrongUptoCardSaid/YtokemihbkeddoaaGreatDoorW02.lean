/-
Runs of tactics that several proofs share.
-/
import Derived.Test.YtokemihbkeddoaaGreatDoorW00
namespace Go.Proofs.YtokemihbkeddoaaGreatDoor
open Go Go.RowKit Lib
set_option maxRecDepth 100000
variable {G:Prop}
theorem pm221(h:G:=by
 obtain ⟨m,hm⟩:=ao (cm (a_ [] f));rw[<-hm]at hE;have J8:∀ x∈m,x.length<=2000000:=fun x hx=>by rw[hm,dL]at hx;exact oV f [] uI.o.2.1.2 x hx
 first
 |clear pp221;have G5:m.length<=2000000:=by rw[hm];have h1:=eO (a_ [] f);have h2:=gH f [];have h3:=uI.o.2.2;omega
  have HM:=aC J8 G5;clear J8 G5;exact pm68
 |have G5:m.length<=400:=by rw[hm];have h1:=eO (a_ [] f);have h2:=gH f [];have h3:=uI.o.2.2;omega
  have HM:=bE J8 G5 hm;obtain ⟨HYl,HE2,zcX⟩:=cD GZ hE vE;clear J8 G5 hm hE aO xy fL IU ES GZ vE pS G1 Et J3;go_enter Tryz.func195,Tryz.ntmps195;go_upto_region 2 with fail;rw[<-gF.o];go_upto_region 6 with fail;go_upto_region 7 with (go_at_call 96;refine C7.o.mono ?_;rintro e w4 ⟨rfl,aP⟩;have H4:=ab aP;clear aP);clear e0 e1 e2 e3;obtain ⟨W5,eK⟩:=ao (w4.alloc (.cells #[.string ⟨dc.toArray⟩] 9));have EU:Below W2.heap.size W2 W5:=by rw[eK];exact H4.o.tr cQ
  have y5:=bX eK;rw[<-eK];clear eK;have x5:=bT EU H2.o.2.1;have jA:=H2.o.2.2.later EU;have zaW:=H2.o.2.2.fs.lt;obtain ⟨S,hS⟩:∃S:World->Prop,S=fun V=>Below W5.heap.size W5 V:=⟨_,rfl⟩;have ff:∀ V,S V->V.cell? ⟨kb,0,none⟩=some (.map (some mF))/\V.cell? ⟨w.heap.size+1,1,none⟩=some (.string ⟨n.toArray⟩)/\(Instr.lookup 145 (.map (some mF)) (.string ⟨n.toArray⟩) false).run Tryz.prog V=.ok (.agg #[.int .u8 g0,.string g1,.slice g2 g3 g4,.slice g5 g6 g7]) V:=fun V h=>by
   rw[hS]at h;exact ⟨aa h (ah jA.box 0),aa h (ah x5 1),zcX.o V (((EU.tr h).block _ zaW))⟩
  have dW:S W5.drew:=by rw[hS];exact (ak _ _).drew
  have HC:=ab (fun (V:World) (h:Below W5.heap.size W5 V)=>ut f uI.o.2.1 (by have:=uI.o.2.2;omega) _ V ⟨g0,g1,g2,g3,g4,g5,g6,g7⟩ ((uI.o.1.later EU).later h));simp only[FQ.val,<-HM.o.2.2]at HC;have du:=ab hS;have H5:=bE EU y5 jA;clear hS x5 jA zaW EU y5;refine (wpIn_wide (n:=3)).1 ?_;refine lV S 9 dW fun jO bW=>?_;refine bL 0 34 (.pointer (some ⟨kb,0,none⟩)) rfl bW fun cF=>?_;simp only[ag];refine bL 1 35 (.pointer (some ⟨kb,0,none⟩)) rfl cF fun fI=>?_;simp only[ag];refine bL 2 36 (.pointer (some ⟨kb,0,none⟩)) rfl fI fun gO=>?_;simp only[ag];refine dm 3 37 (.map (some mF)) rfl (fun V hX=>by obtain ⟨h0,h1,h2⟩:=ff V hX;go_simp) gO fun iX=>?_;simp only[ag];refine bL 4 38 (.pointer (some ⟨w.heap.size+1,1,none⟩)) rfl iX fun jQ=>?_;simp only[ag];refine dm 5 39 (.string ⟨n.toArray⟩) rfl (fun V hX=>by obtain ⟨h0,h1,h2⟩:=ff V hX;go_simp) jQ fun kf=>?_;simp only[ag];refine dm 6 40 (.agg #[.int .u8 g0,.string g1,.slice g2 g3 g4,.slice g5 g6 g7]) rfl (fun V hX=>by obtain ⟨h0,h1,h2⟩:=ff V hX;go_simp) kf fun mK=>?_;simp only[ag];refine ce 7 rfl fun K hK=>?_;go_simp;refine aL.2 ((HC.o _ (by have h:=bW;rw[du.o]at h;exact h)).mono ?_);rintro e w7 ⟨⟨v7,rfl,M4⟩,fD⟩;have H7:=ab (((ak W5.heap.size W5).drew).trans fD);have Wn:=ab (rD m (by have:=HM.o.2.1;omega) HM.o.1 _ w7 v7 M4.1);refine hK _ _ (fun _=>by rw[du.o];exact H7.o) (fun _=>?_);clear hK K fD M4;refine ce 8 rfl fun K hK=>?_;go_simp;refine aL.2 (Wn.o.mono ?_);rintro e w8 ⟨⟨v8,rfl,GG⟩,Vc⟩;have gS:Below W5.heap.size W5 w8:=kY (w:=W5) H7.o Vc;have H8:=aC gS (GG.base (lo':=W5.heap.size) (by exact aF _));refine hK _ _ (fun _=>by rw[du.o];exact H8.o.1) (fun _=>?_);clear hK K Vc gS GG;refine ce 9 rfl fun K hK=>?_;go_simp;refine eS hK ?_;clear hK K;refine le ?_;clear ff dW bW cF fI gO iX jQ kf mK jO;have h5s:=H5.o.1.size;have hx8:w8.cell? ⟨w4.heap.size,0,none⟩=some (.string ⟨dc.toArray⟩):=aa H8.o.1 (ah H5.o.2.1 0);obtain ⟨l0,vD⟩:=ao (m.filter dZ);have zcY:l0.length<=400:=by rw[vD];exact aQ (List.length_filter_le _ _) HM.o.2.1
  have hE:=HE2.o;rw[<-vD]at hE;have HV8:=ab (vD ▸ H8.o.2);have kV:=fk l0 (by omega) dc _ w8 v8 HV8.o.strs
  cases xg:l0.contains dc with
  | false=>
   rw[xg]at kV hE;have kV:=ab kV;have rA:=ab (show R=l0 by rw[hE];simp);clear hE vD xg;go_wp2_with (go_at_call 128;refine kV.o.mono ?_;rintro e w9 ⟨rfl,hw9⟩;cases hw9);go_ret;exact ⟨⟨_,rfl,by rw[rA.o];exact HV8.o.base (aQ H2.o.1.size h5s)⟩,(H2.o.1.tr H5.o.1).tr H8.o.1⟩
  | true=>
   rw[xg]at kV hE;have kV:=ab kV;have hE:R=l0.filter (fun x=>!(x == dc)) ++ (cm (aN (termOf k.ts y))).filter dZ:=by rw[hE];simp[bne]
   have rA:=ab hE;have zcZ:=ab (xC (fun x=>x == dc) l0 (by omega) 247 #[.pointer (some ⟨w4.heap.size,0,none⟩)] z9 W5.heap.size w8 v8 (fun x W _ hC=>G4 x dc w4.heap.size W (hC.cell (by intro h;have h1:W5.heap.size<=w4.heap.size:=h.1;have h2:=(bn H5.o.2.1);omega) hx8)) HV8.o);clear hE vD xg;go_upto_region 11 with (first | (go_at_call 128;refine kV.o.mono ?_;rintro e w9 ⟨rfl,hw9⟩;cases hw9) | (go_at_call 246;refine zcZ.o.mono ?_;rintro e w9 ⟨⟨v9,rfl,PD⟩,hk9⟩;have H9:=aC (kY (w:=W5) H8.o.1 hk9) PD;clear PD hk9));have Xq:=H5.o.2.2.later H9.o.1;obtain ⟨⟨z0,z1,z2,z3,z4⟩,U9,ER,LA,Qh,_,z7⟩:=Xq.termOf (x:=y) (by have:=HYl.o;omega);simp only[TQ.val]at z7;have z7:=z7 w9 rfl;have k1:w9.cell? ⟨kb,1,none⟩=some (.map (some mT)):=ah Xq.box 1;have FL:=ab (lK _ ER _ w9 ⟨z0,z1,z2,z3,z4⟩ U9);obtain ⟨m9,hm9⟩:=ao (cm (aN (termOf k.ts y)));have zaX:∀ x∈m9,x.length<=2000000:=fun x hx=>by rw[hm9,dL]at hx;exact aQ (mq _ Qh x hx) (by decide)
   have zaY:m9.length<=1000:=by rw[hm9];have h1:=eO (aN (termOf k.ts y));have h2:=mo (termOf k.ts y);omega
   have hE:=rA.o;simp only[TQ.val,<-hm9]at FL;rw[<-hm9]at hE;obtain ⟨l1,FN⟩:=ao (l0.filter (fun x=>!(x == dc)));have zc0:l1.length<=400:=by rw[FN];exact aQ (List.length_filter_le _ _) zcY
   have H9v:=ab (FN ▸ H9.o.2);rw[<-FN]at hE;have Qj:=ab hE;have HM9:=bE zaX zaY zc0;clear Xq U9 ER LA Qh hm9 zaX zaY FN hE hx8;go_upto_region 12 with (first | (go_at_call 166;refine FL.o.mono ?_;rintro e w10 ⟨⟨v10,rfl,zaZ⟩,rT⟩;have zc1:=ab (rD m9 (by have:=HM9.o.2.1;omega) HM9.o.1 _ w10 v10 zaZ.1);have lx:=ab rT;clear rT zaZ) | (go_at_call 245;refine zc1.o.mono ?_;rintro e Ck ⟨⟨v11,rfl,za0⟩,uJ⟩;have tG:=aC (kY (w:=w9) lx.o uJ) za0;clear za0 uJ) | (at_builtin;refine dU rfl _ _ rfl W5.heap.size (H9.o.1.tr tG.o.1).size v9 l1 rfl (H9v.o.later tG.o.1) v11 (m9.filter dZ) rfl _ tG.o.2.strs (by have h1:=List.length_filter_le dZ m9;have h2:=HM9.o.2.1;have h3:=HM9.o.2.2;omega) ?_;intro v12 w12 za1 za2;have Ov:=aC za1 za2;clear za1 za2));go_ret;have om:Below W5.heap.size W5 w12:=(og (M:=fun _=>False) (Kp.below (H9.o.1.tr tG.o.1)) Ov.o.2 (fun g hg=>(H9v.o.lt g hg).1)).empty;exact ⟨⟨_,rfl,by rw[Qj.o];exact Ov.o.1.base (aQ H2.o.1.size h5s)⟩,(H2.o.1.tr H5.o.1).tr om⟩):G:=h
theorem pm222(h:G:=by
 obtain ⟨ra,rc,rfl⟩:=hF.row.slice;rw[cb]at hF;obtain ⟨S,hS⟩:∃S:World->Prop,S=fun V=>Below wr.heap.size wr V:=⟨_,rfl⟩;have xb:=hF.box
 first
 |clear pp222;have k0:=ah jf.box 0;have r0:=ah xb 0;have mlt:=jf.fs.lt;have ff:∀ V,S V->V.cell? ⟨w.heap.size+1,0,none⟩=some (.slice ra j rc)/\V.cell? ⟨kb,0,none⟩=some (.map (some mF))/\(Instr.lookup 145 (.map (some mF)) (.string ⟨nm.toArray⟩) false).run Tryz.prog V=.ok (.agg #[.int .u8 g0,.string g1,.slice g2 g3 g4,.slice g5 g6 g7]) V:=fun V h=>by
   rw[hS]at h;exact ⟨aa h r0,aa h k0,(hlk V (h.block _ mlt)).2⟩
  have dW:S wr.drew:=by rw[hS];exact (ak _ _).drew
  obtain ⟨du,HF,eh,dy⟩:=eR hS hF cb ar;have HC:=ab (fun (V:World) (h:Below wr.heap.size wr V)=>oe k.fs[j].2 (HP.o.2.2.1 _ GW) ok V ⟨g0,g1,g2,g3,g4,g5,g6,g7⟩ (oZ.later h));simp only[FQ.val]at HC;have Sb:=ab (show k.fs.take j ++ [(nm,k.fs[j].2)]=k.fs.take (j+1) by rw[dK,List.take_add_one,gy dG];rfl);have yQ:(j:Int)<(n1:Int):=by omega
  have pp195:=();exact pm195
 |have k0:=ah jf.box 1;have r0:=ah xb 1;have mlt:=jf.ts.lt;have ff:∀ V,S V->V.cell? ⟨w.heap.size+1,1,none⟩=some (.slice ra j rc)/\V.cell? ⟨kb,1,none⟩=some (.map (some mT))/\(Instr.lookup 146 (.map (some mT)) (.string ⟨nm.toArray⟩) false).run Tryz.prog V=.ok (.agg #[.bool g0,.string g1,.slice g2 g3 g4]) V:=fun V h=>by
   rw[hS]at h;exact ⟨aa h r0,aa h k0,(hlk V (h.block _ mlt)).2⟩
  have dW:S wr.drew:=by rw[hS];exact (ak _ _).drew
  obtain ⟨du,HF,eh,dy⟩:=eR hS hF cb ar;have HC:=ab (fun (V:World) (h:Below wr.heap.size wr V)=>oF k.ts[j].2 (HP.o.2.2.2 _ GW) ok V ⟨g0,g1,g2,g3,g4⟩ (oZ.later h));simp only[TQ.val]at HC;have Sb:=ab (show k.ts.take j ++ [(nm,k.ts[j].2)]=k.ts.take (j+1) by rw[dK,List.take_add_one,gy dG];rfl);have yQ:(j:Int)<(n2:Int):=by omega
  exact pm195):G:=h
theorem pm223(h:G:=by
 refine ⟨fun h0=>(by rw[hr]at h0;cases h0),fun j hj=>?_⟩;rw[hr]at hj;obtain rfl:=List.mem_singleton.1 hj;refine wpOpIn_step hi (fun K' D1=>?_)
 first
 |clear pp223;rw[aX hw];exact h K' (fun a w hS hW=>D1 a w ⟨hS,hW hS⟩)
 |rw[aD (by simp[hw])];exact ⟨Bv,D1 _ _ ⟨fun _=>hS,by rw[vN];exact h hS⟩⟩):G:=h
theorem pm224(h:G:=by
 have gx:(xn == xn)=true:=by simp
 have lg:(!(xn == xn))=false:=by simp
 have HMt:Hd (R=dH ps.reverse xa ya):=ab (by rw[zB.o];simp);clear zB;go_wp2
 first
 |clear pp224;rw[<-gF.o];have pp202:=();exact pm202
 |exact pm202):G:=h
theorem pm225(h:G:=by
 have vY:=jP.o b ja;have d0:=bj.cell vY c0;have d1:=bj.cell vY c1;have d2:=bj.cell vY c2
 first
 |clear pp225a;have nC:=ju l (k+1);have jb:=j5 br;have F':=tL br;have y':=yZ (sc:=sc) br;have iA:TermV ok wr u.val l[k]:=hu.move (fun b hok hlt=>⟨hok,bj.same b hlt (jP.o b hok)⟩);have V5:=qu l[k];have fh:=HL.o l[k] (az br) ok J sc (left - nodesTs (l.take k)) bz ba (wr.alloc (.cells #[.bool u.v,.string u.n,.slice u.a u.l u.c] 43)) u (iA.later cQ) jP.o (hj.later cQ) (by omega) (by omega) Ol hd (by omega);obtain ⟨bb,cK⟩:=ao (gw sc l[k] && (decide ((nodesT l[k]:Int)<=left - nodesTs (l.take k)) && decide (ba+cY l[k]<=bz+1)));rw[<-cK]at fh
  cases bb with
  | true=>
   have oJ:=cK.symm;simp only[ae,bw]at oJ;have hrel:dB sc (l.take (k+1))=true/\((nodesTs (l.take (k+1)):Int))<=left/\ba+bx (l.take (k+1))<=bz+1/\left - nodesTs (l.take k) - nodesT l[k]=left - nodesTs (l.take (k+1)):=⟨by rw[y',ha,oJ.1];rfl,by omega,by omega,by omega⟩;obtain ⟨HR,HC,kD⟩:=cD hrel fh bj;clear hrel fh cK oJ y' F' jb nC V5 ha hb hc hj bj hu iA c0 c1 c2;go_wp2_with (go_at_call 122;refine HC.o.mono ?_;rintro e w3 ⟨rfl,iV,l3,pZ,Mv,Ss,FZ⟩;have HH:=bE iV pZ (FZ rfl);clear iV pZ Mv Ss FZ);go_roundw
   case rel=>exact ⟨k+1,by omega,by go_num,kD.o.trans ((Kp.below cQ).trans HH.o.1),by rw[<-HR.o.2.2.2,<-HH.o.2.2];exact HH.o.2.1,HR.o.1,HR.o.2.1,HR.o.2.2.1⟩
   case measure=>simp[intOf];omega
  | false=>
   have j6:(dB sc l && (decide ((nodesTs l:Int)<=left) && decide (ba+bx l<=bz+1)))=false:=by
    have dK:=ju l (k+1);have hdm:=F9 br
    cases h1:gw sc l[k] with
    | false=>rw[OS br h1];rfl
    | true=>
     rw[h1,dP]at cK;have cK:=cK.symm;rw[Bool.and_eq_false_iff]at cK;rcases cK with cK | cK
     ·have:decide ((nodesTs l:Int)<=left)=false:=by simp at cK ⊢;omega
      rw[this];simp
     ·have:decide (ba+bx l<=bz+1)=false:=by simp at cK ⊢;omega
      rw[this];simp
   obtain ⟨HF,HC,kD⟩:=cD j6 fh bj;clear j6 fh cK y' F' jb nC V5 ha hb hc hj bj hu iA c0 c1 c2;go_wp2_with (go_at_call 122;refine HC.o.mono ?_;rintro e w3 ⟨rfl,iV,l3,pZ,Mv,Ss,FZ⟩;have HH:=cC iV pZ Mv Ss;clear iV pZ Mv Ss FZ);go_ret;exact ⟨aK HF.o.symm,kD.o.trans ((Kp.below cQ).trans HH.o.1),l3,HH.o.2.1,HH.o.2.2.1,by have:=HH.o.2.2.2;omega,fun h=>by rw[HF.o]at h;cases h⟩
 |clear pp225b;have jb:=j5 br;have nC:=ju l (j+1);have hf:=HF.o.mem (az br);have qB:=fd.o l[j] (az br);have iA:TermV ok wr u.val l[j]:=hu.move (fun b hok hlt=>⟨hok,bj.same b hlt (jP.o b hok)⟩);obtain ⟨⟨xv,xn,xa⟩,hx⟩:∃x,l[j]=x:=⟨_,rfl⟩;rw[hx]at iA hf qB jb;have sJ:nodesT (.mk xv xn xa)=nodesTs xa+1:=rfl;rw[sJ]at jb;obtain ⟨s1,h2,fL⟩:=aV.1 iA;obtain ⟨uv,un,ua,ul,uc⟩:=u;have pp113a:=();exact pm113
 |have d3:=bj.cell vY c3;have nC:=bS s (k+1);have jb:=dl br;have F':=hO br
  first
  |clear pp150;have y':cG true (s.take (k+1))=_:=j8 br;have iA:FormV ok wr u.val s[k]:=hu.move (fun b hok hlt=>⟨hok,bj.same b hlt (jP.o b hok)⟩);have fh:=fd.o s[k] (az br) ok J true (left - 1 - nodesTs a - nodesFs (s.take k)) bz (ba+1) (wr.alloc (.cells #[.int .u8 u.o,.string u.n,.slice u.a u.l u.c,.slice u.b u.m u.e] 36)) u ((HT.o.kp bj (fun b hb=>by subst hb;exact Tr)).next cQ) Tr (iA.later cQ) jP.o (hj.later cQ) (by omega) (by omega) Ol (by omega) (by omega);obtain ⟨bb,cK⟩:=ao (okF true s[k] && (decide ((nodesF s[k]:Int)<=left - 1 - nodesTs a - nodesFs (s.take k)) && decide (ba+1+depthF s[k]<=bz+1)));rw[<-cK]at fh
   cases bb with
   | true=>
    have oJ:=cK.symm;simp only[ae,bw]at oJ;have hrel:cG true (s.take (k+1))=true/\((nodesFs (s.take (k+1)):Int))<=left - 1 - nodesTs a/\ba+1+aT (s.take (k+1))<=bz+1/\left - 1 - nodesTs a - nodesFs (s.take k) - nodesF s[k]=left - 1 - nodesTs a - nodesFs (s.take (k+1)):=⟨by rw[y',ha,oJ.1];rfl,by omega,by omega,by omega⟩;exact pm81
   | false=>
    have j6:(cG true s && (decide ((nodesFs s:Int)<=left - 1 - nodesTs a) && decide (ba+1+aT s<=bz+1)))=false:=by
     have dK:=bS s (k+1);have hdm:=mS br
     cases h1:okF true s[k] with
     | false=>rw[tQ br h1];rfl
     | true=>
      exact pm129
    exact pm91
  |have y':cG sc (s.take (k+1))=_:=j8 br;have iA:FormV ok wr u.val s[k]:=hu.move (fun b hok hlt=>⟨hok,bj.same b hlt (jP.o b hok)⟩);have fh:=fd.o s[k] (az br) ok J sc (left - 1 - nodesTs a - nodesFs (s.take k)) bz (ba+1) (wr.alloc (.cells #[.int .u8 u.o,.string u.n,.slice u.a u.l u.c,.slice u.b u.m u.e] 36)) u ((HT.o.kp bj (fun b hb=>by subst hb;exact Tr)).next cQ) Tr (iA.later cQ) jP.o (hj.later cQ) (by omega) (by omega) Ol (by omega) (by omega);obtain ⟨bb,cK⟩:=ao (okF sc s[k] && (decide ((nodesF s[k]:Int)<=left - 1 - nodesTs a - nodesFs (s.take k)) && decide (ba+1+depthF s[k]<=bz+1)));rw[<-cK]at fh
   cases bb with
   | true=>
    have oJ:=cK.symm;simp only[ae,bw]at oJ;have hrel:cG sc (s.take (k+1))=true/\((nodesFs (s.take (k+1)):Int))<=left - 1 - nodesTs a/\ba+1+aT (s.take (k+1))<=bz+1/\left - 1 - nodesTs a - nodesFs (s.take k) - nodesF s[k]=left - 1 - nodesTs a - nodesFs (s.take (k+1)):=⟨by rw[y',ha,oJ.1];rfl,by omega,by omega,by omega⟩;exact pm81
   | false=>
    have j6:(cG sc s && (decide ((nodesFs s:Int)<=left - 1 - nodesTs a) && decide (ba+1+aT s<=bz+1)))=false:=by
     have dK:=bS s (k+1);have hdm:=mS br
     cases h1:okF sc s[k] with
     | false=>rw[tQ br h1];rfl
     | true=>
      exact pm129
    exact pm91):G:=h
theorem pm226(h:G:=by
 unfold Oper.wp execOp;simp only[ho,resolve,invoke,builtin,Sem.run_bind,Sem.run_pure,Result.andThen_ok,List.map_toArray,cU,List.map_nil,hs,hx,hr]
 first
 |clear pp226;exact hK _ _ (h v' w' h2 h3)
 |exact hK _ _ (h v' w' h3 h4)):G:=h
theorem pm227(h:G:=by
 cases e with
 | returned u=>exact ⟨keep a hy u,by rw[<-Act.put_comm a v u h2];exact he⟩
 | panicked c=>exact hQ _ _ _ he
 | outgrown=>exact he):G:=h
theorem pm228(h:G:=by
 refine mM Tryz.func127 ?_;simp only[Tryz.ntmps127,Nat.reduceAdd,Nat.reduceSub,li]
 first
 |clear pp228;exact pm51
 |have jH:=eU
  first
  |clear pp130;gi_wp2_with (first | (gi_at_call 119;rw[<-HX.o];refine aL.2 (sX.o.mono ?_);rintro e w3 ⟨rfl,aJ⟩;have y1:=(aJ.block _ (by have:=HY.o.2.2.2.1;omega)).trans HY.o.2.1;have y0:=(aJ.block _ (by have:=HY.o.2.2.2.1;omega)).trans HY.o.2.2.1;have pN:=aJ.size;have pP:=HY.o.2.2.2.1;have Jr:w.heap.size+2<=w3.heap.size:=(by omega);have bM:=cC (HY.o.1.tr aJ) y1 y0 (HY.o.2.2.2.2.tr aJ);obtain ⟨p0,p1,p2,_⟩:=fX y0;clear aJ pN pP y1;have cI:Below w3.heap.size w3 (w3.alloc (.cells #[.bool true,.string ⟨n.toArray⟩,.slice none 0 0] 43)):=cQ;have r2:=aa cI p2;clear y0 cI) | (gi_at_call 128;refine aL.2 ((Xl.o _ bM.o.2.2.2).mono ?_);rintro e w4 ⟨rfl,Tb⟩;cases Tb));clear p0 p1 p2 r2;obtain ⟨W1,bR⟩:=ao (w3.alloc (.cells #[.bool true,.string ⟨n.toArray⟩,.slice none 0 0] 43));have iJ:Below w.heap.size w W1:=by rw[bR];exact bM.o.1.tr cQ
   have x1:W1.heap[w.heap.size+1]?=some (.cells #[.bool false,.string ⟨#[]⟩,.slice none 0 0] 43 (0,0)):=by rw[bR];exact (bK _ _ _ (by omega)).trans bM.o.2.1
   have x2:=bX bR;rw[<-bR];clear bR;obtain ⟨dO,jI⟩:=aZ iJ x1;have vW:=ab (Fills.start (R:=w3.heap.size) (mk:=fun rr=>#[.bool true,.string ⟨n.toArray⟩,rr]) (Row:=fun r W=>RowT W1.heap.size r ((a.map (bY kd.ts sc)).take 0) W) x2 (RowT.nil _ _));clear iJ x1 x2;gi_loopw [47] (fun i wr=>∃k:Nat,k<=k0/\i=.int .i64 k/\∃row,Fills 43 (w3.heap.size) W1.heap.size (fun rr=>#[.bool true,.string ⟨n.toArray⟩,rr]) (fun r W=>RowT W1.heap.size r ((a.map (bY kd.ts sc)).take k) W) W1 wr row) (fun i _=>k0 - (intOf i).toNat)
   case atStart=>exact ⟨0,bc _,rfl,_,vW.o⟩
   case round=>
    obtain ⟨k,hk,rfl,row,hF⟩:=hrel;have ar:=hF.below dO.o ((by omega))
    by_cases hlt:k<k0
    ·have dG:=ct dJ.o hlt;have pp55j:=();exact pm55
    ·obtain rfl:k=k0:=by omega
     have pp187:=();exact pm187
  |gi_wp2_with (first | (gi_at_call 119;rw[<-HX.o];refine aL.2 (sX.o.mono ?_);rintro e w3 ⟨rfl,aJ⟩;have y1:=(aJ.block _ (by have:=HY.o.2.2.2.1;omega)).trans HY.o.2.1;have y0:=(aJ.block _ (by have:=HY.o.2.2.2.1;omega)).trans HY.o.2.2.1;have pN:=aJ.size;have pP:=HY.o.2.2.2.1;have Jr:w.heap.size+2<=w3.heap.size:=(by omega);have bM:=cC (HY.o.1.tr aJ) y1 y0 (HY.o.2.2.2.2.tr aJ);obtain ⟨p0,p1,p2,_⟩:=fX y0;clear aJ pN pP y1;clear y0) | (gi_at_call 128;refine aL.2 ((Xl.o _ bM.o.2.2.2).mono ?_);rintro e w4 ⟨rfl,Tb⟩;cases Tb) | (gi_at_call 130;refine aL.2 ((eY n _ (by omega)).mono ?_);rintro e w5 ⟨rfl,ZE⟩;cases ZE) | (gi_at_call 131;refine aL.2 ((gg (cM n) _).mono ?_);rintro e w5 ⟨rfl,bi⟩;have x1:=(bi.block _ (by omega)).trans bM.o.2.1;obtain ⟨e0,e1,e2,z0,z1,z2⟩:=fX x1;have H5:=aC (bM.o.1.tr bi) x1;have Zq:=bi.size;clear bi x1));have x6:=qt (v0:=.bool true) (v1:=.string ⟨(cM n).toArray⟩) (v2:=.slice none 0 0) H5.o.2;have k6:=eF (W:=w5) (b:=w.heap.size+1) (v0:=.bool true) (v1:=.string ⟨(cM n).toArray⟩) (v2:=.slice none 0 0);obtain ⟨W6,cP⟩:=ao (((w5.setCell ⟨w.heap.size+1,0,none⟩ (.bool true)).setCell ⟨w.heap.size+1,1,none⟩ (.string ⟨(cM n).toArray⟩)).setCell ⟨w.heap.size+1,2,none⟩ (.slice none 0 0));rw[<-cP]at x6 k6 ⊢;clear cP;obtain ⟨g0,g1,g2,_⟩:=fX x6;refine bI (v:=TQ.val ⟨true,⟨(cM n).toArray⟩,none,0,0⟩) (by simp[TQ.val,results,Tryz.results127,go_sem,g0,g1,g2]) rfl ⟨⟨⟨true,⟨(cM n).toArray⟩,none,0,0⟩,rfl,aV.2 ⟨_,rfl,none,0,fun _=>.string ByteArray.empty,rfl,.inl rfl,fun j hj=>absurd hj (by simp)⟩⟩,Below.kp1 H5.o.1 k6 (by omega)⟩):G:=h
theorem pm229(h:G:=by
 obtain ⟨a1,a2,a3,a4⟩:=gR k g n m hw.2 hq1.2 (by omega)
 first
 |clear pp229a;have hmx:m≠x:=fun e=>hm.1 (by rw[e];simpa using h1.2);have hmu:(aN u).contains m=false:=by simpa using hm.2
  have Lt:nodesT (am m)=1:=by simp[am,nodesT,nodesTs]
  have hU:1<=nodesT u:=by obtain ⟨_,_,_⟩:=u;simp[nodesT]
  simp only[dbF,hq,if_true,qE,qD];rw[t7 k _ x u _ _ a1 a2 (by omega) (by omega),t7 k g n (am m) _ _ hw.2 hq1.2 (by omega) (by omega),Gl hmu];congr 2;have e1:vB (upd (upd σ m (.lvl d)) x (vB σ u)) (am m)=.lvl d:=by
   have:(m == x)=false:=by simpa using hmx
   simp[am,vB,upd,this]
  rw[e1,zu _ hmx,zu (upd σ x (vB σ u)) (x:=m) (y:=n) (fun e=>by subst e;rw[h2]at hmu;cases hmu),O6 hm.1]
 |clear pp229b;have b0:=oU k g n (am m) hw.2 hq1.2 (by omega) (by simp[am,nodesT,nodesTs]at *;omega) hf.2.2.2 (wi hm);have b1:=oU k _ x u a1 a2 (by omega) (by rw[a4];simp[nodesTs]at hs;omega) b0 hu;simp only[kT,nmFs,ae,bw,dF,List.map_nil,nmTs];exact ⟨hf.1,hm,trivial,b1,trivial⟩
 |clear pp229c;obtain ⟨b1,b2,b3,b4⟩:=gR k _ x y a1 a2 (by omega);simp only[lL,gG,qone,ep,depthF,aT,nodesF,nodesFs,dF,List.map_nil,fR,b1,b2,b3,b4,a3,a4,hq];simp
 |clear pp229d;have b1:=uE k _ x u a1 a2 (by omega);rw[a4]at b1;simp only[nodesF,nodesFs,dF,List.map_nil,nodesTs,Nat.add_mul];omega
 |obtain ⟨b1,b2⟩:=uL hu k _ x a1 a2 (by omega);simp[lL,gG,qone,ep,dF,fR,b1,b2]):G:=h
theorem pm230(h:G:=by
 exact HT _ _ (by rw[e1,e2,e3];exact ⟨h.sz.trans If,h.df.trans Rh,K4,(h.old 2 (by kernel_rfl)).trans t2,⟨_,KZ⟩,⟨_,K3⟩,⟨_,K1⟩⟩)):G:=h
theorem pm231(h:G:=by
 have Ul:=eO (a_ [] g);have ug:=gH g [];have CT:=fk (cm (a_ [] g)) (by have:=nH.o.1;omega) nx _ wf vf R3.o.strs;rw[lN,xg]at CT;have Gz:=ab CT
 first
 |clear pp231;clear Ul ug CT xg;gi_wp2_with (gi_at_call 128;refine aL.2 (Gz.o.mono ?_);rintro e w4 ⟨rfl,rfl⟩);have CC:=oe (.mk qo n [] [g]) Zo.o.1 ok w4 ⟨qo,⟨n.toArray⟩,qa,0,qc,some ⟨b,off,none⟩,1,qe⟩ (Zo.o.2.later GF.o.below);simp only[FQ.val]at CC;exact pm17
 |clear Ul ug CT;have CFT:=lK z Py.o.1 (fun _=>True) (wf.alloc (.cells #[.int .u8 go,.string gn,.slice ga gl gc,.slice gb gm ge] 36)) ⟨zv,zn,za,zl,zc⟩ ((HZ.o.later GF.o.below).move (vQ cQ));simp only[TQ.val]at CFT;have zcE:=ab CFT;have WE:=GF.o.later ((ak _ _).alloc (aF _) (.cells #[.int .u8 go,.string gn,.slice ga gl gc,.slice gb gm ge] 36));obtain ⟨d0,d1,d2,d3⟩:=nb GF.o.below HC.o.1 HC.o.2.1 HC.o.2.2.1 HC.o.2.2.2;obtain ⟨u0,u1,u2⟩:=lE WE.bu;obtain ⟨Eu,HCn⟩:=aZ WE xg;clear CFT WE xg;gi_wp2_with fail;refine aL.2 (Gz.o.mono ?_);rintro e w4 ⟨rfl,rfl⟩;gi_wp2_with fail;refine aL.2 (zcE.o.mono ?_);rintro e w6 ⟨⟨vn,rfl,hvn⟩,cI⟩;clear d0 d1 d2 d3 u0 u1 u2 p0 p1 p2 p3;have WF:=Eu.o.later cI;have t6:w6.heap[w4.heap.size]?=some (.cells #[.int .u8 go,.string gn,.slice ga gl gc,.slice gb gm ge] 36 (0,0)):=(cI.block _ (by simp)).trans (aj rfl);have hlz:=eO (aN z);have sF:=n_ z;have CT2:=fk (cm (aN z)) (by have:=Py.o.2;omega) n _ w6 vn hvn.strs;rw[lN]at CT2;obtain ⟨zcF,Ev,HT6,HVn⟩:=eR CT2 WF t6 hvn;have SP:=ab (show Below w4.heap.size w4 w6 from cQ.tr cI);have n1:=ah WF.b0 1;clear CT2 WF t6 hlz sF hvn cI;gi_wp2_with fail;refine aL.2 (zcF.o.mono ?_);rintro e w7 ⟨rfl,rfl⟩
  cases PC:(aN z).contains n with
  | false=>
   have wk:Hd (RS=.mk qo n [] [eD kk nx z g]):=ab (by rw[UN.o,mt p9,HCn.o,PC,aD (by simpa using hn)];rfl);have HGX:=ab ((HG.o.later GF.o.below).later SP.o);clear n1 PC;have CP:=fd.o W0 g nx z nH.o.2.2.2.2 nH.o.1 nH.o.2.1 nH.o.2.2.1 nH.o.2.2.2.1 Ly.o Py.o.1 Py.o.2 _ _ w7 ⟨go,gn,ga,gl,gc,gb,gm,ge⟩ ⟨zv,zn,za,zl,zc⟩ (Pz.o.next Ev.o.below) HGX.o (HZ.o.later Ev.o.below);simp only[FQ.val,TQ.val]at CP;have JM:=ab CP;obtain ⟨tu0,tu1,tu2⟩:=lE Ev.o.bu;obtain ⟨tt0,tt1,tt2,tt3⟩:=mi HT6.o;clear CP;gi_wp2_with fail;refine aL.2 (JM.o.mono ?_);rintro e w8 ⟨⟨⟨po,pn,pa,pl,pc,pb,pm,pe⟩,rfl,UO⟩,gS⟩;clear tu0 tu1 tu2 tt0 tt1 tt2 tt3;have WG:=gS.size;have hwX:=Ev.o.below.size;have lO:Below w8.heap.size w8 (w8.alloc (.cells #[.int .u8 po,.string pn,.slice pa pl pc,.slice pb pm pe] 36)):=cQ;have uw:=(Ev.o.later gS).later lO;have pp78:=();exact pm78
  | true=>
   have zcG:=eO (a_ [] g);have zcH:=gH g [];have zcI:=eO (aN z);have zcJ:=n_ z;have zaA:=Py.o.2;have zaB:=nH.o.1;have zaC:OwnS jg.heap.size w7 vf (cm (a_ [] g)):=OwnS.later (show OwnS jg.heap.size w4 vf (cm (a_ [] g)) from R3.o.1) SP.o;have zaD:∀ b,vf.ownBlock=some b->w.heap.size+3<b/\b<w4.heap.size:=fun b hb=>by
    have h1:=(R3.o.1.lt b hb);have h2:=HPB.o.lt;exact ⟨by omega,by omega⟩
   obtain ⟨m,hm⟩:=ao (dN (a_ [] g ++ aN z));have Lz:dN (cm (a_ [] g) ++ cm (aN z))=m:=by rw[hm];exact JJ (by omega) (by omega) (by omega) (by omega)
   have pS:m.length<=2000000:=by rw[hm];exact oT (by simp only[di];omega)
   have mm:∀ x∈cm (a_ [] g) ++ cm (aN z),x.length<=2000000:=fun x hx=>by
    rcases List.mem_append.1 hx with hx | hx
    ·exact oV g [] nH.o.2.2.2.2.2 x ((dL x _).1 hx)
    ·exact mq z Py.o.1.2 x ((dL x _).1 hx)
   have ox:(cm (a_ [] g) ++ cm (aN z)).length<=1000000:=by simp only[di];omega
   have wk:Hd (RS=.mk qo m [] [eD kk nx z (eD kk n (am m) g)]):=ab (by rw[UN.o,mt p9,HCn.o,PC,aD (by simpa using hn),aX rfl,<-hm];rfl);have HM:=cC Lz pS mm ox;obtain ⟨HVB,HV6⟩:=aZ zaD zaC;have HL6:=ab (show jg.heap.size<=w7.heap.size from aQ (by have:=GF.o.below.size;have:=HPB.o.lt;exact zcD.o) SP.o.size);have WH:=ab (show (cm (a_ [] g)).length+(cm (aN z)).length<=4000000 by omega);clear n1 PC zcG zcH zcI zcJ zaA zaB zaC zaD hm Lz pS mm ox;gi_wp2_with (gi_at_builtin;refine pO rfl _ _ rfl jg.heap.size HL6.o vf _ rfl HV6.o vn _ rfl _ HVn.o.strs WH.o ?_;intro v8 w8 GG UQ;have SQ:=aC GG UQ;clear GG UQ);have WI:=Ev.o.grown SQ.o.2 (fun b hb=>(HVB.o b hb).1);have t8:w8.heap[w4.heap.size]?=some (.cells #[.int .u8 go,.string gn,.slice ga gl gc,.slice gb gm ge] 36 (0,0)):=(SQ.o.2.block _ (by have:=SP.o.size;have:=(bn HT6.o);omega) (fun e=>by have:=(HVB.o _ e.symm).2;omega)).trans HT6.o;have WJ:=De W0 w8 (Pz.o.next WI.below) _ HM.o.2.2.2 HM.o.2.2.1 _ v8 SQ.o.1.strs;rw[HM.o.1]at WJ;obtain ⟨WK,zcK,HT8⟩:=cD WJ WI t8;clear WJ WI t8;refine aL.2 (WK.o.mono ?_);rintro e w9 ⟨rfl,lO⟩;have uw:=zcK.o.later lO;have t9:w9.heap[w4.heap.size]?=some (.cells #[.int .u8 go,.string gn,.slice ga gl gc,.slice gb gm ge] 36 (0,0)):=bT lO HT8.o;have q1:=ah uw.b2 1;have zq1:=ac uw.b2 1;have mO:=uw.setR 1 (.string ⟨m.toArray⟩);have tA:(w9.setCell ⟨w.heap.size+1+1+1,1,none⟩ (.string ⟨m.toArray⟩)).heap[w4.heap.size]?=some (.cells #[.int .u8 go,.string gn,.slice ga gl gc,.slice gb gm ge] 36 (0,0)):=(d9 _ _ _ _ (by have:=GF.o.lt;simp <;> omega)).trans t9;obtain ⟨MW,WL⟩:=aZ mO tA;clear lO uw t9 mO tA;gi_wp2;obtain ⟨W2,bl⟩:=ao (w9.setCell ⟨w.heap.size+1+1+1,1,none⟩ (.string ⟨m.toArray⟩));rw[<-bl]at MW WL ⊢;clear bl q1 zq1;exact pm142):G:=h
theorem pm232(h:G:=by
 have ht:l.take k=l:=by rw[dJ.o];exact cO
 rw[ht]at hR ⊢;obtain ⟨HR,HB,HT⟩:=cD hR ar ht;clear hR ar ht;rw[<-dJ.o]at HR ⊢;go_wp2;go_ret
 first
 |clear pp232;exact ⟨ra,rc,rfl,by have:=HR.o.terms;rw[dJ.o]at *;exact this,HB.o⟩
 |exact ⟨ra,rc,rfl,by have:=HR.o.forms;rw[dJ.o]at *;exact this,HB.o⟩):G:=h
theorem pm233(h:G:=by
 have l2:=(hl (w3.alloc (.cells #[.bool false,.string ⟨#[]⟩,.slice none 0 0] 43)).drew (bK _ _ _ (by have:=ln.ts.lt;omega))).1
 first
 |clear pp233;have Nc:=ab (show R=true by rw[rA.o,hg];rfl);have yk:=ab (bi.drew);clear ln x3 bi hl hg;go_region
  all_goals
   go_wp2;go_ret;exact ⟨by rw[Nc.o];rfl,(H1.o.1.tr H3.o).tr yk.o⟩
 |have Nc:=ab (show R=false by rw[rA.o,hg];rfl);have yk:=ab ((((ak w3.heap.size w3).alloc (aF _) (.cells #[.bool xv,.string xn,.slice xa xl xc] 43))).drew);clear ln x3 bi hl hg hxv hpu;go_region
  all_goals
   go_wp2;go_ret;exact ⟨by rw[Nc.o];rfl,(H1.o.1.tr H3.o).tr yk.o⟩):G:=h
theorem pm234(h:G:=by
 have l2:=(hl (w4.alloc (.cells #[.bool false,.string ⟨#[]⟩,.slice none 0 0] 43)).drew (bK _ _ _ (by have:=oX.ts.lt;omega))).1
 first
 |clear pp234;obtain ⟨W5,eK⟩:=ao (w4.alloc (.cells #[.bool false,.string ⟨#[]⟩,.slice none 0 0] 43)).drew;have pU:Below w4.heap.size w4 W5:=by rw[eK];exact bi.drew
  have nq:Below W3.heap.size W3 W5:=H4.o.tr pU;have EC:Below W5.heap.size W5 W5.drew:=(ak _ _).drew;have PR:=(oX.later pU).later EC;have zaR:=(HT.o.2.1.later nq).later EC;obtain ⟨w6,cV,GL,GM,qJ⟩:=PR.storeT (fun h=>h HG.o.2.2.2.1) (by have:=PQ.o.1;omega) (x:=n) (by omega) zaR HF.o.2 (l':=iE n (.mk uv n' a') k.ts) (fun y=>zT hg y);have r0:=aa pU g0;have r1:=aa EC r0;have r2:=aa nq e1;have r3:=aa EC r2;have r4:=aa nq f0;have r5:=aa EC r4;have r6:=aa nq f1;have r7:=aa EC r6;have r8:=aa nq f2;have r9:=aa EC r8;have HE:=ab (show R=some (iE n (.mk uv n' a') k.ts) by rw[HR.o,aX (by simp[lp]),hg]);have Cd:=aC GL ((Kp.below ((H3.o.1.tr nq).tr EC)).trans GM);unfold TQ.val at cV;clear oX hl PR zaR GL GM qJ hg nq pU EC;go_region
  all_goals
   rw[<-eK];clear eK;go_wp2;go_region;go_wp2;go_ret;exact ⟨Cd.o.2,true,rfl,(fun h=>by rw[HE.o]at h;cases h),(fun ts fS=>⟨rfl,nT+1,by have:=PQ.o.2;omega,by rw[HE.o]at fS;cases fS;exact Cd.o.1⟩)⟩
 |obtain ⟨W5,eK⟩:=ao (w4.alloc (.cells #[.bool xv,.string xn,.slice xa xl xc] 43)).drew;have pU:Below w4.heap.size w4 W5:=by rw[eK];exact cQ.drew
  have nq:Below W3.heap.size W3 W5:=H4.o.tr pU;have x5:W5.heap[w4.heap.size]?=some (.cells #[.bool xv,.string xn,.slice xa xl xc] 43 (0,0)):=by rw[eK];exact aj rfl
  obtain ⟨r0,r1,r2⟩:=kB nq f0 f1 f2;obtain ⟨s0,s1,s2,_⟩:=fX x5;have CS:=uB u (.mk uv n' a') _ _ W5 ⟨xv,xn,xa,xl,xc⟩ ⟨uv,⟨n'.toArray⟩,ua,n2,uc⟩ (HG.o.2.1 _ hpu) (HG.o.2.1 _ HF.o.2) (hxv.later pU) (HT.o.2.1.later nq);simp only[TQ.val]at CS;have tE:=ab CS;have HE:=ab (show R=if vO u (.mk uv n' a') then some k.ts else none by rw[HR.o,aX (by simp[lp]),hg]);have SZ:=aC (oX.later pU) (H3.o.1.tr nq);obtain ⟨bb,cK⟩:=ao (vO u (.mk uv n' a'));rw[<-cK]at HE tE;clear oX hl hg nq pU x5 CS cK hxv hpu;go_region
  all_goals
   rw[<-eK];clear eK;go_wp2_with (go_at_call 162;refine tE.o.mono ?_;rintro e w6 ⟨rfl,cI⟩;have H6:=ab cI;clear cI);go_ret;refine ⟨Kp.below (SZ.o.2.tr H6.o),bb,rfl,(fun h=>?_),(fun ts fS=>?_)⟩
   ·rw[HE.o]at h;cases bb;rfl;cases h
   ·rw[HE.o]at fS;cases bb;cases fS;cases fS;exact ⟨rfl,nT,by omega,SZ.o.1.later H6.o⟩):G:=h
theorem pm235(h:G:=by
 obtain ⟨a,cap,hv,hc,h⟩:=h;refine ⟨a,cap,hv,hc,?_⟩
 first
 |clear pp235a;rcases h with h | ⟨b,off,ha,hok,h⟩
  ·exact .inl h
  ·by_cases h0:l=[]
   ·exact .inl h0
   ·have hk:=hb b hok (World.block_lt_of_cell? W _ (h 0 (ie.2 h0)));exact .inr ⟨b,off,ha,hk.1,fun j hj=>de hk.2 (h j hj)⟩
 |clear pp235b;rcases h with h | ⟨b,off,ha,_,h⟩
  ·exact .inl h
  ·exact .inr ⟨b,off,ha,h⟩
 |clear pp235c;rcases h with ⟨h,_⟩ | ⟨b,off,ha,h⟩
  ·exact .inl h
  ·exact .inr ⟨b,off,ha,trivial,h⟩
 |clear pp235d;rcases h with h | ⟨b,off,ha,h⟩
  ·exact .inl h
  ·subst ha;exact .inr ⟨b,off,rfl,fun j hj=>hk.cell (hf b (by rw[hv];rfl)) (h j hj)⟩
 |rcases h with h | ⟨b,off,ha,h⟩
  ·exact .inl h
  ·exact .inr ⟨b,off,ha,fun j hj=>aa hb (h j hj)⟩):G:=h
theorem pm236(h:G:=by
 have bj:0<k0:=by rw[cg];exact ie.2 h0
 rw[<-cg]at cf ⊢;obtain ⟨dJ,ea,HCp⟩:=cD cg hv hcp;have ej:((k0:Int) == 0)=false:=by simp;omega
 first
 |clear pp236;have wV:∀ W:World,(Instr.makeSlice 33 (.int .i64 0) (.int .i64 (k0:Int))).run Tryz.prog W=.ok (.slice (some ⟨W.heap.size,0,none⟩) 0 k0) (W.alloc (.cells (madeCells (Value.cells (.agg #[.bool false,.string ByteArray.empty,.slice none 0 0])) (k0 * 3)) 43)):=fun W=>by
   have h:=run_makeSlice (P:=Tryz.prog) W 33 43 i0 (.agg #[.bool false,.string ByteArray.empty,.slice none 0 0]) Tryz.underlying33 hi pF .i64 .i64 0 (k0:Int) (by omega) (by omega) (by rw[iq];simp;omega) (by rw[gV];omega) (by omega);simp only[Int.toNat_zero,Int.toNat_natCast,iq]at h;exact h
  have GE:RowT w.heap.size (.slice (some ⟨w.heap.size,0,none⟩) 0 k0) (l.take 0) (w.alloc (.cells (madeCells (Value.cells (.agg #[.bool false,.string ByteArray.empty,.slice none 0 0])) (k0 * 3)) 43)):=RowT.made _ _ (aF _) (by unfold maxLen;omega) (by rw[size_madeCells]);have Pw:=ab GE;clear hv hcp cg aA GE h0;go_enter Tryz.func106,Tryz.ntmps106;go_wp2;go_loopw [5,16] (fun r i wr=>∃k:Nat,k<=k0/\i=.int .i64 k/\RowT w.heap.size r (l.take k) wr/\Below w.heap.size w wr) (fun _ i _=>k0 - (intOf i).toNat)
  case atStart=>exact ⟨0,bc _,rfl,Pw.o,cQ⟩
  case round=>
   obtain ⟨k,hk,rfl,hR,ar⟩:=hrel;obtain ⟨ra,rc,rfl⟩:=hR.slice
   by_cases hlt:k<k0
   ·have dG:=ct dJ.o hlt;have pp55b:=();exact pm55
   ·obtain rfl:k=k0:=by omega
    have pp232:=();exact pm232
 |have wV:∀ W:World,(Instr.makeSlice 34 (.int .i64 0) (.int .i64 (k0:Int))).run Tryz.prog W=.ok (.slice (some ⟨W.heap.size,0,none⟩) 0 k0) (W.alloc (.cells (madeCells (Value.cells (.agg #[.int .u8 0,.string ByteArray.empty,.slice none 0 0,.slice none 0 0])) (k0 * 4)) 36)):=fun W=>by
   have h:=run_makeSlice (P:=Tryz.prog) W 34 36 i0 (.agg #[.int .u8 0,.string ByteArray.empty,.slice none 0 0,.slice none 0 0]) Tryz.underlying34 hi pF .i64 .i64 0 (k0:Int) (by omega) (by omega) (by rw[iq];simp;omega) (by rw[gV];omega) (by omega);simp only[Int.toNat_zero,Int.toNat_natCast,iq]at h;exact h
  have GE:RowF w.heap.size (.slice (some ⟨w.heap.size,0,none⟩) 0 k0) (l.take 0) (w.alloc (.cells (madeCells (Value.cells (.agg #[.int .u8 0,.string ByteArray.empty,.slice none 0 0,.slice none 0 0])) (k0 * 4)) 36)):=RowF.made _ _ (aF _) (by unfold maxLen;omega) (by rw[size_madeCells]);have Pw:=ab GE;clear hv hcp cg aA GE h0;go_enter Tryz.func108,Tryz.ntmps108;go_wp2;go_loopw [5,16] (fun r i wr=>∃k:Nat,k<=k0/\i=.int .i64 k/\RowF w.heap.size r (l.take k) wr/\Below w.heap.size w wr) (fun _ i _=>k0 - (intOf i).toNat)
  case atStart=>exact ⟨0,bc _,rfl,Pw.o,cQ⟩
  case round=>
   obtain ⟨k,hk,rfl,hR,ar⟩:=hrel;obtain ⟨ra,rc,rfl⟩:=hR.slice
   by_cases hlt:k<k0
   ·have dG:=ct dJ.o hlt;obtain ⟨b,off,u,rfl,_,hu,c0,c1,c2,c3⟩:=ea.o.get dG;obtain ⟨d0,d1,d2,d3⟩:=nb ar c0 c1 c2 c3;have cb:(l.take k).length=k:=by rw[dX];omega
    rw[cb]at hR ⊢;have HU:=ab ((hu.later ar).later (W':=wr.alloc (.cells #[.int .u8 u.o,.string u.n,.slice u.a u.l u.c,.slice u.b u.m u.e] 36)) cQ);obtain ⟨dy,HR,eh⟩:=cD ar hR cb;clear hu ar hR cb c0 c1 c2 c3;have CC:=ab (HCp.o l[k] (az dG) _ _ u HU.o);go_wp2_with fail;refine CC.o.mono ?_;rintro _ A ⟨p,rfl,hp,hA⟩;obtain ⟨qs,ew,au,gh⟩:=HR.o;rw[eh.o]at ew au;have cv:Below wr.heap.size wr A:=cQ.trans (hA.mono (by simp));have oG:=cv.size;have Px:=dy.o.size;have HO:=ab (bh au (fun b _ hlt=>cv.block b hlt));have HH:=bE ew au gh;have SK:=aC hp cv;clear ew au gh hp hA cv;have pP:(A.alloc (.cells #[.int .u8 p.o,.string p.n,.slice p.a p.l p.c,.slice p.b p.m p.e] 36)).heap.size=A.heap.size+1:=by simp
    unfold FQ.val;go_wp2_with (at_builtin;refine wpList_append_lies _ rfl _ _ 34 rfl w.heap.size 36 i0 (.agg #[.int .u8 0,.string ByteArray.empty,.slice none 0 0,.slice none 0 0]) 4 72 Tryz.underlying34 hi pF iq gV rfl (by decide) _ _ _ rfl (HO.o.alloc _) ⟨A.heap.size,0,none⟩ 1 1 p.cells rfl rfl (dj (cs:=#[.int .u8 p.o,.string p.n,.slice p.a p.l p.c,.slice p.b p.m p.e]) (t:=36) (fr:=(0,0)) (fO _ _)) (by simp[FQ.cells,Value.oneCell']) (by decide) (by unfold maxLen;omega) (by omega) (by simp;omega) (A.heap.size+1) pP ?_;intro g eG w4 aR ap hg ev;have HG:=bE aR ap hg;clear aR ap hg ev pP);go_roundw
    case rel=>
     exact pm248
    case measure=>simp[intOf];omega
   ·obtain rfl:k=k0:=by omega
    exact pm232):G:=h
theorem pm237(h:G:=by
 have cb:((a.map aM).take k).length=k:=by rw[dX];have:=dJ.o;simp;omega
 have j4:(a.map aM).take k=(a.map aM):=ii (by have:=dJ.o;simp;omega)
 first
 |clear pp237;have pp15f:=();exact pm15
 |exact pm15):G:=h
theorem pm238(h:G:=by
 go_enter Tryz.func17,Tryz.ntmps17
 first
 |clear pp238;go_wp2_with (go_at_call 19;refine (CT.o _ HB.o).mono ?_;rintro e w1 ⟨rfl,hb1⟩;have dO:=ab hb1;clear hb1);go_ret;exact ⟨rfl,HB.o.trans (dO.o.mono HB.o.size)⟩
 |go_wp2;go_ret;exact ⟨rfl,HB.o⟩):G:=h
theorem pm239(h:G:=by
 subst rX;rw[List.getElem_append_right (by omega),List.getElem_append_right (by omega)];simp only[hk,Nat.sub_self,List.getElem_cons_zero]
 first
 |clear pp239;refine ⟨trivial,hq.move (fun b hok hlt=>⟨⟨by omega,fun e=>?_⟩,hold b (by omega) hlt (fun e=>by have:=hv b e;omega)⟩)⟩
  injection e with e;obtain rfl:g=b:=e;rcases hg with hg | hg
  ·have:=hv g hg;omega
  ·omega
 |refine hq.move (fun b hok hlt=>⟨⟨by omega,fun e=>?_⟩,hold b (by omega) hlt (fun e=>by have:=hv b e;omega)⟩)
  injection e with e;obtain rfl:g=b:=e;rcases hg with hg | hg
  ·have:=hv g hg;omega
  ·omega):G:=h
theorem pm240(h:G:=by
 clear CT Zt yo fZ dK Zs hc;go_wp2_with (go_at_call 128;refine Gz.o.mono ?_;rintro e w8 ⟨rfl,rfl⟩)
 first
 |clear pp240;obtain ⟨W8,lQ,x8,k8,g0,g1,g2⟩:=ui FI.o.1 (.bool false) (.string ⟨#[]⟩) (.slice none 0 0);rw[<-lQ];refine bI (v:=.tuple #[TQ.val ⟨false,⟨#[]⟩,none,0,0⟩,.bool false]) (by simp[TQ.val,results,Tryz.results98,go_sem,g0,g1,g2]) rfl ⟨⟨⟨false,⟨#[]⟩,none,0,0⟩,by rw[HE.o];rfl,fun u hu=>by rw[HE.o]at hu;cases hu⟩,Below.kp1 FI.o.2 k8 (by omega)⟩
 |go_roundw
  case rel=>exact ⟨j3+1,by omega,by go_num,by simp,zF.o⟩
  case measure=>simp[intOf];omega):G:=h
theorem pm241(h:G:=by
 have HB:=ab ar;clear CB ar fZ hq c0 hok;go_wp2_with (go_at_fn g;refine HC.o.mono ?_;rintro e w4 ⟨rfl,aP⟩;have H4:=ab aP;clear aP)
 first
 |clear pp241;go_ret;exact ⟨.inr ⟨k,_,HE.o.2.2,rfl,HE.o.1,HE.o.2.1⟩,HB.o.tr H4.o⟩
 |go_roundw
  case rel=>exact ⟨k+1,by omega,by go_num,HB.o.tr H4.o,zF.o⟩
  case measure=>simp[intOf];omega):G:=h
theorem pm242(h:G:=by
 have hB:Below wr.heap.size wr (wr.alloc (.cells #[.int .u8 u.o,.string u.n,.slice u.a u.l u.c,.slice u.b u.m u.e] 36)):=cQ
 first
 |clear pp242;have e1:(wr.alloc (.cells #[.int .u8 u.o,.string u.n,.slice u.a u.l u.c,.slice u.b u.m u.e] 36)).cell? ⟨W.heap.size+1,0,none⟩=some (.map (some mb)):=aa hB (ah b1 0);have e2:(wr.alloc (.cells #[.int .u8 u.o,.string u.n,.slice u.a u.l u.c,.slice u.b u.m u.e] 36)).cell? ⟨W.heap.size+2,0,none⟩=some (.func (.yield l) #[] #[]):=aa hB (ah b2 0);have tO:(pre ++ (A ++ bH bs' (ss.take k)) ++ a_ bs' ss[k]) <+: xs:=by
   have h1:bH bs' ss=bH bs' (ss.take (k+1)) ++ bH bs' (ss.drop (k+1)):=by
    conv=>lhs;rw[<-List.take_append_drop (k+1) ss]
    exact nn _ _ _
   have h2:=nS.o;rw[h1,jb]at h2;obtain ⟨r,rfl⟩:=h2;exact ⟨bH bs' (ss.drop (k+1)) ++ r,by simp⟩
  have hNn:=vF.o;have CC:=fd.o ss[k] (az br) M B l J xs (pre ++ (A ++ bH bs' (ss.take k))) W0 _ u mb n' bs' Bl.o Wy.o HJ.o HY.o hu (bj.trans (Kp.below hB)) (hbd.same (hB.block mb hbd.lt)) (by omega) (by omega) tO (HJ.o _ _ _ ((Nw.below hB)) hj);unfold FQ.val at CC;have HC:=ab CC;have HS:=bE jb Es Dc;have kD:=ab (ej.trans (Kp.below hB));clear hu hB tO CC jb Es lG Dc hbd bj ej hj c0 c1 c2 c3 b0 b1 b2 hNn;go_wp2_with (go_at_call 149;refine HC.o.mono ?_;rintro e w3 ⟨rfl,pZ,iV,aJ,Pv⟩;have HH:=cC pZ iV aJ Pv;clear pZ iV aJ Pv);go_roundw
  case rel=>
   obtain ⟨n'',zcB,Wz⟩:=HH.o.2.2.1;exact ⟨k+1,by omega,by go_num,by rw[HS.o.1,<-List.append_assoc A];simpa using HH.o.1,HH.o.2.1,⟨n'',by have:=HS.o.2.1;have:=HS.o.2.2;omega,Wz⟩,kD.o.trans HH.o.2.2.2⟩
  case measure=>simp[intOf];omega
 |have wQ:=bj.size;have BD:∀ b,M b->b<(wr.alloc (.cells #[.int .u8 u.o,.string u.n,.slice u.a u.l u.c,.slice u.b u.m u.e] 36)).heap.size:=fun b hb=>by have:=Bl.o b hb;simp;omega
  have tO:(pre ++ ([f] ++ dM (s.take k)) ++ kE s[k]) <+: xs:=by
   have h1:dM s=dM (s.take (k+1)) ++ dM (s.drop (k+1)):=by
    conv=>lhs;rw[<-List.take_append_drop (k+1) s]
    exact qA _ _
   have h2:=nS.o;rw[h1,jb]at h2;obtain ⟨r,rfl⟩:=h2;exact ⟨dM (s.drop (k+1)) ++ r,by simp⟩
  have CC:=fd.o s[k] (az br) M B l J xs (pre ++ ([f] ++ dM (s.take k))) _ u BD (fun t=>(HJ.o t).mono (by simp;omega)) (HY.o.later (bj.trans (Kp.below hB))) (hu.kp (bj.trans (Kp.below hB))) tO (HJ.o _ _ _ (Nw.below hB) hj);obtain ⟨HC,HS⟩:=aZ CC jb;have kD:=ab (bj.trans (Kp.below hB));clear hu hB BD tO CC jb bj hj c0 c1 c2 c3;gi_wp2_with (gi_at_call 151;refine aL.2 (HC.o.mono ?_);rintro e w3 ⟨rfl,pZ,iV⟩;have HH:=aC pZ iV;clear pZ iV);go_roundw
  case rel=>exact ⟨k+1,by omega,by go_num,by rw[HS.o];simpa using HH.o.1,kD.o.trans HH.o.2⟩
  case measure=>simp[intOf];omega):G:=h
theorem pm243(h:G:=by
 have CP:=ab (fun w:World=>hp ▸ oD s[k].toNat w);clear hp;go_wp2;go_quiet ((go_at_call 189;exact fC (CP.o _)))
 first
 |clear pp243;go_wp2;go_ret;exact ⟨aK (sB (sA s k ej hlt _ HP.o)).symm,C5 HW.o _⟩
 |exact pm216):G:=h
theorem pm244(h:G:=by
 have CP:=ab (fun w:World=>hp ▸ yV s[k].toNat w);clear hp;go_wp2;go_quiet ((go_at_call 217;exact fC (CP.o _)))
 first
 |clear pp244;go_wp2;go_ret;exact ⟨aK (sB (sA s k ej hlt _ HP.o)).symm,C5 HW.o _⟩
 |exact pm216):G:=h
theorem pm245(h:G:=by
 obtain ⟨bb,off,⟨a0,a1,a2,a3,a4,a5,a6,a7⟩,⟨b0,b1,b2,b3,b4,b5,b6,b7⟩,rfl,hok,hs,hf,c0,c1,c2,c3,c4,c5,c6,c7⟩:=HV.o.1.get lC
 first
 |clear pp245;obtain ⟨d0,d1,d2,d3,d4,d5,d6,d7⟩:=I5 nl c0 c1 c2 c3 c4 c5 c6 c7;simp only at d0 d1 d2 d3 d4 d5 d6 d7;have cV:=E1 lC;have ky:=HV.o.2.2.2.2 _ (az lC);obtain ⟨⟨s,f⟩,Hn⟩:∃x,x=l[j]:=⟨_,rfl⟩;rw[<-Hn]at cV ky hs hf;simp only at cV ky hs hf;obtain ⟨W5,eK⟩:=ao (wr.alloc (.cells #[.int .u8 a0,.string a1,.slice a2 a3 a4,.slice a5 a6 a7,.int .u8 b0,.string b1,.slice b2 b3 b4,.slice b5 b6 b7] 50));have bi:=cX eK;have x5:=bX eK;have DZ:(j:Int)<(n1:Int):=by omega
  have CS:=tf W0 s ky.1 _ W5 ((HV.o.2.2.1.next nl).next bi) ⟨a0,a1,a2,a3,a4,a5,a6,a7⟩ ((hs.move (dr nl)).later bi);have CR:=fun (V:World) (h:Below W5.heap.size W5 V)=>wE W0 f ky.2 _ V (((HV.o.2.2.1.next nl).next bi).next h) ⟨b0,b1,b2,b3,b4,b5,b6,b7⟩ (((hf.move (dr nl)).later bi).later h);simp only[FQ.val]at CS CR;obtain ⟨gs,Qx⟩:=ao (schemaF s);obtain ⟨gr,Tt⟩:=ao (dn f);rw[<-Qx]at CS;rw[<-Tt]at CR;rw[<-Qx,<-Tt]at cV;obtain ⟨tE,HCR,p_⟩:=cD CS CR eK;have H5:=bE (nl.tr bi) bi x5;have dy:=ab ar;have Ow:=((H3.o.2.1 ▸ (ar.block _ (bn H3.o.2.1))):wr.heap[w.heap.size+1]?=_);have jI:=ab (bT bi Ow);clear CS CR eK bi x5 nl ar hs hf ky Hn Qx Tt hok c0 c1 c2 c3 c4 c5 c6 c7 Ow lC
  cases gs with
  | false=>
   have HE:=ab (show R=(⟨[],[]⟩,j,2) by rw[HR.o];exact uO LU.o.symm (by rw[gt,cV];rfl));clear gt cV;gi_wp2_with (rw[<-p_.o];gi_at_call 26;refine aL.2 (tE.o.mono ?_);rintro e w6 ⟨rfl,cI⟩;have Sc:=bT cI jI.o;obtain ⟨y0,y1,z0,z1⟩:=tb Sc;have H6:=aC cI Sc;clear cI Sc);obtain ⟨W8,lQ,x8,k8,g0,g1⟩:=Cm H6.o.2 (.slice none 0 0) (.slice none 0 0);rw[<-lQ,Exit.noGoto_ret];have tg:Below w.heap.size w W8:=Below.kp1 (H5.o.1.tr H6.o.1) k8 (by omega);exact pm101
  | true=>
   cases gr with
   | false=>
    have HE:=ab (show R=(⟨[],[]⟩,j,2) by rw[HR.o];exact uO LU.o.symm (by rw[gt,cV];rfl));clear gt cV;gi_wp2_with (first | (rw[<-p_.o];gi_at_call 26;refine aL.2 (tE.o.mono ?_);rintro e w6 ⟨rfl,cI⟩;have Qy:=bT cI H5.o.2.2;have i4:=ah Qy 4;have i5:=ah Qy 5;have i6:=ah Qy 6;have i7:=ah Qy 7;have H6:=ab cI;clear cI Qy) | (gi_at_call 39;refine aL.2 ((HCR.o _ H6.o).mono ?_);rintro e w7 ⟨rfl,fD⟩;have XP:=bT (H6.o.tr fD) jI.o;obtain ⟨y0,y1,z0,z1⟩:=tb XP;have H7:=aC (H6.o.tr fD) XP;clear fD XP));obtain ⟨W8,lQ,x8,k8,g0,g1⟩:=Cm H7.o.2 (.slice none 0 0) (.slice none 0 0);rw[<-lQ,Exit.noGoto_ret];have tg:Below w.heap.size w W8:=Below.kp1 (H5.o.1.tr H7.o.1) k8 (by omega);exact pm101
   | true=>
    have HG:=ab (show e8 0 l=e8 (j+1) (l.drop (j+1)) by rw[gt,cV];rfl);clear gt cV;gi_wp2_with (first | (rw[<-p_.o];gi_at_call 26;refine aL.2 (tE.o.mono ?_);rintro e w6 ⟨rfl,cI⟩;have Qy:=bT cI H5.o.2.2;have i4:=ah Qy 4;have i5:=ah Qy 5;have i6:=ah Qy 6;have i7:=ah Qy 7;have H6:=ab cI;clear cI Qy) | (gi_at_call 39;refine aL.2 ((HCR.o _ H6.o).mono ?_);rintro e w7 ⟨rfl,fD⟩;have H7:=ab (H6.o.tr fD);clear fD));go_roundw
    case rel=>exact ⟨j+1,by omega,by go_num,(dy.o.tr H5.o.2.1).tr H7.o,HG.o⟩
    case measure=>simp[intOf];omega
 |obtain ⟨d0,d1,d2,d3,d4,d5,d6,d7⟩:=I5 ob c0 c1 c2 c3 c4 c5 c6 c7;simp only at d0 d1 d2 d3 d4 d5 d6 d7;have cV:=Au (step:=d_) (k:=kj) lC;have pp52:=();exact pm52):G:=h
theorem pm246(h:G:=by
 obtain ⟨qs,hk,ho,ht⟩:=h;rcases eM ho with ⟨rfl,h0⟩ | ⟨g,cap,rfl,hg,_⟩
 first
 |clear pp246a
  ·obtain rfl:=jj h0;exact b_
  ·refine ⟨_,cap,fun j=>if h:j<qs.length then qs[j].val else .bool false,rfl,.inr ⟨g,0,rfl,hg,fun j hj=>?_⟩,fun j hj=>?_⟩
   ·have pD:j<qs.length:=by omega
    simp only[dif_pos pD,Nat.zero_add];exact F0 ho j pD
   ·have pD:j<qs.length:=by omega
    simp only[dif_pos pD];exact (ht j pD hj).move (fun b hok _=>⟨hok.1,rfl⟩)
 |clear pp246b
  ·obtain rfl:=jj h0;exact fB
  ·refine ⟨_,cap,fun j=>if h:j<qs.length then qs[j].val else .bool false,rfl,.inr ⟨g,0,rfl,hg,fun j hj=>?_⟩,fun j hj=>?_⟩
   ·have pD:j<qs.length:=by omega
    simp only[dif_pos pD,Nat.zero_add];exact wT ho j pD
   ·have pD:j<qs.length:=by omega
    simp only[dif_pos pD];exact (ht j pD hj).move (fun b hok _=>⟨hok.1,rfl⟩)
 |·obtain rfl:=jj h0;exact fB
  ·refine ⟨_,cap,fun j=>if h:j<qs.length then qs[j].val else .bool false,rfl,.inr ⟨g,0,rfl,trivial,fun j hj=>?_⟩,fun j hj=>?_⟩
   ·have pD:j<qs.length:=by omega
    simp only[dif_pos pD,Nat.zero_add];exact wT ho j pD
   ·have pD:j<qs.length:=by omega
    simp only[dif_pos pD];exact (ht j pD hj).move (fun b _ _=>⟨trivial,rfl⟩)):G:=h
theorem pm247(h:G:=by
 obtain ⟨b,off,u,rfl,_,hu,c0,c1,c2⟩:=HL.o.get br;obtain ⟨b',nh,u',rfl,_,iA,mI,nU,nV⟩:=HM.o.get nk;have hf:=HF.o.mem (az br)
 first
 |clear pp247;have I4:=eW.o.mem (az nk);have qB:=fd.o l[k] (az br);rw[M5 br nk]at ht;obtain ⟨e,he⟩:=ao (uA l[k] m[k]);have f0:=fun x:Later wr=>x.get (aa ar c0);have f1:=fun x:Later wr=>x.get (aa ar c1);have f2:=fun x:Later wr=>x.get (aa ar c2);have f3:=fun x:Later wr=>x.get (aa ar mI);have f4:=fun x:Later wr=>x.get (aa ar nU);have f5:=fun x:Later wr=>x.get (aa ar nV);have CC:=ab (fun (x:Later wr)=>pK l[k] qB m[k] ok ok' x.w u u' hf I4 ((hu.later ar).later x.below) ((iA.later ar).later x.below));unfold TQ.val at CC;rw[<-he]at ht CC;obtain ⟨HB,HT⟩:=aZ ar ht;clear hu iA qB hf I4 ar ht c0 c1 c2 mI nU nV he;go_wp2;refine aS (by kernel_rfl) (by kernel_rfl) ?_
  repeat (go_big_quiet_step ((go_at_call 226;exact cw (CC.o _))))
  refine wpQuiet_nil ?_;rintro _ ⟨x',rfl⟩;clear f0 f1 f2 f3 f4 f5;have cJ:=ab (HB.o.trans (x'.below.mono HB.o.size))
  by_cases h0:e=0
  ·subst h0;go_wp2;go_roundw
   case rel=>exact ⟨k+1,by omega,by go_num,cJ.o,by simpa using HT.o⟩
   case measure=>simp[intOf];omega
  ·have d1:(e == 0)=false:=by simpa using h0
   have d2:(e != 0)=true:=by simpa using h0
   have HE:=ab (show R=e by have:=HT.o;simpa[h0] using this);clear h0;go_wp2;go_ret;exact ⟨rn HE.o.symm,cJ.o⟩
 |have qB:=fd.o l[k] (az br);obtain ⟨⟨xv,xn,xa⟩,hx⟩:∃x,l[k]=x:=⟨_,rfl⟩;obtain ⟨⟨yv,yn,ya⟩,hy⟩:∃x,m[k]=x:=⟨_,rfl⟩;rw[hx]at hu hf qB;rw[hy]at iA;obtain ⟨s1,h1,fL⟩:=aV.1 hu;obtain ⟨s2,h2,Jv⟩:=aV.1 iA;obtain ⟨uv,un,ua,ul,uc⟩:=u;obtain ⟨vv,vn,va,vl,vc⟩:=u';exact pm76):G:=h
theorem pm248(h:G:=by
 obtain ⟨ew,au,gh⟩:=HH.o;obtain ⟨hp,cv⟩:=SK.o;obtain ⟨aR,ap,hg⟩:=HG.o;have wh:=ap.size;simp only[World.size_alloc]at wh
 first
 |clear pp248;have h4:=RowT.step (lo:=w.heap.size) (v:=.slice ra k rc) (ts:=l.take k) (t:=l[k]) (W:=wr) (W1:=A) (w4:=w4) (q:=p) (g:=g) (cap:=eG) (by rw[eh.o];exact ew) cv Px (fun j h1 h2=>gh j h1 h2) (fun b hb=>(au.lt b hb).2) (hp.move (fun b hok _=>⟨aQ (by simp) hok,rfl⟩)) (by rw[eh.o];exact aR)
   (fun c _ hc hn=>(ap.block c (by simp;omega) (fun e=>hn e.symm)).trans (bK _ _ _ (by omega))) (by rcases hg with h | h;exact .inl h;exact .inr (by omega))
  exact pm179
 |have h4:=RowF.step (lo:=w.heap.size) (v:=.slice ra k rc) (ts:=l.take k) (t:=l[k]) (W:=wr) (W1:=A) (w4:=w4) (q:=p) (g:=g) (cap:=eG) (by rw[eh.o];exact ew) cv Px (fun j h1 h2=>gh j h1 h2) (fun b hb=>(au.lt b hb).2) (hp.move (fun b hok _=>⟨aQ (by simp) hok,rfl⟩)) (by rw[eh.o];exact aR)
   (fun c _ hc hn=>(ap.block c (by simp;omega) (fun e=>hn e.symm)).trans (bK _ _ _ (by omega))) (by rcases hg with h | h;exact .inl h;exact .inr (by omega))
  exact pm179):G:=h
theorem pm249(h:G:=by
 obtain ⟨a',cap,hv,_,h⟩:=h;injection hv with hv _ _;subst hv
 first
 |clear pp249a;rcases h with rfl | ⟨b,off,ha,hc⟩
  ·simp at hj
  ·exact ⟨b,off,ha,hc⟩
 |clear pp249b;rcases h with rfl | ⟨b,off,ha,hok,hc⟩
  ·simp at hj
  ·exact ⟨b,off,ha,hok,hc j hj⟩
 |clear pp249c;rcases h with rfl | ⟨b,off,ha,hc⟩
  ·exact absurd rfl hl
  ·exact ⟨b,off,ha,hc⟩
 |rcases h with ⟨rfl,_⟩ | ⟨b,off,ha,hc⟩
  ·simp at hj
  ·exact ⟨b,off,ha,(hc j hj).1,(hc j hj).2⟩):G:=h
theorem pm250(h:G:=by
 rintro D c pre X _ hD dt ⟨rfl,k',er,h2,h3,h4,h5,h6⟩ hd;obtain ⟨rs,hrs⟩:=dt;have XW:=qX pre rs kj k' er h2 h3;rw[hrs]at XW
 first
 |clear pp250;have iF:jV d_ 0 k l=(k',j,er):=by rw[U7.o,XW,aD h2]
  have HE:=ab (show R=(⟨[],[]⟩,j,er) by rw[zD.o,<-BO.o.1 (by simp),iF];exact aX h2);exact pm84
 |have iF:jV kP 0 k l=(k',j,er):=by rw[U7.o,XW,aD h2]
  have HE:=ab (show R=(⟨[],[]⟩,j,er) by rw[zD.o,BO.o.2.1 (by simp)];simp only[ne_eq,not_true_eq_false,↓reduceIte];rw[iF];exact aX h2);exact pm84):G:=h
theorem pm251(h:G:=by
 obtain ⟨⟨a,cap,rfl,hc,h⟩,hM⟩:=h;refine ⟨⟨a,cap,rfl,hc,?_⟩,hM⟩;rcases h with h | ⟨b,off,rfl,h⟩
 ·exact .inl h
 first
 |clear pp251
  ·exact .inr ⟨b,off,rfl,fun j hj=>⟨hk.cell (hM b rfl) (h j hj).1,hk.cell (hM b rfl) (h j hj).2⟩⟩
 |·exact .inr ⟨b,off,rfl,fun j hj=>⟨hb.cell hl (h j hj).1,hb.cell hl (h j hj).2⟩⟩):G:=h
theorem pm252(h:G:=by
 go_wp2_with (go_at_call 119;refine (C1.o _).mono ?_;rintro e w' ⟨rfl,hb⟩);go_ret;exact ⟨by simp,hb⟩):G:=h
theorem pm253(h:G:=by
 have b0:=(ej.same W.heap.size pR.o.1 pR.o.2.1).trans MA.o;have b1:=(ej.same (W.heap.size+1) pR.o.2.2.1 pR.o.2.2.2.1).trans jI.o
 first
 |clear pp253;have b2:=(ej.same (W.heap.size+2) pR.o.2.2.2.2.1 pR.o.2.2.2.2.2).trans HX2.o
  by_cases hlt:k<m0
  ·have br:=ct ib.o hlt;obtain ⟨b,off,u,rfl,ja,hu,c0,c1,c2,c3⟩:=Uy.o.get br;exact pm280
  first
  |clear pp11
   ·obtain rfl:m0=k:=by omega
    have ht:ss.take m0=ss:=by rw[ib.o];exact cO
    rw[ht]at hj Dc;have FC:=ab Dc;have HH:=cC hj bj hbd ej;clear hj bj hbd ej ht b0 b1 b2 Dc;go_wp2;simp only[bodyPostD];refine ⟨.bool true,by simp[results,Tryz.results149,go_sem],rfl,HH.o.1,HH.o.2.1,⟨n',by have:=FC.o;have:=vF.o;omega,by have h:=HH.o.2.2.1;rw[lw.o]at h;exact h⟩,(Kp.below dO.o).trans HH.o.2.2.2⟩
  |·obtain rfl:m0=k:=by omega
    have ht:ss.take m0=ss:=by rw[ib.o];exact cO
    rw[ht]at hj Dc;have FC:=ab Dc;have HH:=cC hj bj hbd ej;have f1:wr.cell? ⟨W.heap.size+1,0,none⟩=some (.map (some mb)):=ah b1 0;have f0:wr.cell? ⟨W.heap.size,1,none⟩=some (.string ⟨nm.toArray⟩):=ah b0 1;have CD:=SJ mb n' W.heap.size bs nm Jc.o (by have:=FC.o;have:=vF.o;omega) (by have:=vF.o;omega) .returning wr f1 f0 (lw.o ▸ hbd);have HCD:=ab CD;clear hj bj hbd ej ht b0 b1 b2 Dc CD f0 f1;go_wp2;refine leaves_cons (f:=215) (args:=#[.pointer (some ⟨W.heap.size+1,0,none⟩),.pointer (some ⟨W.heap.size,0,none⟩)]) (by simp) (by simp[go_sem]) ?_;refine HCD.o.mono ?_;rintro e u' w5 ⟨rfl,rfl,bi,hg5,Dl,hn5⟩;have hmS:=HMS.o;refine ⟨.bool true,by simp[results,Tryz.results149,go_sem],rfl,HJ.o _ _ _ (hn5 _ Wy.o) HH.o.1,Pu HH.o.2.1 (hn5 _ Wy.o) (aF _),⟨n'+1,by have:=FC.o;have:=vF.o;omega,bi⟩,((Kp.below dO.o).trans HH.o.2.2.2).trans ⟨hg5.os,hg5.tape,hg5.output,Nat.le_of_eq Dl.symm,fun b hb hm=>hg5.block b hb (fun h=>hm (.inr (by cases h;rfl)))⟩⟩
 |have x0:wr.cell? ⟨W.heap.size,0,none⟩=some (.int .u8 uo):=ah b0 0;have x1:wr.cell? ⟨W.heap.size,1,none⟩=some (.string ⟨nm.toArray⟩):=ah b0 1;have x2:wr.cell? ⟨W.heap.size,2,none⟩=some (.slice ua k0 uc):=ah b0 2;have x3:wr.cell? ⟨W.heap.size,3,none⟩=some (.slice ub m0 ue):=ah b0 3;have x4:wr.cell? ⟨W.heap.size+1,0,none⟩=some (.map (some mb)):=ah b1 0
  cases p9:bD uo with
  | false=>
   have lw:Hd (bs'=bs):=ab (by rw[lw.o,p9];rfl);have pp274:=();exact pm274
  | true=>
   have lw:Hd (bs'=nm :: bs):=ab (by rw[lw.o,p9];rfl);exact pm274):G:=h
theorem pm254(h:G:=by
 have pN:W2.heap.size=w.heap.size+1+1:=by omega
 have HZ3:=ab pN;rw[pN]at C2;obtain ⟨BK,cJ,gF,SA⟩:=eR C2 bF bl nC;rw[bl]at BK
 first
 |clear pp254;clear C2 bF bl nC oL hq aA gV pN;obtain ⟨qv,qn,qa,ql,qc⟩:=q;unfold TQ.val;go_enter Tryz.func166,Tryz.ntmps166;go_wp2_with (go_at_call 220;refine (BG ⟨qv,qn,qa,ql,qc⟩ _).mono ?_;rintro e w2 ⟨rfl,rfl⟩);exact pm61
 |clear C2 bF bl nC oL hq aA gV pN JL;obtain ⟨qo,qn,qa,ql,qc,qb,qm,qe⟩:=q;unfold FQ.val;go_enter Tryz.func40,Tryz.ntmps40;go_wp2_with (go_at_call 85;refine (B0 ⟨qo,qn,qa,ql,qc,qb,qm,qe⟩ _).mono ?_;rintro e w2 ⟨rfl,rfl⟩);exact pm61):G:=h
theorem pm255(h:G:=by
 obtain ⟨qs,hk,ho,ht⟩:=h;exact ⟨qs,hk,bh ho hb,fun j h1 h2=>(ht j h1 h2).move (fun b hok hlt=>⟨hok,hb b hok.1 hlt⟩)⟩):G:=h
theorem pm256(h:G:=by
 refine mM Tryz.func69 ?_;simp only[Tryz.ntmps69,Nat.reduceAdd,Nat.reduceSub,li]
 first
 |clear pp256;have jH:=eU
  first
  |clear pp13;gi_wp2_with (gi_at_call 123;refine aL.2 ((CP.o _).mono ?_);rintro e w3 ⟨rfl,aJ⟩;obtain ⟨b1,b2,b3,b0⟩:=OQ HY.o aJ;have p1:w3.cell? ⟨w.heap.size,1,none⟩=some (.string ⟨n.toArray⟩):=ah b0 1;have p2:w3.cell? ⟨w.heap.size,2,none⟩=some (.slice qa k0 qc):=ah b0 2;have bM:=ab b1;have VZ:=ab b2;have Ea:=ab b3;clear aJ b1 b2 b3 b0);obtain ⟨W1,bR⟩:=ao w3;have iJ:Below w.heap.size w W1:=by rw[bR];exact bM.o
   have x1:W1.heap[w.heap.size+1]?=some (.cells #[.bool false,.string ⟨#[]⟩,.slice none 0 0] 43 (0,0)):=by rw[bR];exact VZ.o
   have x2:W1.heap[w.heap.size+1+1]?=some (.cells #[.bool true,.string ⟨n.toArray⟩,.slice none 0 0] 43 (0,0)):=by rw[bR];exact Ea.o
   rw[<-bR];clear bR;obtain ⟨dO,jI⟩:=aZ iJ x1;have vW:=ab (Fills.start (R:=w.heap.size+1+1) (mk:=fun rr=>#[.bool true,.string ⟨n.toArray⟩,rr]) (Row:=fun r W=>RowT W1.heap.size r ((a.map aM).take 0) W) x2 (RowT.nil _ _));clear iJ x1 x2;gi_loopw [25] (fun i wr=>∃k:Nat,k<=k0/\i=.int .i64 k/\∃row,Fills 43 (w.heap.size+1+1) W1.heap.size (fun rr=>#[.bool true,.string ⟨n.toArray⟩,rr]) (fun r W=>RowT W1.heap.size r ((a.map aM).take k) W) W1 wr row) (fun i _=>k0 - (intOf i).toNat)
   case atStart=>exact ⟨0,bc _,rfl,_,vW.o⟩
   case round=>
    have pp0b:=();exact pm0
  |gi_wp2_with (gi_at_call 123;refine aL.2 ((CP.o _).mono ?_);rintro e w3 ⟨rfl,aJ⟩;obtain ⟨b1,b2,b3,b0⟩:=OQ HY.o aJ;have p1:w3.cell? ⟨w.heap.size,1,none⟩=some (.string ⟨n.toArray⟩):=ah b0 1;have p2:w3.cell? ⟨w.heap.size,2,none⟩=some (.slice qa k0 qc):=ah b0 2;have bM:=ab b1;have VZ:=ab b2;have Ea:=ab b3;have e1:w3.cell? ⟨w.heap.size+1+1,1,none⟩=some (.string ⟨n.toArray⟩):=ah b3 1;have z1:w3.frozen? ⟨w.heap.size+1+1,1,none⟩=false:=ac b3 1;clear aJ b1 b2 b3 b0);obtain ⟨W1,bR⟩:=ao (w3.setCell ⟨w.heap.size+1+1,1,none⟩ (.string ⟨r.toArray⟩));have iJ:Below w.heap.size w W1:=by rw[bR];exact bM.o.setCell (by simp;omega) _
   have x1:W1.heap[w.heap.size+1]?=some (.cells #[.bool false,.string ⟨#[]⟩,.slice none 0 0] 43 (0,0)):=by rw[bR];exact (d9 _ _ _ _ (by simp)).trans VZ.o
   have x2:W1.heap[w.heap.size+1+1]?=some (.cells #[.bool true,.string ⟨r.toArray⟩,.slice none 0 0] 43 (0,0)):=by rw[bR];exact (bm Ea.o _).trans rfl
   rw[<-bR];clear bR;obtain ⟨dO,jI⟩:=aZ iJ x1;have vW:=ab (Fills.start (R:=w.heap.size+1+1) (mk:=fun rr=>#[.bool true,.string ⟨r.toArray⟩,rr]) (Row:=fun r W=>RowT W1.heap.size r ((a.map aM).take 0) W) x2 (RowT.nil _ _));clear iJ x1 x2;gi_loopw [25] (fun i wr=>∃k:Nat,k<=k0/\i=.int .i64 k/\∃row,Fills 43 (w.heap.size+1+1) W1.heap.size (fun rr=>#[.bool true,.string ⟨r.toArray⟩,rr]) (fun r W=>RowT W1.heap.size r ((a.map aM).take k) W) W1 wr row) (fun i _=>k0 - (intOf i).toNat)
   case atStart=>exact ⟨0,bc _,rfl,_,vW.o⟩
   case round=>
    exact pm0
 |have pp51a:=();exact pm51):G:=h
theorem pm257(h:G:=by
 have jb:=fj br;have hB:Below wr.heap.size wr (wr.alloc (.cells #[.bool u.v,.string u.n,.slice u.a u.l u.c] 43)):=cQ
 first
 |clear pp257;have wQ:=bj.size;have BD:∀ b,M b->b<(wr.alloc (.cells #[.bool u.v,.string u.n,.slice u.a u.l u.c] 43)).heap.size:=fun b hb=>by have:=Bl.o b hb;simp;omega
  first
  |clear pp27a;have tO:(pre ++ ([] ++ aw (a.take k)) ++ aN a[k]) <+: xs:=by
    exact pm66
   have CC:=fd.o a[k] (az br) M B l J xs (pre ++ ([] ++ aw (a.take k))) _ u BD (fun t=>(HJ.o t).mono (by simp;omega)) (HY.o.later (bj.trans (Kp.below hB))) (hu.kp (bj.trans (Kp.below hB))) tO (HJ.o _ _ _ (Nw.below hB) hj);unfold TQ.val at CC;obtain ⟨HC,HS⟩:=aZ CC jb;have kD:=ab (bj.trans (Kp.below hB));clear hu hB BD tO CC jb bj hj c0 c1 c2;gi_wp2_with (gi_at_call 214;refine aL.2 (HC.o.mono ?_);rintro e w3 ⟨rfl,pZ,iV⟩;have HH:=aC pZ iV;clear pZ iV);go_roundw
   case rel=>exact ⟨k+1,by omega,by go_num,by rw[HS.o];simpa using HH.o.1,kD.o.trans HH.o.2⟩
   case measure=>simp[intOf];omega
  |clear pp27b;have tO:(pre ++ ([n] ++ aw (a.take k)) ++ aN a[k]) <+: xs:=by
    exact pm66
   have CC:=fd.o a[k] (az br) M B l J xs (pre ++ ([n] ++ aw (a.take k))) _ u BD (fun t=>(HJ.o t).mono (by simp;omega)) (HY.o.later (bj.trans (Kp.below hB))) (hu.kp (bj.trans (Kp.below hB))) tO (HJ.o _ _ _ (Nw.below hB) hj);unfold TQ.val at CC;obtain ⟨HC,HS⟩:=aZ CC jb;have kD:=ab (bj.trans (Kp.below hB));clear hu hB BD tO CC jb bj hj c0 c1 c2;gi_wp2_with (gi_at_call 214;refine aL.2 (HC.o.mono ?_);rintro e w3 ⟨rfl,pZ,iV⟩;have HH:=aC pZ iV;clear pZ iV);go_roundw
   case rel=>exact ⟨k+1,by omega,by go_num,by rw[HS.o];simpa using HH.o.1,kD.o.trans HH.o.2⟩
   case measure=>simp[intOf];omega
  |clear pp27c;have tO:(pre ++ ([] ++ aw (a.take k)) ++ aN a[k]) <+: xs:=by
    exact pm66
   have CC:=fd.o a[k] (az br) M B J xs (pre ++ ([] ++ aw (a.take k))) _ u BD (fun t=>(HJ.o t).mono (by simp;omega)) HG.o (hu.kp (bj.trans (Kp.below hB))) tO (HJ.o _ _ _ ((Nw.below hB)) hj);unfold TQ.val at CC;obtain ⟨HC,HS⟩:=aZ CC jb;have kD:=ab (bj.trans (Kp.below hB));clear hu hB BD tO CC jb bj hj c0 c1 c2;go_wp2_with (go_at_call 214;refine HC.o.mono ?_;rintro e w3 ⟨rfl,pZ,iV⟩;have HH:=aC pZ iV;clear pZ iV);go_roundw
   case rel=>exact ⟨k+1,by omega,by go_num,by rw[HS.o];simpa using HH.o.1,kD.o.trans HH.o.2⟩
   case measure=>simp[intOf];omega
  |have tO:(pre ++ ([n] ++ aw (a.take k)) ++ aN a[k]) <+: xs:=by
    exact pm66
   have CC:=fd.o a[k] (az br) M B J xs (pre ++ ([n] ++ aw (a.take k))) _ u BD (fun t=>(HJ.o t).mono (by simp;omega)) HG.o (hu.kp (bj.trans (Kp.below hB))) tO (HJ.o _ _ _ ((Nw.below hB)) hj);unfold TQ.val at CC;obtain ⟨HC,HS⟩:=aZ CC jb;have kD:=ab (bj.trans (Kp.below hB));clear hu hB BD tO CC jb bj hj c0 c1 c2;go_wp2_with (go_at_call 214;refine HC.o.mono ?_;rintro e w3 ⟨rfl,pZ,iV⟩;have HH:=aC pZ iV;clear pZ iV);go_roundw
   case rel=>exact ⟨k+1,by omega,by go_num,by rw[HS.o];simpa using HH.o.1,kD.o.trans HH.o.2⟩
   case measure=>simp[intOf];omega
 |have wQ:=ej.size;have hmW:=HMW.o.1;have Pg:=HS1.o;have BD:∀ b,(M b\/b=mb)->b<(wr.alloc (.cells #[.bool u.v,.string u.n,.slice u.a u.l u.c] 43)).heap.size:=fun b hb=>by
   rcases hb with hb | hb
   ·have:=Bl.o b hb;have:=HMW.o.2;simp;omega
   ·simp;omega
  have tO:(aw (a.take k) ++ aN a[k]) <+: aw a:=by
   exact pm284
  have CC:=zL (W.heap.size+1) (W.heap.size+2) a[k] (HFT.o _ (az br)) (fun b=>M b\/b=mb) wr.heap.size (FrJ J pre M W0 mb n bs l W.heap.size) (aw a) (aw (a.take k)) _ u BD (fun t=>(HFA.o wr wQ t).mono (by simp)) HG.o
   ((hu.move (ok':=fun b=>b<wr.heap.size/\¬(M b\/b=mb)) (fun b hb hlt=>⟨⟨bN hlt hj.kp.size,fun h=>by rcases h with h | h;exact hb.2 h;have:=Wy.o;omega⟩,(Kp.trans hj.kp (Kp.below hB)).same b hlt hb.2⟩))) tO (HFA.o wr wQ _ _ _ (Nw.below hB) hj)
  unfold TQ.val frV at CC;obtain ⟨HC,HS⟩:=aZ CC jb;have kD:=ab (ej.trans (Kp.below hB));clear hu hB BD tO CC jb ej hj c0 c1 c2 hmW Pg wQ;go_wp2_with (go_at_call 214;refine HC.o.mono ?_;rintro e w3 ⟨rfl,pZ,iV⟩;have HH:=aC pZ iV;clear pZ iV);go_roundw
  case rel=>exact ⟨k+1,by omega,by go_num,by rw[HS.o];exact HH.o.1,kD.o.trans HH.o.2⟩
  case measure=>simp[intOf];omega):G:=h
theorem pm258(h:G:=by
 obtain ⟨W6,cP,x6,k6,g0,g1,g2,g3⟩:=BV H5.o.2 (.int .u8 0) (.string ⟨#[]⟩) (.slice none 0 0) (.slice none 0 0);rw[<-cP]
 first
 |clear pp258;have HE:=ab (show RS=none from Pp.o.2.1 (zF.o (by simp)));exact pm105
 |have HE:=ab (show RS=none from zD.o.1 (zF.o (by simp)));exact pm105):G:=h
theorem pm259(h:G:=by
 go_wp2;go_ret;exact ⟨aK (vU (by rw[jY];omega) HR.o (by rw[nQ h1];exact HF.o) (by have:=HA.o;rwa [yT]at this)).symm,HW.o⟩):G:=h
theorem pm260(h:G:=by
 intro m ok ok' w a n c a' n' c' aA hl hm;obtain rfl:=hl.len;obtain rfl:=hm.len;have cf:=aA.len
 by_cases ox:l.length=m.length
 first
 |clear pp260
  ·obtain ⟨k0,cg⟩:=ao l.length;rw[<-ox,<-cg];rw[<-cg]at cf;obtain ⟨dJ,WH,HL,HM,fd,HF⟩:=Sj cg ox hl hm ih aA;clear cg ox hl hm ih aA;go_enter Tryz.func19,Tryz.ntmps19;have pp162:=();exact pm162
  ·have jD:jm l m=false:=by
    cases he:jm l m with
    | false=>rfl
    | true=>exact absurd (by rw[(gP _ _).1 he]) ox
   have pp143:=();exact pm143
 |·obtain ⟨k0,cg⟩:=ao l.length;rw[<-ox,<-cg];rw[<-cg]at cf;obtain ⟨dJ,WH,HL,HM,fd,HF⟩:=Sj cg ox hl hm ih aA;clear cg ox hl hm ih aA;go_enter Tryz.func52,Tryz.ntmps52;exact pm162
  ·have jD:nM l m=false:=by
    cases he:nM l m with
    | false=>rfl
    | true=>exact absurd (by rw[(nX _ _).1 he]) ox
   exact pm143):G:=h
theorem pm261(h:G:=by
 obtain ⟨b,rfl,h1,h2,_⟩:=hv;obtain ⟨b',cs,rfl,h3,q,hq,h4⟩:=hf;cases h1
 first
 |clear pp261a;simp only[FQ.val,cA]at hq;exact pm124
 |clear pp261b;simp only[TQ.val,cA]at hq;exact pm124
 |simp only[BQ.val,cA]at hq;exact pm124):G:=h
theorem pm262(h:G:=by
 rw[hb]at C;obtain ⟨HC,HB⟩:=aZ C hB;clear C hB hJ hb hn hq hf;have HW:=ab bl;rw[bl]at HC;clear bl;unfold FQ.val at HC ⊢
 first
 |clear pp262;obtain ⟨bb,cK⟩:=ao (dn t);rw[<-cK]at HC ⊢;clear cK;cases bb
  all_goals
   go_enter Tryz.func39,Tryz.ntmps39;go_wp2_with (go_at_call 64;refine HC.o.mono ?_;rintro e w3 ⟨rfl,iV,_⟩;have mN:=ab iV;clear iV);go_ret;refine ⟨rfl,?_⟩;rw[<-HW.o]at mN;exact Below.kp1 HB.o mN.o (by omega)
 |obtain ⟨bb,cK⟩:=ao (schemaF t);rw[<-cK]at HC ⊢;clear cK;cases bb
  all_goals
   go_enter Tryz.func26,Tryz.ntmps26;go_wp2_with (go_at_call 64;refine HC.o.mono ?_;rintro e w3 ⟨rfl,iV,_⟩;have mN:=ab iV;clear iV);go_ret;refine ⟨rfl,?_⟩;rw[<-HW.o]at mN;exact Below.kp1 HB.o mN.o (by omega)):G:=h
theorem pm263(h:G:=by
 have hli:¬((n1:Int)=(n2:Int)):=by omega
 have hlb:((n1:Int) == (n2:Int))=false:=by simp[hli]
 have xf:(n == n)=true:=by simp
 first
 |clear pp263;clear lp JX Bn;have pp7b:=();exact pm7
 |exact pm80):G:=h
theorem pm264(h:G:=by
 refine mM Tryz.func154 ?_;simp only[Tryz.ntmps154,Nat.reduceAdd,Nat.reduceSub,li]
 first
 |clear pp264;have jH:=eU;have Pb:Below w.heap.size w ((w.alloc (.cells #[.bool true,.string ⟨n.toArray⟩,.slice qa k0 qc] 43)).alloc (.cells #[.bool false,.string ⟨#[]⟩,.slice none 0 0] 43)):=cQ.alloc (by simp) _;have y1:((w.alloc (.cells #[.bool true,.string ⟨n.toArray⟩,.slice qa k0 qc] 43)).alloc (.cells #[.bool false,.string ⟨#[]⟩,.slice none 0 0] 43)).heap[w.heap.size+1]?=some (.cells #[.bool false,.string ⟨#[]⟩,.slice none 0 0] 43 (0,0)):=aj (by simp);have y0:((w.alloc (.cells #[.bool true,.string ⟨n.toArray⟩,.slice qa k0 qc] 43)).alloc (.cells #[.bool false,.string ⟨#[]⟩,.slice none 0 0] 43)).heap[w.heap.size]?=some (.cells #[.bool true,.string ⟨n.toArray⟩,.slice qa k0 qc] 43 (0,0)):=(bK _ _ _ (by simp)).trans (aj rfl);have tC:((w.alloc (.cells #[.bool true,.string ⟨n.toArray⟩,.slice qa k0 qc] 43)).alloc (.cells #[.bool false,.string ⟨#[]⟩,.slice none 0 0] 43)).heap.size=w.heap.size+2:=by simp
  have CI:=hI n ((w.alloc (.cells #[.bool true,.string ⟨n.toArray⟩,.slice qa k0 qc] 43)).alloc (.cells #[.bool false,.string ⟨#[]⟩,.slice none 0 0] 43)) lG (Lx.o.tr Pb);rw[qh]at CI;have HY:=cC Pb y1 y0 tC;have Uw:=ab CI
  first
  |clear pp21;clear Pb y1 y0 tC CI qh;gi_wp2_with (gi_at_fn g;refine aL.2 (Uw.o.mono ?_);rintro e w3 ⟨⟨q3,rfl,Pc⟩,aJ⟩;obtain ⟨UA,UB,UC,UD,UE⟩:=q3;simp only[TQ.val,Option.isSome]at Pc ⊢;have b1:=HY.o.1.tr aJ;have y1:=(aJ.block _ (by have:=HY.o.2.2.2;omega)).trans HY.o.2.1;have y0:=(aJ.block _ (by have:=HY.o.2.2.2;omega)).trans HY.o.2.2.1;have pN:=aJ.size;have pP:=HY.o.2.2.2;have Jr:w.heap.size+2<=w3.heap.size:=(by omega);have bM:=cC b1 y1 y0 Pc;clear aJ b1 pN pP Pc;have p0:w3.cell? ⟨w.heap.size,0,none⟩=some (.bool true):=ah y0 0;have p1:w3.cell? ⟨w.heap.size,1,none⟩=some (.string ⟨n.toArray⟩):=ah y0 1;have p2:w3.cell? ⟨w.heap.size,2,none⟩=some (.slice qa k0 qc):=ah y0 2;have aP:Below w3.heap.size w3 (w3.alloc (.cells #[.bool UA,.string UB,.slice UC UD UE] 43)):=cQ;have q0:=aa aP p0;have q1:=aa aP p1;have q2:=aa aP p2;have cI:Below (w3.alloc (.cells #[.bool UA,.string UB,.slice UC UD UE] 43)).heap.size (w3.alloc (.cells #[.bool UA,.string UB,.slice UC UD UE] 43)) ((w3.alloc (.cells #[.bool UA,.string UB,.slice UC UD UE] 43)).alloc (.cells #[.bool true,.string ⟨n.toArray⟩,.slice none 0 0] 43)):=cQ;have r2:=aa cI q2;clear y1 y0 aP cI);clear p0 p1 p2 q0 q1 q2 r2;obtain ⟨W1,bR⟩:=ao ((w3.alloc (.cells #[.bool UA,.string UB,.slice UC UD UE] 43)).alloc (.cells #[.bool true,.string ⟨n.toArray⟩,.slice none 0 0] 43));have iJ:Below w.heap.size w W1:=by rw[bR];exact bM.o.1.tr ((cQ.alloc (by simp) _))
   have x1:W1.heap[w.heap.size+1]?=some (.cells #[.bool false,.string ⟨#[]⟩,.slice none 0 0] 43 (0,0)):=by rw[bR];exact (bK _ _ _ (by simp;omega)).trans ((bK _ _ _ (by omega)).trans bM.o.2.1)
   have x2:=jC bR;rw[<-bR];clear bR;obtain ⟨dO,jI⟩:=aZ iJ x1;have vW:=ab (Fills.start (R:=w3.heap.size+1) (mk:=fun rr=>#[.bool true,.string ⟨n.toArray⟩,rr]) (Row:=fun r W=>RowT W1.heap.size r ((a.map (eT f)).take 0) W) x2 (RowT.nil _ _));clear iJ x1 x2;gi_loopw [30] (fun i wr=>∃k:Nat,k<=k0/\i=.int .i64 k/\∃row,Fills 43 (w3.heap.size+1) W1.heap.size (fun rr=>#[.bool true,.string ⟨n.toArray⟩,rr]) (fun r W=>RowT W1.heap.size r ((a.map (eT f)).take k) W) W1 wr row) (fun i _=>k0 - (intOf i).toNat)
   case atStart=>exact ⟨0,bc _,rfl,_,vW.o⟩
   case round=>
    obtain ⟨k,hk,rfl,row,hF⟩:=hrel;have ar:=hF.below dO.o ((by omega))
    by_cases hlt:k<k0
    ·have dG:=ct dJ.o hlt;have pp55d:=();exact pm55
    ·obtain rfl:k=k0:=by omega
     have pp214:=();exact pm214
  |clear Pb y1 y0 tC CI;clear qh;have HCu:=ab hcu;clear hcu;gi_wp2_with (first | (gi_at_fn g;refine aL.2 (Uw.o.mono ?_);rintro e w3 ⟨⟨q3,rfl,Pc⟩,aJ⟩;obtain ⟨UA,UB,UC,UD,UE⟩:=q3;simp only[TQ.val,Option.isSome]at Pc ⊢;have b1:=HY.o.1.tr aJ;have y1:=(aJ.block _ (by have:=HY.o.2.2.2;omega)).trans HY.o.2.1;have y0:=(aJ.block _ (by have:=HY.o.2.2.2;omega)).trans HY.o.2.2.1;have pN:=aJ.size;have pP:=HY.o.2.2.2;have Jr:w.heap.size+2<=w3.heap.size:=(by omega);have bM:=cC b1 y1 y0 Pc;clear aJ b1 pN pP Pc;have aP:Below w3.heap.size w3 (w3.alloc (.cells #[.bool UA,.string UB,.slice UC UD UE] 43)):=cQ;have z1:=(aP.block _ (by omega)).trans y1;have HE:=ab (HCu.o _ _ ⟨UA,UB,UC,UD,UE⟩ ((bM.o.2.2.2 u rfl).later aP));simp only[TQ.val]at HE;have HZ:=aC z1 (bM.o.1.tr aP);clear y1 y0 aP z1) | (gi_at_call 218;refine aL.2 (HE.o.mono ?_);rintro e w5 ⟨⟨p5,rfl,rq⟩,bi⟩;obtain ⟨pv,pn,pa,pl,pc⟩:=p5;simp only at rq ⊢;have x1:=(bi.block _ (by simp;omega)).trans HZ.o.1;have e0:=ah x1 0;have e1:=ah x1 1;have e2:=ah x1 2;have z0:=ac x1 0;have z1:=ac x1 1;have z2:=ac x1 2;have H5:=cC rq (HZ.o.2.tr bi) x1 bi.size;clear bi rq x1));have x6:=qt (v0:=.bool pv) (v1:=.string pn) (v2:=.slice pa pl pc) H5.o.2.2.1;have k6:=eF (W:=w5) (b:=w.heap.size+1) (v0:=.bool pv) (v1:=.string pn) (v2:=.slice pa pl pc);obtain ⟨W6,cP⟩:=ao (((w5.setCell ⟨w.heap.size+1,0,none⟩ (.bool pv)).setCell ⟨w.heap.size+1,1,none⟩ (.string pn)).setCell ⟨w.heap.size+1,2,none⟩ (.slice pa pl pc));rw[<-cP]at x6 k6 ⊢;clear cP;have g0:W6.cell? ⟨w.heap.size+1,0,none⟩=some (.bool pv):=ah x6 0;have g1:W6.cell? ⟨w.heap.size+1,1,none⟩=some (.string pn):=ah x6 1;have g2:W6.cell? ⟨w.heap.size+1,2,none⟩=some (.slice pa pl pc):=ah x6 2;refine bI (v:=TQ.val ⟨pv,pn,pa,pl,pc⟩) (by simp[TQ.val,results,Tryz.results154,go_sem,g0,g1,g2]) rfl ⟨⟨⟨pv,pn,pa,pl,pc⟩,rfl,H5.o.1.move (fun b hok hlt=>⟨by simp at hok;omega,k6.same b hlt (by simp at hok;omega)⟩)⟩,Below.kp1 H5.o.2.1 k6 (by omega)⟩
 |have pp51b:=();exact pm51):G:=h
theorem pm265(h:G:=by
 refine ⟨fun h=>(by rw[h]at hr;cases hr),fun j hj=>?_⟩
 by_cases yQ:j=i
 ·subst yQ;exact yO qg hi hy hS ⟨fun _=>hS,H⟩
 first
 |clear pp265
  ·have:=ready_mono hj yQ;rw[H.1]at this;cases this
 |·have h1:=H.2 j (ready_mono hj yQ);obtain ⟨Z9,oj,Zc,eA⟩:=mem_ready.1 hj;have IZ:∀ e∈oj.after,Region.binds md e=true->e.on≠i:=fun e he hb heq=>by
    have h1:=eA e he hb;have h0:=(mem_ready.1 hr).1;rw[heq]at h1;rcases Nat.lt_or_ge i listed.size with h' | h'
    ·simp[h']at h0 h1;rw[h0]at h1;cases h1
    ·simp[Array.getElem?_eq_none h']at h1
   have h2:=FT qg Zc (Ui j oj Zc yQ Z9 IZ) (fun cs b=>Z8 i oi cs b hi) (fun cs b=>Z8 j oj cs b Zc) hQ hy h1;have VT:∀ k ok,ops[k]?=some ok->k≠i->(listed.setIfInBounds j true).getD k true=false →
     (∀ e∈ok.after,Region.binds md e=true->e.on≠i)->oi.apart ops ok=true:=fun k ok hk DZ Oh fZ=>by
    refine Ui k ok hk DZ ?_ fZ
    by_cases rX:j=k
    ·subst rX;exact Z9
    ·rw[getD_set_ne true rX]at Oh;exact Oh
   have hje:j<e:=by
    have lC:j<ops.size:=(bn Zc);have h7:=List.all_eq_true.1 Z7 j (List.mem_range.2 lC);simp only[Bool.or_eq_true,bw]at h7;rcases h7 with h7 | h7
    ·exact h7
    ·have h5:=Mr hcl hj h7;have h6:=(mem_ready.1 hr).1;rcases Nat.lt_or_ge i listed.size with h' | h'
     ·simp[h']at h5 h6;rw[h5]at h6;cases h6
     ·simp[Array.getElem?_eq_none h']at h6
   refine wpOpIn_mono (fun a' w' h3=>⟨h3.2.1,ih (listed.setIfInBounds j true) a' w' (IY hcl hj) VT (ready_mono hr (Ne.symm yQ)) h3.1 (h3.2.1 hje) ?_⟩) h2;rw[Array.setIfInBounds_comm _ _ yQ];exact h3.2.2):G:=h
theorem pm266(h:G:=by
 refine ⟨some ⟨b,0,none⟩,c,fun j=>if j=0 then p.val else q.val,rfl,.inr ⟨b,0,rfl,hok,fun j hj=>?_⟩,fun j hj=>?_⟩
 first
 |clear pp266
  ·rcases j with _ | _ | j
   ·exact ⟨_,_,_,rfl,ah hb 0,ah hb 1,ah hb 2⟩
   ·exact ⟨_,_,_,rfl,ah hb 3,ah hb 4,ah hb 5⟩
   ·simp at hj;omega
  ·rcases j with _ | _ | j
   ·exact hx
   ·exact hy
   ·simp at hj;omega
 |·rcases j with _ | _ | j
   ·exact ⟨_,_,_,_,rfl,ah hb 0,ah hb 1,ah hb 2,ah hb 3⟩
   ·exact ⟨_,_,_,_,rfl,ah hb 4,ah hb 5,ah hb 6,ah hb 7⟩
   ·simp at hj;omega
  ·rcases j with _ | _ | j
   ·exact hx
   ·exact hy
   ·simp at hj;omega):G:=h
theorem pm267(h:G:=by
 unfold Act.put;split
 ·rename_i d' VU;have:d'≠d:=fun e=>rX (hok.one j k oj o d hj ho Fz (by rw[VU,e]));simp[this]
 ·rfl):G:=h
theorem pm268(h:G:=by
 unfold da dA cW;cases decide (n.length<=16) <;> cases (n.head? == some 63) <;> cases wR n.tail <;> cases Bw n.tail <;> rfl):G:=h
theorem pm269(h:G:=by
 rw[hS]at h;exact ⟨aa h (ah jA.box 1),z7 V (h.block _ br),aa h (ah y5 0),aa h (ah y5 1),aa h (ah y5 2),aa h (ah y5 3)⟩):G:=h
theorem pm270(h:G:=by
 simp only[mH,List.append_eq_nil_iff]at hm;have:(v && da n)=false:=by
  cases h:(v && da n)
  ·rfl
  ·rw[h]at hm;simp at hm
 first
 |clear pp270;simp only[f_,this,bZ,↓reduceIte,rh a hm.2]
 |obtain ⟨h1,h2⟩:=rj a hm.2;simp only[jx,nP,nodesT,this,bZ,↓reduceIte,h1,h2,and_self]):G:=h
theorem pm271(h:G:=by
 exact .inr ⟨b,off,ha,hk.1,fun j hj=>(hc j hj).kept hk.2⟩):G:=h
theorem pm272(h:G:=by
 have Ar:=cK.symm;simp only[ae,bw]at Ar;obtain ⟨hb1,bF,aJ⟩:=Ar;rw[dP]at hM;have HE:=ab hM;clear hM sG qi Br cK hb1 aJ
 first
 |clear pp272;have pp65e:=();exact pm65
 |have pp65h:=();exact pm65):G:=h
theorem pm273(h:G:=by
 have C1:=ab (fun w=>h1 ▸ ne n w hn);clear h1;go_enter Tryz.func119,Tryz.ntmps119
 first
 |clear pp273;go_wp2_with (go_at_call 185;refine (C1.o _).mono ?_;rintro e w' ⟨rfl,hb⟩);go_ret;exact ⟨by simp,hb⟩
 |go_wp2_with (first | (go_at_call 185;refine (C1.o _).mono ?_;rintro e w' ⟨rfl,hb⟩) | (go_at_call 186;refine (kL n _ hn).mono ?_;rintro e OJ ⟨rfl,bF⟩));go_ret;exact ⟨by simp,hb.trans (bF.mono hb.size)⟩):G:=h
theorem pm274(h:G:=by
 have CQ:=pE ⟨uo,⟨nm.toArray⟩,ua,k0,uc,ub,m0,ue⟩ wr;simp only[FQ.val,p9]at CQ;have IM:=ab CQ;have HE:=bE hj Lm ej
 first
 |clear pp274;have gj:=ab x3;clear hj Lm ej ht b0 b1 CQ p9;go_wp2_with fail;refine IM.o.mono ?_;rintro e w3 ⟨rfl,aJ⟩;have H4:=ab (show J (pre ++ (A ++ [])) w3/\Kp M W0 w3/\BoundW w3 mb (n+0) bs'/\Kp (fun b=>M b\/b=mb) W1 w3 from ⟨by simpa using HJ.o _ _ _ (Nw.below aJ) HE.o.2.1,HE.o.1.kp.trans (Kp.below aJ),by rw[lw.o];exact HE.o.1.bd.same (aJ.block mb HE.o.1.bd.lt),HE.o.2.2.trans (Kp.below aJ)⟩);have y3:w3.cell? ⟨W.heap.size,3,none⟩=some (.slice ub m0 ue):=aa aJ gj.o;clear x0 x1 x2 x3 x4 aJ;go_wp2;clear y3;go_loopw [36] (fun i wr=>∃k:Nat,k<=m0/\i=.int .i64 k/\J (pre ++ (A ++ bH bs' (ss.take k))) wr/\Kp M W0 wr/\(∃n',n'<=n+0+2 * nodesFs (ss.take k)/\BoundW wr mb n' bs')/\Kp (fun b=>M b\/b=mb) W1 wr) (fun i _=>m0 - (intOf i).toNat)
  case atStart=>exact ⟨0,bc _,rfl,by simpa[bH] using H4.o.1,H4.o.2.1,⟨n+0,by omega,H4.o.2.2.1⟩,H4.o.2.2.2⟩
  case round=>
   have pp11:=();exact pm11
 |obtain ⟨gj,HX4,mj⟩:=cD x3 x4 x1;clear hj Lm ej ht b0 b1 CQ p9;go_wp2_with fail;refine IM.o.mono ?_;rintro e w3 ⟨rfl,aJ⟩;have hbd:=HE.o.1.bd.same (aJ.block mb HE.o.1.bd.lt);obtain ⟨w4,cV,aP,vA,wh,IN⟩:=hbd.store (bs':=nm :: bs) (x:=nm) (by have:=vF.o;omega) Jc.o (fun y hy=>by rw[List.count_cons_of_ne];exact fun h=>hy h.symm);have hr:=hbd.look Jc.o w3 rfl;have hcl:bs.count nm<=4000000:=by have:=vF.o;have:=List.count_le_length (a:=nm) (l:=bs);omega
  rw[List.count_cons_self]at cV;obtain ⟨cn,xg⟩:=ao (bs.count nm);rw[<-xg]at cV hr hcl;have cV:(Instr.mapUpdate 198 (.map (some mb)) (.string ⟨nm.toArray⟩) (.int .i64 ((cn:Int)+1))).run Tryz.prog w3=.ok () w4:=cV;have j7:Kp (fun b=>M b\/b=mb) w3 w4:=⟨vA.os,vA.tape,vA.output,Nat.le_of_eq wh.symm,fun b hb hm=>vA.block b hb (fun h=>hm (.inr (by cases h;rfl)))⟩;have H4:=ab (show J (pre ++ (A ++ [])) w4/\Kp M W0 w4/\BoundW w4 mb (n+1) bs'/\Kp (fun b=>M b\/b=mb) W1 w4 from ⟨by simpa using HJ.o _ _ _ (IN _ Wy.o) (HJ.o _ _ _ (Nw.below aJ) HE.o.2.1),Pu (HE.o.1.kp.trans (Kp.below aJ)) (IN _ Wy.o) (aF _),by rw[lw.o];exact aP,(HE.o.2.2.trans (Kp.below aJ)).trans j7⟩);have z1:w3.cell? ⟨W.heap.size,1,none⟩=some (.string ⟨nm.toArray⟩):=aa aJ mj.o;have z4:w3.cell? ⟨W.heap.size+1,0,none⟩=some (.map (some mb)):=aa aJ HX4.o;have y3:w4.cell? ⟨W.heap.size,3,none⟩=some (.slice ub m0 ue):=j7.cell pR.o.2.1 (aa aJ gj.o);clear x0 x1 x2 x3 x4 aJ hbd aP vA wh IN j7 xg;go_wp2;clear y3 z1 z4 cV hr;go_loopw [36] (fun i wr=>∃k:Nat,k<=m0/\i=.int .i64 k/\J (pre ++ (A ++ bH bs' (ss.take k))) wr/\Kp M W0 wr/\(∃n',n'<=n+1+2 * nodesFs (ss.take k)/\BoundW wr mb n' bs')/\Kp (fun b=>M b\/b=mb) W1 wr) (fun i _=>m0 - (intOf i).toNat)
  case atStart=>exact ⟨0,bc _,rfl,by simpa[bH] using H4.o.1,H4.o.2.1,⟨n+1,by omega,H4.o.2.2.1⟩,H4.o.2.2.2⟩
  case round=>
   exact pm11):G:=h
theorem pm275(h:G:=by
 have CR:=ab (fun w:World=>hr ▸ eE s w);clear hr;have pp44c:=();exact pm44):G:=h
theorem pm276(h:G:=by
 have HU:=ab (hu.later ar);have Bo:=ab (iA.later ar);have BO:=ab (Bq.o.later fp);obtain ⟨Jw,Jy,dy,sU⟩:=eR rt he ar fp
 first
 |clear pp276;have ru:=bE (aa dy.o mI) (aa dy.o nU) (aa dy.o nV);obtain ⟨Ea,HT⟩:=aZ y2 ht;clear hu iA rt he ar fp ht c0 c1 c2 mI nU nV;go_wp2;obtain ⟨W3,ec⟩:=ao (wr.alloc (.cells #[.bool u.v,.string u.n,.slice u.a u.l u.c] 43));have pp112a:=();exact pm112
 |have ru:=cC (aa dy.o mI) (aa dy.o nU) (aa dy.o nV) (aa dy.o GR);obtain ⟨Ea,HT⟩:=aZ y2 ht;clear hu iA rt he ar fp ht c0 c1 c2 mI nU nV c3 GR;go_wp2
  first
  |clear pp74a;exact pm31
  |clear pp74b;have pp31a:=();exact pm31
  |have pp31b:=();exact pm31):G:=h
theorem pm277(h:G:=by
 obtain ⟨fa,fl,fc,ta,tl,tc⟩:=q;obtain ⟨xj,pT⟩:=hq;simp only at xj pT
 first
 |clear pp277a;obtain rfl:=xj.len;obtain ⟨n1,dT⟩:=ao b.fs.length;obtain ⟨R,hR⟩:=ao (getB b.fs n);rw[<-dT]at hF xj;rw[<-dT,<-hR];obtain ⟨W2,bl⟩:=ao ((w.alloc (.cells #[.slice fa n1 fc,.slice ta tl tc] 26)).alloc (.cells #[.int .u8 0,.string ⟨#[]⟩,.slice none 0 0,.slice none 0 0] 36));have bF:=lB bl;have gV:=xV bl;have x1:=jC bl;obtain ⟨WR,HP,HN⟩:=cD xj aA dT;have H2:=bE bF gV x1;obtain ⟨gF,HR⟩:=aZ bl hR;clear xj pT aA dT bF gV x1 bl hR;unfold BQ.val;go_enter Tryz.func16,Tryz.ntmps16;go_wp2_with fail;rw[<-gF.o];go_loopw [11] (fun i wr=>∃k:Nat,k<=n1/\i=.int .i64 k/\Below W2.heap.size W2 wr/\R=getB (b.fs.drop k) n) (fun i _=>n1 - (intOf i).toNat)
  case atStart=>exact ⟨0,bc _,rfl,ak _ _,by simpa using HR.o⟩
  case round=>
   obtain ⟨k,hk,rfl,ar,gt⟩:=hrel;have hx:=bT ar H2.o.2.2
   by_cases hlt:k<n1
   ·have br:k<b.fs.length:=by rw[<-HN.o];exact hlt
    have pp218a:=();exact pm218
   ·obtain rfl:k=n1:=by omega
    have HE:=ab (show R=none by rw[gt,jk (by rw[<-HN.o];exact aF _)];rfl);obtain ⟨e0,e1,e2,e3,y0,y1,y2,y3⟩:=dh hx;have HB:=aC hx (H2.o.1.tr ar);clear ar gt hx;go_wp2;obtain ⟨W8,lQ,x8,k8,g0,g1,g2,g3⟩:=BV HB.o.1 (.int .u8 0) (.string ⟨#[]⟩) (.slice none 0 0) (.slice none 0 0);rw[<-lQ];refine bI (v:=.tuple #[FQ.val ⟨0,⟨#[]⟩,none,0,0,none,0,0⟩,.bool false]) (by simp[FQ.val,results,Tryz.results16,go_sem,g0,g1,g2,g3]) rfl ⟨⟨⟨0,⟨#[]⟩,none,0,0,none,0,0⟩,by rw[HE.o];rfl,?_⟩,Below.kp1 HB.o.2 k8 (by omega)⟩;rw[HE.o];exact l_
 |clear pp277b;obtain rfl:=pT.len;obtain ⟨n1,dT⟩:=ao b.ts.length;obtain ⟨R,hR⟩:=ao (getB b.ts n);rw[<-dT]at hF pT;rw[<-dT,<-hR];obtain ⟨W2,bl⟩:=ao ((w.alloc (.cells #[.slice fa fl fc,.slice ta n1 tc] 26)).alloc (.cells #[.bool false,.string ⟨#[]⟩,.slice none 0 0] 43));have bF:=lB bl;have gV:=xV bl;have x1:=jC bl;obtain ⟨WR,HP,HN⟩:=cD pT aA dT;have H2:=bE bF gV x1;obtain ⟨gF,HR⟩:=aZ bl hR;clear xj pT aA dT bF gV x1 bl hR;unfold BQ.val;go_enter Tryz.func18,Tryz.ntmps18;go_wp2_with fail;rw[<-gF.o];go_loopw [11] (fun i wr=>∃k:Nat,k<=n1/\i=.int .i64 k/\Below W2.heap.size W2 wr/\R=getB (b.ts.drop k) n) (fun i _=>n1 - (intOf i).toNat)
  case atStart=>exact ⟨0,bc _,rfl,ak _ _,by simpa using HR.o⟩
  case round=>
   obtain ⟨k,hk,rfl,ar,gt⟩:=hrel;have hx:=bT ar H2.o.2.2
   by_cases hlt:k<n1
   ·have br:k<b.ts.length:=by rw[<-HN.o];exact hlt
    obtain ⟨bb,off,⟨qo,qn,qa,ql,qc⟩,rfl,hok,hf,c0,c1,c2,c3⟩:=WR.o.get br;have nl:=H2.o.1.tr ar;obtain ⟨d0,d1,d2,d3⟩:=nb nl c0 c1 c2 c3;obtain ⟨nm,dK⟩:=ao (b.ts[k].1);obtain ⟨g,hg⟩:=ao (b.ts[k].2);rw[Dy br,<-dK,<-hg]at gt;rw[<-dK]at d0;have LK:=HP.o _ (az br);rw[<-hg]at hf LK;simp only at d1 d2 d3;obtain ⟨W5,eK⟩:=ao (wr.alloc (.cells #[.string ⟨nm.toArray⟩,.bool qo,.string qn,.slice qa ql qc] 47));have bi:=cX eK;have DZ:(k:Int)<(n1:Int):=by omega
    have p_:=ab eK
    by_cases mm:nm=n
    ·subst mm;have xf:(nm == nm)=true:=by simp
     rw[xf]at gt;have CC:=oF g LK ok W5 ⟨qo,qn,qa,ql,qc⟩ ((hf.later nl).later bi);simp only[TQ.val]at CC;have HC:=ab CC;have HE:=ab (show R=some g from gt);have H5:=aC (nl.tr bi) (bT bi hx);clear CC nl ar gt hf LK bi hx eK hg dK c0 c1 c2 c3 hok;go_wp2_with (rw[<-p_.o];go_at_call 53;refine HC.o.mono ?_;rintro e w6 ⟨⟨p0,p1,p2,p3,p4⟩,rfl,hp,cI⟩;have Xg:=bT cI H5.o.2;obtain ⟨e0,e1,e2,y0,y1,y2⟩:=fX Xg;have H6:=bE Xg hp cI;clear Xg hp cI);obtain ⟨W8,lQ,x8,k8,g0,g1,g2⟩:=ui H6.o.1 (.bool p0) (.string p1) (.slice p2 p3 p4);rw[<-lQ];refine bI (v:=.tuple #[TQ.val ⟨p0,p1,p2,p3,p4⟩,.bool true]) (by simp[TQ.val,results,Tryz.results18,go_sem,g0,g1,g2]) rfl ⟨⟨⟨p0,p1,p2,p3,p4⟩,by rw[HE.o];rfl,?_⟩,Below.kp1 (H5.o.1.tr H6.o.2.2) k8 (by omega)⟩;exact pm293
    ·have xf:(nm == n)=false:=by simp[mm]
     rw[xf]at gt;have HG:=aC (ar.tr bi) (show R=getB (b.ts.drop (k+1)) n from gt);clear nl ar gt hf LK bi hx eK hg dK c0 c1 c2 c3 hok;exact pm279
   ·obtain rfl:k=n1:=by omega
    have HE:=ab (show R=none by rw[gt,jk (by rw[<-HN.o];exact aF _)];rfl);obtain ⟨e0,e1,e2,y0,y1,y2⟩:=fX hx;have HB:=aC hx (H2.o.1.tr ar);clear ar gt hx;go_wp2;obtain ⟨W8,lQ,x8,k8,g0,g1,g2⟩:=ui HB.o.1 (.bool false) (.string ⟨#[]⟩) (.slice none 0 0);rw[<-lQ];refine bI (v:=.tuple #[TQ.val ⟨false,⟨#[]⟩,none,0,0⟩,.bool false]) (by simp[TQ.val,results,Tryz.results18,go_sem,g0,g1,g2]) rfl ⟨⟨⟨false,⟨#[]⟩,none,0,0⟩,by rw[HE.o];rfl,?_⟩,Below.kp1 HB.o.2 k8 (by omega)⟩;rw[HE.o];exact Dz
 |obtain rfl:=xj.len;obtain rfl:=pT.len;obtain ⟨n1,dT⟩:=ao b.fs.length;obtain ⟨n2,ks⟩:=ao b.ts.length
  first
  |clear pp167;obtain ⟨M,hM⟩:∃M:Nat->Prop,M=fun b=>b=w.heap.size+1\/b=w.heap.size+1+1:=⟨_,rfl⟩;rw[<-dT]at hF;rw[<-ks]at hT;obtain ⟨W4,wS⟩:=ao ((((w.alloc (.cells #[.slice fa n1 fc,.slice ta n2 tc] 26)).alloc (.map #[] 0)).alloc (.map #[] 0)).alloc (.cells #[.map (some (w.heap.size+1)),.map (some (w.heap.size+1+1))] 148));have aP:=Sk wS;have pP:=VS wS;have x0:=OH wS;have kn4:KnV (fun b=>b<w.heap.size) PF PT W4 (w.heap.size+1+1+1) (w.heap.size+1) (w.heap.size+1+1) 0 0 ⟨[],[]⟩:=by
    refine ⟨by rw[wS];exact aj (by simp),?_,?_,by omega,by omega,by omega⟩
    ·have h:=MapV.made (P:=Tryz.prog) (k:=9) (V:=FormK (fun b=>b<w.heap.size) PF W4) (w.alloc (.cells #[.slice fa n1 fc,.slice ta n2 tc] 26));have hz:(w.alloc (.cells #[.slice fa n1 fc,.slice ta n2 tc] 26)).heap.size=w.heap.size+1:=by simp
     rw[hz]at h;exact h.move (by rw[wS];exact (bK _ _ _ (by simp <;> omega)).trans (bK _ _ _ (by simp))) (fun _ _ _ _ h=>h)
    ·have h:=MapV.made (P:=Tryz.prog) (k:=9) (V:=TermK (fun b=>b<w.heap.size) PT W4) ((w.alloc (.cells #[.slice fa n1 fc,.slice ta n2 tc] 26)).alloc (.map #[] 0));have hz:((w.alloc (.cells #[.slice fa n1 fc,.slice ta n2 tc] 26)).alloc (.map #[] 0)).heap.size=w.heap.size+1+1:=by simp
     rw[hz]at h;exact h.move (by rw[wS];exact (bK _ _ _ (by simp))) (fun _ _ _ _ h=>h)
   rw[<-dT]at xj;rw[<-ks]at pT;rw[<-dT,<-ks];obtain ⟨WR,HTv⟩:=aZ xj pT;have HP:=rK rP qw hdF hdT hPF UX;have HN:=aC dT ks;have H4:=cC aP pP x0 kn4;obtain ⟨HM,HW4⟩:=aZ hM wS;clear xj pT rP qw hdF hdT hPF UX dT ks aP pP x0 kn4 wS hM;unfold BQ.val;go_enter Tryz.func46,Tryz.ntmps46;go_wp2_with fail;rw[<-HW4.o];go_loopw [15] (fun i wr=>∃k:Nat,k<=n1/\i=.int .i64 k/\Kp M W4 wr/\KnV (fun b=>b<w.heap.size) PF PT wr (w.heap.size+1+1+1) (w.heap.size+1) (w.heap.size+1+1) k 0 ⟨b.fs.take k,[]⟩) (fun i _=>n1 - (intOf i).toNat)
   case atStart=>exact ⟨0,bc _,rfl,Kp.refl _,by simpa using H4.o.2.2.2⟩
   case round=>
    obtain ⟨k,hk,rfl,bj,dV⟩:=hrel
    by_cases hlt:k<n1
    ·have br:k<b.fs.length:=by rw[<-HN.o.1];exact hlt
     have pp218b:=();exact pm218
    ·obtain rfl:k=n1:=by omega
     have cb:b.fs.take k=b.fs:=by rw[HN.o.1];exact cO
     rw[cb]at dV;obtain ⟨wo,JB⟩:=ao wr;subst JB;have x0:=(bj.same _ (by have:=H4.o.2.1;omega) (by rw[HM.o];omega)).trans H4.o.2.2.1;obtain ⟨y0,y1⟩:=Sm x0;have HO:=aC bj dV;clear bj dV cb x0;go_wp2_with fail;clear y0 y1;go_loopw [31] (fun i wr=>∃j:Nat,j<=n2/\i=.int .i64 j/\Kp M W4 wr/\KnV (fun b=>b<w.heap.size) PF PT wr (w.heap.size+1+1+1) (w.heap.size+1) (w.heap.size+1+1) k j ⟨b.fs,b.ts.take j⟩) (fun i _=>n2 - (intOf i).toNat)
     case atStart=>exact ⟨0,bc _,rfl,HO.o.1,by simpa using HO.o.2⟩
     case round=>
      obtain ⟨j,hj,rfl,bj,dV⟩:=hrel
      by_cases eJ:j<n2
      ·have br:j<b.ts.length:=by rw[<-HN.o.2];exact eJ
       obtain ⟨bb,off,⟨qv,qn,qa,ql,qc⟩,rfl,hok,hf,c0,c1,c2,c3⟩:=HTv.o.get br;exact pm131
      ·obtain rfl:j=n2:=by omega
       have cb:b.ts.take j=b.ts:=by rw[HN.o.2];exact cO
       rw[cb]at dV;have HE:=aC bj dV;clear bj dV cb;go_wp2;go_ret;refine ⟨rfl,HE.o.2,?_⟩;exact ⟨HE.o.1.os.trans H4.o.1.os,HE.o.1.tape.trans H4.o.1.tape,HE.o.1.output.trans H4.o.1.output,aQ H4.o.1.size HE.o.1.size,fun b hb=>(HE.o.1.same b (bN hb H4.o.1.size) (by rw[HM.o];omega)).trans (H4.o.1.block b hb)⟩
  |obtain ⟨R,hR⟩:=ao (validB b);rw[<-dT]at hF xj;rw[<-ks]at hT pT;rw[<-dT,<-ks,<-hR];obtain ⟨W1,bR⟩:=ao (w.alloc (.cells #[.slice fa n1 fc,.slice ta n2 tc] 26));have hb1:=cX bR;have iq:=DY bR;have x1:=bX bR;obtain ⟨WR,HTv⟩:=aZ xj pT;have HP:=aC rP qw;have HN:=aC dT ks;have H1:=bE hb1 iq x1;obtain ⟨Sb,iW,HR⟩:=cD ht bR hR;clear xj pT rP qw dT ks hb1 iq x1 bR ht hR;unfold BQ.val;go_enter Tryz.func27,Tryz.ntmps27;go_wp2_with fail;rw[<-iW.o];go_loopw [3,12] (fun v i wr=>∃k:Nat,k<=n1/\i=.int .i64 k/\Below W1.heap.size W1 wr/\OwnS W1.heap.size wr v ((b.fs.take k).map (·.1))/\(b.fs.take k).all (fun x=>dA x.1 && dn (bC x.2))=true) (fun _ i _=>n1 - (intOf i).toNat)
   case atStart=>exact ⟨0,bc _,rfl,ak _ _,OwnS.nil _ _,by simp⟩
   case round=>
    obtain ⟨k,hk,rfl,ar,au,eA⟩:=hrel
    by_cases hlt:k<n1
    ·have br:k<b.fs.length:=by rw[<-HN.o.1];exact hlt
     exact pm218
    ·obtain rfl:k=n1:=by omega
     have cb:b.fs.take k=b.fs:=by rw[HN.o.1];exact cO
     rw[cb]at au eA;obtain ⟨wo,JB⟩:=ao wr;subst JB;have y1:=aa ar (ah H1.o.2.2 1);have ZJ:=cC ar au eA (H1.o.1.tr ar);clear ar au eA cb;go_wp2_with fail;clear y1;go_loopw [4,36] (fun v i wr=>∃j:Nat,j<=n2/\i=.int .i64 j/\Below wo.heap.size wo wr/\OwnS wo.heap.size wr v ((b.ts.take j).map (·.1))/\(b.ts.take j).all (fun x=>cW x.1 && gw false (aM x.2))=true) (fun _ i _=>n2 - (intOf i).toNat)
     case atStart=>exact ⟨0,bc _,rfl,ak _ _,OwnS.nil _ _,by simp⟩
     case round=>
      obtain ⟨j,hj,rfl,ar,au,eA⟩:=hrel
      by_cases eJ:j<n2
      ·have lC:j<b.ts.length:=by rw[<-HN.o.2];exact eJ
       obtain ⟨bb,off,⟨qv,qn,qa,ql,qc⟩,rfl,hok,hf,c0,c1,c2,c3⟩:=HTv.o.get lC;have nl:=ZJ.o.2.2.2.tr ar;obtain ⟨d0,d1,d2,d3⟩:=nb nl c0 c1 c2 c3;obtain ⟨nm,dK⟩:=ao (b.ts[j].1);obtain ⟨g,hg⟩:=ao (b.ts[j].2);have lZ:=HP.o.2 _ (az lC);rw[<-dK]at d0;rw[<-dK,<-hg]at lZ;rw[<-hg]at hf;simp only at d1 d2 d3;obtain ⟨W5,eK⟩:=ao (wr.alloc (.cells #[.string ⟨nm.toArray⟩,.bool qv,.string qn,.slice qa ql qc] 47));have bi:=cX eK;have x5:=bX eK;have DZ:(j:Int)<(n2:Int):=by omega
       have jd:(nm,g)∈b.ts:=by rw[dK,hg];exact az lC
       have CM:=D9 nm W5 (by omega);have H5:=cC (nl.tr bi) x5 (hf.later (nl.tr bi)) lZ;have HO:=fA ar au eA dK hg;have p_:=ab eK
       cases Ca:cW nm with
       | false=>
        rw[Ca]at CM;have HC:=ab CM;have HE:=ab (show R=false by
         rw[HR.o];unfold validB;rw[ZJ.o.2.2.1];rw[show (b.ts.all fun x=>cW x.1 && gw false (aM x.2))=false from List.all_eq_false.2 ⟨_,jd,by simp[Ca]⟩];simp)
        clear CM nl ar au eA dK hg lZ hf bi x5 eK jd Ca c0 c1 c2 c3 hok;go_wp2_with (rw[<-p_.o];go_at_call 67;refine HC.o.mono ?_;rintro e w6 ⟨rfl,cI⟩;have H6:=ab cI;clear cI);go_ret;exact ⟨by rw[HE.o];rfl,H5.o.1.tr H6.o⟩
       | true=>
        rw[Ca]at CM;have HC:=ab CM;have Di:=ab (fun (W:World) (hb:Below W5.heap.size W5 W)=>rZ g lZ.2.1 ok W ⟨qv,qn,qa,ql,qc⟩ ((hf.later (nl.tr bi)).later hb));have Kh:=ab (fun (W:World) (p:TQ) (ok':Nat->Prop) (hb:Below W5.heap.size W5 W) (hp:TermV ok' W p.val (aM g))=>OY (aM g) lZ.2.2 ok' W p hp);simp only[TQ.val]at Di Kh
        cases E0:gw false (aM g) with
        | false=>
         rw[E0]at Kh;have HE:=ab (show R=false by
          rw[HR.o];unfold validB;rw[ZJ.o.2.2.1];rw[show (b.ts.all fun x=>cW x.1 && gw false (aM x.2))=false from List.all_eq_false.2 ⟨_,jd,by simp[E0]⟩];simp)
         clear CM nl ar au eA dK hg lZ hf bi x5 eK jd Ca E0 c0 c1 c2 c3 hok;go_wp2_with (first | (rw[<-p_.o];go_at_call 67;refine HC.o.mono ?_;rintro e w6 ⟨rfl,cI⟩;have x6:=bT cI H5.o.2.1;have s0:=ah x6 0;have s1:=ah x6 1;have s2:=ah x6 2;have s3:=ah x6 3;have H6:=aC cI x6;clear cI x6) | (go_at_call 69;refine (Di.o w6 H6.o.1).mono ?_;rintro e w7 ⟨⟨p0,p1,p2,p3,p4⟩,rfl,J7,fD⟩;have H7:=aC J7 fD;clear J7 fD) | (go_at_call 68;refine (Kh.o w7 ⟨p0,p1,p2,p3,p4⟩ _ (H6.o.1.tr H7.o.2) H7.o.1).mono ?_;rintro e w8 ⟨rfl,gS⟩;have H8:=ab (H6.o.1.tr (H7.o.2.tr gS));clear gS));go_ret;exact ⟨by rw[HE.o];rfl,H5.o.1.tr H8.o⟩
        | true=>
         rw[E0]at Kh;have yk:=ab bi;have Xl:=ab (show ((b.ts.take j).map (·.1)).length+1<=4000000 by simp;omega);have Ly:=ab (show (b.ts.take (j+1)).map (·.1)=(b.ts.take j).map (·.1) ++ [nm]/\(b.ts.take (j+1)).all (fun x=>cW x.1 && gw false (aM x.2))=true by
          rw[List.take_add_one,gy lC];refine ⟨by rw[List.map_append,dK];rfl,?_⟩;rw[List.all_append,eA];simp only[Option.toList,List.all_cons,List.all_nil,Bool.and_true,dP];rw[<-dK,<-hg,Ca,E0];simp)
         clear CM nl ar au eA dK hg lZ hf bi x5 eK jd Ca E0 c0 c1 c2 c3 hok;go_wp2_with (first | (rw[<-p_.o];go_at_call 67;refine HC.o.mono ?_;rintro e w6 ⟨rfl,cI⟩;have x6:=bT cI H5.o.2.1;have s0:=ah x6 0;have s1:=ah x6 1;have s2:=ah x6 2;have s3:=ah x6 3;have H6:=aC cI x6;clear cI x6) | (go_at_call 69;refine (Di.o w6 H6.o.1).mono ?_;rintro e w7 ⟨⟨p0,p1,p2,p3,p4⟩,rfl,J7,fD⟩;have H7:=aC J7 fD;clear J7 fD) | (go_at_call 68;refine (Kh.o w7 ⟨p0,p1,p2,p3,p4⟩ _ (H6.o.1.tr H7.o.2) H7.o.1).mono ?_;rintro e w8 ⟨rfl,gS⟩;have r0:=aa (H7.o.2.tr gS) s0;have H8:=ab (H6.o.1.tr (H7.o.2.tr gS));clear gS) | (at_builtin;refine dU rfl _ _ rfl wo.heap.size (by have:=HO.o.1.size;have:=yk.o.size;have:=H8.o.size;simp;omega) u4 ((b.ts.take j).map (·.1)) rfl (HO.o.2.1.later ((yk.o.tr H8.o).tr cQ)) (.slice (some ⟨w8.heap.size,0,none⟩) 1 1) [nm] rfl (fun _=>True) (zQ (aj rfl)) Xl.o ?_;intro v9 w9 PD IQ;have HG:=aC PD (og ((Kp.below (M:=fun _=>False) ((HO.o.1.tr yk.o).tr H8.o)).trans (Kp.below cQ)) IQ (fun g hg=>(World.ownsRow.lt HO.o.2.1 g hg).1)).empty;clear PD IQ));go_roundw
         case rel=>exact ⟨j+1,by omega,by go_num,HG.o.2,by rw[Ly.o.1];exact HG.o.1,Ly.o.2⟩
         case measure=>simp[intOf];omega
      ·obtain rfl:j=n2:=by omega
       have cb:b.ts.take j=b.ts:=by rw[HN.o.2];exact cO
       rw[cb]at au eA;have hE:R=(dD (b.fs.map (·.1)) && dD (b.ts.map (·.1))):=by rw[HR.o];unfold validB;rw[ZJ.o.2.2.1,eA];simp
       have HE:=ab hE;have C1:=t_ (b.fs.map (·.1)) (by simp;have:=HN.o.1;omega) wr u3 (Hl (ZJ.o.2.1.later ar).strs);have HS2:=ab (fun (W:World) (hb:Below wr.heap.size wr W)=>t_ (b.ts.map (·.1)) (by simp;have:=HN.o.2;omega) W u4 (Hl (au.later hb).strs));obtain ⟨B1,iJ⟩:=ao (dD (b.fs.map (·.1)));obtain ⟨B2,fH⟩:=ao (dD (b.ts.map (·.1)));rw[<-iJ,<-fH]at HE;rw[<-iJ]at C1;rw[<-fH]at HS2;have HS1:=ab C1;have dy:=ab (ZJ.o.2.2.2.tr ar);clear hE C1 iJ fH au eA ar cb
       cases B1 with
       | false=>
        go_wp2_with (go_at_call 70;refine HS1.o.mono ?_;rintro e w6 ⟨rfl,cI⟩;have H6:=ab cI;clear cI);go_ret;exact ⟨by rw[HE.o];rfl,dy.o.tr H6.o⟩
       | true=>
        go_wp2_with fail;refine HS1.o.mono ?_;rintro e w6 ⟨rfl,cI⟩;have H6:=ab cI;clear cI;go_wp2_with fail;refine (HS2.o w6 H6.o).mono ?_;rintro e w7 ⟨rfl,fD⟩;have H7:=ab (H6.o.tr fD);clear fD;go_wp2;go_ret;exact ⟨by rw[HE.o];rfl,dy.o.tr H7.o⟩):G:=h
theorem pm278(h:G:=by
 rw[ke br nk]at ht;obtain ⟨e,he⟩:=ao (mf ps.reverse xa[k] ya[k]);rw[<-he]at ht;obtain ⟨d0,d1,d2⟩:=kB ar c0 c1 c2
 first
 |clear pp278;have y2:wr.cell? ⟨w.heap.size+1,2,none⟩=some (.slice (some ⟨b',nh,none⟩) k0 vc):=aa fp (ah yI.o 2);have FE:(k:Int)<(k0:Int):=by omega
  have pp276:=();exact pm276
 |have y2:wr.cell? ⟨w.heap.size+1,2,none⟩=some (.slice (some ⟨b',nh,none⟩) k0 vc):=aa fp (ah HY.o 2);have FE:(k:Int)<(k0:Int):=by omega
  have HU:=ab (hu.later ar);have Bo:=ab (iA.later ar);have BO:=ab (HP.o.later ar);obtain ⟨Wl,Jw,Jy,dy,sU⟩:=vK qB rt he ar fp;have ru:=bE (aa ar mI) (aa ar nU) (aa ar nV);obtain ⟨Ea,HT⟩:=aZ y2 ht;clear hu iA qB rt he ar fp ht c0 c1 c2 mI nU nV;go_wp2;obtain ⟨W3,ec⟩:=ao (wr.alloc (.cells #[.bool u.v,.string u.n,.slice u.a u.l u.c] 43));have pp112b:=();exact pm112):G:=h
theorem pm279(h:G:=by
 go_wp2;rw[<-p_.o];go_roundw
 case rel=>exact ⟨k+1,by omega,by go_num,HG.o.1,HG.o.2⟩
 case measure=>simp[intOf];omega):G:=h
theorem pm280(h:G:=by
 have d0:=bj.cell ja.2 c0;have d1:=bj.cell ja.2 c1;have d2:=bj.cell ja.2 c2
 first
 |clear pp280a;have pp257:=();exact pm257
 |clear pp280b;have d3:=bj.cell ja.2 c3;have jb:=tN br;exact pm242
 |have d3:=bj.cell ja.2 c3;have jb:=oc (b:=bs') br;have Es:=dl br;have lG:=bS ss (k+1);have pp242:=();exact pm242):G:=h
theorem pm281(h:G:=by
 obtain ⟨wz,hwz⟩:=ao wr;subst hwz;obtain ⟨S,hS⟩:∃S:World->Prop,S=fun V=>Below W1.heap.size W1 V:=⟨_,rfl⟩
 first
 |clear pp281;have g0:=iW.o.2.1;have f0:∀ V,S V->V.cell? ⟨w.heap.size,0,none⟩=some (.slice (some ⟨b,off,none⟩) n1 qc):=fun V h=>by rw[hS]at h;exact aa h g0
  have ff:∀ V,S V->V.cell? ⟨b,off+k * 5,none⟩=some (.string ⟨nm.toArray⟩)/\V.cell? ⟨b,off+k * 5+1,none⟩=some (.int .u8 x.o)/\V.cell? ⟨b,off+k * 5+2,none⟩=some (.string x.n)/\V.cell? ⟨b,off+k * 5+3,none⟩=some (.slice x.a x.l x.c)/\V.cell? ⟨b,off+k * 5+4,none⟩=some (.slice x.b x.m x.e):=fun V h=>by
   rw[hS]at h;exact ⟨aa (iW.o.1.tr h) c0,aa (iW.o.1.tr h) c1,aa (iW.o.1.tr h) c2,aa (iW.o.1.tr h) c3,aa (iW.o.1.tr h) c4⟩
  have pp188:=();exact pm188
 |have g0:=iW.o.2.2;have f0:∀ V,S V->V.cell? ⟨w.heap.size,1,none⟩=some (.slice (some ⟨b,off,none⟩) n2 qe):=fun V h=>by rw[hS]at h;exact aa h g0
  have ff:∀ V,S V->V.cell? ⟨b,off+j * 4,none⟩=some (.string ⟨nm.toArray⟩)/\V.cell? ⟨b,off+j * 4+1,none⟩=some (.bool x.v)/\V.cell? ⟨b,off+j * 4+2,none⟩=some (.string x.n)/\V.cell? ⟨b,off+j * 4+3,none⟩=some (.slice x.a x.l x.c):=fun V h=>by
   rw[hS]at h;exact ⟨aa (iW.o.1.tr h) c0,aa (iW.o.1.tr h) c1,aa (iW.o.1.tr h) c2,aa (iW.o.1.tr h) c3⟩
  exact pm188):G:=h
theorem pm282(h:G:=by
 obtain ⟨x,y,fL,IU,ES,aO⟩:=jL HQ.o.2.2.1;rw[aO]at hE;obtain ⟨dc,xy⟩:=ao (cM x);rw[<-xy]at aO hE;have GZ:=gp ES
 first
 |clear pp282;have C7:=fv (.mk 16 n a ss) (by simp[Fm.a,fL]) (by simp[Fm.a,fL]) (fun t ht=>by
   have h2:=e_.1 HQ.o.2.2.2.2.2.2.1 t (by simpa[Fm.a] using ht);obtain ⟨tv,tn,ta⟩:=t;simp only[jN,ae,bw]at h2;have:=h2.1;simp only;omega) _ W2 ⟨16,⟨n.toArray⟩,sa,n1,sc,sb,m1,se⟩ HQ.o.1
  simp only[FQ.val,aO]at C7;have C7:=ab C7;exact pm221
 |have Ou:dc.length<=17:=by rw[xy];have:=iO IU;simp[cM];omega
  have FM:=fun (V:World) (h:Below W2.heap.size W2 V)=>fv (.mk 16 n a ss) (by simp[Fm.a,fL]) (by simp[Fm.a,fL]) (fun t ht=>by
   have h2:=e_.1 HQ.o.2.2.2.2.2.2.1 t (by simpa[Fm.a] using ht);obtain ⟨tv,tn,ta⟩:=t;simp only[jN,ae,bw]at h2;have:=h2.1;simp only;omega) _ V ⟨16,⟨n.toArray⟩,sa,n1,sc,sb,m1,se⟩ (HQ.o.1.later h)
  simp only[FQ.val,aO]at FM
  first
  |clear pp70;have HIN:=ab FM;have HY:=aC GZ Ou;have pp63:=();exact pm63
  |have k0:W2.cell? ⟨kb,0,none⟩=some (.map (some mF)):=ah H2.o.2.2.box 0;have k1:W2.drew.cell? ⟨kb,0,none⟩=some (.map (some mF)):=k0;have k3:W2.drew.cell? ⟨w.heap.size+1,1,none⟩=some (.string ⟨n.toArray⟩):=e1;have aJ:Below W2.heap.size W2 (W2.alloc (.cells #[.int .u8 0,.string ⟨#[]⟩,.slice none 0 0,.slice none 0 0] 36)):=cQ;obtain ⟨k4,k5⟩:=yR aJ k0 e1;have l1:=vE W2.drew rfl;have l2:=vE (W2.alloc (.cells #[.int .u8 0,.string ⟨#[]⟩,.slice none 0 0,.slice none 0 0] 36)).drew (bK _ _ _ (by omega));obtain ⟨W3,ec⟩:=ao (W2.alloc (.cells #[.int .u8 g0,.string g1,.slice g2 g3 g4,.slice g5 g6 g7] 36)).drew;have pW:Below W2.heap.size W2 W3:=by rw[ec];exact cQ.drew
   have x3:=bT pW H2.o.2.1;have y3:W3.heap[W2.heap.size]?=some (.cells #[.int .u8 g0,.string g1,.slice g2 g3 g4,.slice g5 g6 g7] 36 (0,0)):=by rw[ec];exact aj rfl
   obtain ⟨i0,i1,i2,i3,_,_,_,_⟩:=dh x3;obtain ⟨n0,ud⟩:=ao (iC dc f);have IN:n0<=400:=by have:=o6 dc f;have:=uI.o.2.2;omega
   have C7:=ab (FM W3 pW);have Ni:=ab (fun (V:World) (h:Below W3.heap.size W3 V)=>jv dc f uI.o.2.1 _ V ⟨g0,g1,g2,g3,g4,g5,g6,g7⟩ ((uI.o.1.later pW).later h));have FL:=ab (fun (V:World) (h:Below W3.heap.size W3 V)=>kI f uI.o.2.1 _ V ⟨g0,g1,g2,g3,g4,g5,g6,g7⟩ ((uI.o.1.later pW).later h));obtain ⟨nf,sW⟩:=ao (nodesF f);have hn5:nf<=400:=by have:=uI.o.2.2;omega
   simp only[FQ.val,<-ud,<-sW]at Ni FL;rw[<-ud,<-sW]at hE;have H3:=bE pW y3 (H2.o.2.2.later pW);have HE3:=ab hE;have HY:=bE GZ IN hn5;clear hE x3 y3 FM aO xy fL IU ES Ou ud sW pW aJ vE pS GZ IN hn5 G1 Et J3;go_enter Tryz.func126,Tryz.ntmps126;go_upto_region 2 with fail;rw[<-gF.o];go_upto_region 6 with fail;go_region
   all_goals
    rw[<-ec];clear ec l1 l2 k0 k1 k3 k4 k5 e0 e1 e2 e3;go_upto_region 8 with (go_at_call 96;refine C7.o.mono ?_;rintro e w4 ⟨rfl,aP⟩;have H4:=ab aP;clear aP);clear i0 i1 i2 i3;have y4:=bT H4.o H3.o.2.1;obtain ⟨j0,j1,j2,j3,_,_,_,_⟩:=dh y4;have ZC:=ab (Ni.o w4 H4.o);clear y4;go_upto_region 9 with (go_at_call 97;refine ZC.o.mono ?_;rintro e w5 ⟨rfl,bi⟩;have H5:=ab (H4.o.tr bi);clear bi);clear j0 j1 j2 j3;have y5:=bT H5.o H3.o.2.1
    by_cases h0:n0=0
    ·subst h0;obtain ⟨j0,j1,j2,j3,_,_,_,_⟩:=dh y5;have HC6:=ab (FL.o w5 H5.o);have rA:=ab (show R=nf by rw[HE3.o];simp);clear y5;go_wp2_with (go_at_call 99;refine HC6.o.mono ?_;rintro e w6 ⟨rfl,cI⟩;have H6:=ab cI;clear cI);go_ret;exact ⟨by rw[rA.o];rfl,(H2.o.1.tr H3.o.1).tr (H5.o.tr H6.o)⟩
    ·have pF:((n0:Int) == 0)=false:=by simp;omega
     have iq:¬((n0:Int)=0):=by omega
     exact pm135):G:=h
theorem pm283(h:G:=by
 go_enter Tryz.func92,Tryz.ntmps92
 first
 |clear pp283a
  by_cases dK:xn=yn
  ·subst dK;have gx:(xn == xn)=true:=by simp
   have lg:(!(xn == xn))=false:=by simp
   have lw:=cJ;have vI:=HX;have yI:=HY;have Bq:=ab (HP.o.later cJ.o);cases qb
   ·have HM:Hd (R=(dH ps.reverse xa ya && ee ps.reverse xs ys)):=ab (by rw[hm];simp);clear hm;go_wp2;rw[<-gF.o];go_loopw [47] (fun i wr=>∃k:Nat,k<=k0/\i=.int .i64 k/\Below W2.heap.size W2 wr/\R=(dH ps.reverse (xa.drop k) (ya.drop k) && ee ps.reverse xs ys)) (fun i _=>k0 - (intOf i).toNat)
    case atStart=>exact ⟨0,bc _,rfl,ak _ _,by simpa using HM.o⟩
    case round=>
     have pp2a:=();exact pm2
   ·have HM:Hd (R=(dH ps.reverse xa ya && ee (ps ++ [(xn,xn)]).reverse xs ys)):=ab (by rw[hm];simp);clear hm;go_wp2;rw[<-gF.o];go_loopw [47] (fun i wr=>∃k:Nat,k<=k0/\i=.int .i64 k/\Below W2.heap.size W2 wr/\R=(dH ps.reverse (xa.drop k) (ya.drop k) && ee (ps ++ [(xn,xn)]).reverse xs ys)) (fun i _=>k0 - (intOf i).toNat)
    case atStart=>exact ⟨0,bc _,rfl,ak _ _,by simpa using HM.o⟩
    case round=>
     have pp2b:=();exact pm2
  ·have gx:(xn == yn)=false:=by simpa using dK
   have lg:(!(xn == yn))=true:=by simpa using dK
   rw[gx,Bool.false_or]at WY;subst WY;have HM:Hd (R=(dH ps.reverse xa ya && ee (ps ++ [(xn,yn)]).reverse xs ys)):=ab (by rw[hm];simp);clear hm;go_wp2_with (go_at_call 93;refine (U4.o _).mono ?_;rintro e X0 ⟨rfl,ob⟩;have PX:Below W2.heap.size W2 X0:=(by rw[gF.o];exact ob);have vI:=ab (bT PX HX.o);have yI:=ab (bT PX HY.o);have Bq:=ab ((HP.o.later cJ.o).later PX);have lw:=ab (cJ.o.trans (PX.mono cJ.o.size));have z2:X0.cell? ⟨w.heap.size,2,none⟩=some (.slice ua k0 uc):=ah vI.o 2;clear ob PX);clear z2;go_loopw [47] (fun i wr=>∃k:Nat,k<=k0/\i=.int .i64 k/\Below X0.heap.size X0 wr/\R=(dH ps.reverse (xa.drop k) (ya.drop k) && ee (ps ++ [(xn,yn)]).reverse xs ys)) (fun i _=>k0 - (intOf i).toNat)
   case atStart=>exact ⟨0,bc _,rfl,ak _ _,by simpa using HM.o⟩
   case round=>
    exact pm2
 |clear pp283b;go_wp2_with (go_at_call 93;refine (U4.o _).mono ?_;rintro e X0 ⟨rfl,ob⟩;have GA:Hd (Below W2.heap.size W2 X0):=ab (by rw[gF.o];exact ob);clear ob);go_ret;exact ⟨aK HE.o.symm,cJ.o.trans (GA.o.mono cJ.o.size)⟩
 |by_cases h1:uo=vo
  ·subst h1;have e0:(uo == uo)=true:=by simp
   have e1:(uo != uo)=false:=by simp
   by_cases h2:k0=m0
   ·subst h2;have h3:¬k1=m1:=fun h=>MM ⟨rfl,rfl,h⟩;have e2:((k0:Int) != (k0:Int))=false:=by simp
    have e3:((k1:Int) == (m1:Int))=false:=by simp;omega
    have e4:((k1:Int) != (m1:Int))=true:=by simp;omega
    go_wp2;rw[<-gF.o];go_ret;exact ⟨aK HE.o.symm,cJ.o⟩
   ·have e2:((k0:Int) == (m0:Int))=false:=by simp;omega
    have e3:((k0:Int) != (m0:Int))=true:=by simp;omega
    go_wp2;rw[<-gF.o];go_ret;exact ⟨aK HE.o.symm,cJ.o⟩
  ·have e0:(uo == vo)=false:=by simpa using h1
   have e1:(uo != vo)=true:=by simpa using h1
   go_wp2;rw[<-gF.o];go_ret;exact ⟨aK HE.o.symm,cJ.o⟩):G:=h
theorem pm284(h:G:=by
 have h1:aw a=aw (a.take (k+1)) ++ aw (a.drop (k+1)):=by
  conv=>lhs;rw[<-List.take_append_drop (k+1) a]
  exact fQ _ _
 first
 |clear pp284;have h2:=nS.o;rw[h1,jb]at h2;obtain ⟨r,rfl⟩:=h2;exact ⟨aw (a.drop (k+1)) ++ r,by simp⟩
 |rw[h1,jb];exact ⟨_,rfl⟩):G:=h
theorem pm285(h:G:=by
 exact bI (v:=.bool true) (by simp[results,Tryz.results5,go_sem,tr]) YU ⟨rfl,YV⟩):G:=h
theorem pm286(h:G:=by
 exact bI (v:=.bool true) (by simp[results,Tryz.results5,go_sem,tr]) YY ⟨rfl,YZ⟩):G:=h
theorem pm287(h:G:=by
 have HE:=ab (show R=(gB,2) by rw[HR.o];rfl);go_enter Tryz.func32,Tryz.ntmps32
 first
 |clear pp287;go_wp2_with (rw[<-gF.o];go_at_call 26;refine tE.o.mono ?_;rintro e w4 ⟨rfl,aP⟩;have x4:=bT aP HB.o.2.2.2.2;obtain ⟨i0,i1,i2,i3,z0,z1,z2,z3⟩:=dh x4;have Kn:=ab x4;have H4:=ab aP;clear aP x4);exact pm45
 |go_wp2_with (first | (rw[<-gF.o];go_at_call 26;refine tE.o.mono ?_;rintro e w3 ⟨rfl,aJ⟩;have x3:=bT aJ HB.o.2.2.2.1;have j0:=ah x3 0;have j1:=ah x3 1;have H3:=ab aJ;clear aJ x3) | (go_at_call 27;refine (XO.o _ H3.o).mono ?_;rintro e w4 ⟨rfl,aP⟩;have x4:=bT (H3.o.tr aP) HB.o.2.2.2.2;obtain ⟨i0,i1,i2,i3,z0,z1,z2,z3⟩:=dh x4;have Kn:=ab x4;have H4:=ab (H3.o.tr aP);clear aP x4));exact pm45):G:=h
theorem pm288(h:G:=by
 obtain ⟨k,hk,rfl,ar,ht⟩:=hrel
 by_cases hlt:k<k0
 first
 |clear pp288a
  ·have br:=ct dJ.o hlt;have pp177a:=();exact pm177
  ·obtain rfl:k0=k:=by omega
   have HE:=ab (show R=none by rw[ht,jk (by rw[dJ.o];exact aF _)];simp[eC]);have HB:=ab ar;clear ar ht;go_wp2;go_ret;exact ⟨⟨_,rfl,by rw[HE.o];exact IntsV.nil _⟩,HB.o⟩
 |clear pp288b
  ·have br:=ct dJ.o hlt;obtain ⟨b,off,u,rfl,_,hu,c0,c1,c2,c3⟩:=Uy.o.get br;have hf:=HF.o.mem (az br);have qB:=fd.o xs[k] (az br);rw[Gw br]at ht;exact pm181
  ·obtain rfl:k0=k:=by omega
   have HE:=ab (show R=none by rw[ht,jk (by rw[dJ.o];exact aF _)];simp[mg]);have HB:=ab ar;clear ar ht;go_wp2;refine bI (v:=.tuple #[.slice none 0 0,.slice none 0 0]) (by simp[results,Tryz.results165,go_sem]) rfl ⟨⟨_,_,rfl,?_,?_⟩,HB.o⟩
   ·rw[HE.o];exact IntsV.nil _
   ·rw[HE.o];exact IntsV.nil _
 |clear pp288c
  ·have br:=ct dJ.o hlt;have nk:k<m.length:=by rw[<-ib.o,<-HKM.o];exact hlt
   have WT:k<m0:=by rw[<-HKM.o];exact hlt
   have pp247:=();exact pm247
  ·obtain rfl:k=k0:=by omega
   have he:R=0:=by rw[ht,jk (by rw[dJ.o];exact aF _),zS]
   obtain ⟨HE,HB⟩:=aZ he ar;clear he ar ht;go_wp2;go_ret;exact ⟨rn HE.o.symm,HB.o⟩
 |clear pp288d
  ·have br:=ct dJ.o hlt;have nk:=ct WH.o br;exact pm247
  ·obtain rfl:k=k0:=by omega
   have pp176:=();exact pm176
 |·have br:=ct dJ.o hlt;have nk:=ct WH.o br;obtain ⟨b,off,u,rfl,_,hu,c0,c1,c2,c3⟩:=HL.o.get br;obtain ⟨b',nh,u',rfl,_,iA,mI,nU,nV,GR⟩:=HM.o.get nk;have hf:=HF.o.mem (az br);have qB:=fd.o l[k] (az br);have f0:=fun x:Later wr=>x.get (aa ar c0);have f1:=fun x:Later wr=>x.get (aa ar c1);have f2:=fun x:Later wr=>x.get (aa ar c2);have f3:=fun x:Later wr=>x.get (aa ar c3);have f4:=fun x:Later wr=>x.get (aa ar mI);have f5:=fun x:Later wr=>x.get (aa ar nU);have f6:=fun x:Later wr=>x.get (aa ar nV);have f7:=fun x:Later wr=>x.get (aa ar GR);have FE:(k:Int)<(k0:Int):=by omega
   obtain ⟨HB,HT⟩:=aZ ar ht;have jD:∀ (h:l[k]≠m[k]),nM l m=false:=fun h=>by
    cases he:nM l m with
    | false=>rfl
    | true=>exact absurd (by rw[List.getElem_of_eq ((nX _ _).1 he)]) h
   have HNe:=ab jD;have CC:=fun (x:Later wr)=>qB m[k] ok ok' x.w u u' hf ((hu.later ar).later x.below) ((iA.later ar).later x.below);obtain ⟨R,hR⟩:=ao (vP l[k] m[k]);rw[<-hR]at CC;obtain ⟨HC,HR⟩:=aZ CC hR;clear hu iA qB hf ar ht jD hR CC c0 c1 c2 c3 mI nU nV GR;have pp103a:=();exact pm103
  ·obtain rfl:k=k0:=by omega
   exact pm176):G:=h
theorem pm289(h:G:=by
 go_enter Tryz.func242,Tryz.ntmps242;go_wp2;go_ret
 first
 |clear pp289;simp
 |refine ⟨aK ?_,rfl⟩;rw[OP,gA];simp):G:=h
theorem pm290(h:G:=by
 have XJ:((m0:Int) != (r4:Int))=true:=by simp;omega
 have HE:Hd (BX=false):=ab (hM.trans (by simp[Ts]));exact pm6):G:=h
theorem pm291(h:G:=by
 intro c L ok w vL q cK hL Ta Qg hq;obtain ⟨so,sn,sa,sl,sc,sb,sm,se⟩:=q;obtain ⟨v1,v2,h1,gI,lh⟩:=aW.1 hq
 first
 |clear pp291;have pp32i:=();exact pm32
 |have pp32j:=();exact pm32):G:=h
theorem pm292(h:G:=by
 rcases hs with hs | ⟨b,off,ha,hok,hc⟩
 ·exact .inl hs
 first
 |clear pp292a
  ·by_cases h0:al=[]
   ·exact .inl h0
   ·have hk:=hb b hok (C0 (hc 0 (ie.2 h0)));exact pm271
 |clear pp292b
  ·by_cases h0:ss=[]
   ·exact .inl h0
   ·have hk:=hb b hok (C4 (hc 0 (ie.2 h0)));exact pm271
 |clear pp292c
  ·exact .inr ⟨b,off,ha,hok,fun j hj=>(hc j hj).nw hn⟩
 |first
  |clear pp220
   ·by_cases h0:l=[]
    ·exact .inl h0
    ·have hk:=hb b hok (C0 (hc 0 (ie.2 h0)));exact pm271
  |·by_cases h0:l=[]
    ·exact .inl h0
    ·have hk:=hb b hok (C4 (hc 0 (ie.2 h0)));exact pm271):G:=h
theorem pm293(h:G:=by
 rw[HE.o];exact H6.o.2.1.move (fun b hb hlt=>⟨aQ H5.o.1.size hb,k8.same b hlt (by have:=(bn H5.o.2);omega)⟩)):G:=h
theorem pm294(h:G:=by
 rintro X Y hn ⟨h1,h2,h3,h4⟩;exact ⟨h1,h2,hn.cells h3,nu h4 hn⟩):G:=h
theorem pm295(h:G:=by
 simp only[execOp,resolve,invoke,builtin,List.length_nil]at hr e2' ⊢;simp[hr,Result.andThen,Act.eval,e1',e2']):G:=h
theorem pm296(h:G:=by
 obtain ⟨k0,cg⟩:=ao l.length;rw[<-cg]at cf ⊢;obtain ⟨dJ,HL,fd,HF⟩:=eR cg hl ih aA;clear cg hl ih aA
 first
 |clear pp296;go_enter Tryz.func164,Tryz.ntmps164;go_wp2;go_loopw [5,10] (fun r i wr=>∃k:Nat,k<=k0/\i=.int .i64 k/\Below w.heap.size w wr/\r=.int .i64 (fG x (l.take k))) (fun _ i _=>k0 - (intOf i).toNat)
  case atStart=>exact ⟨0,bc _,rfl,ak _ _,by simp[fG]⟩
  case round=>
   obtain ⟨k,hk,rfl,ar,rfl⟩:=hrel
   by_cases hlt:k<k0
   ·have br:=ct dJ.o hlt;have pp177b:=();exact pm177
   ·obtain rfl:k=k0:=by omega
    have h1:l.take k=l:=by rw[dJ.o];exact cO
    rw[h1];have HB:=ab ar;clear h1 ar;go_wp2;go_ret;exact ⟨rfl,HB.o⟩
 |go_enter Tryz.func54,Tryz.ntmps54;go_wp2;go_loopw [5,6] (fun r i wr=>∃k m:Nat,k<=k0/\i=.int .i64 k/\r=.int .i64 m/\Below w.heap.size w wr/\jr l left 0=jr (l.drop k) left m/\m<=100002000000) (fun _ i _=>k0 - (intOf i).toNat)
  case atStart=>exact ⟨0,0,bc _,rfl,rfl,ak _ _,by simp,by omega⟩
  case round=>
   obtain ⟨k,m,hk,rfl,rfl,ar,hcut,Bn⟩:=hrel
   by_cases hlt:k<k0
   ·by_cases pS:(m:Int)<=left
    ·have br:=ct dJ.o hlt;exact pm177
    ·have G5:decide ((m:Int)<=left)=false:=by simp;omega
     have FE:decide ((k:Int)<(k0:Int))=true:=by simp;omega
     have he:=hcut.trans (KF _ pS);obtain ⟨HE,HB⟩:=aZ he ar;clear he hcut ar;go_wp2;go_ret;exact ⟨rn (by rw[HE.o]),HB.o⟩
   ·obtain rfl:k=k0:=by omega
    have hd:l.drop k=[]:=by rw[dJ.o];exact List.drop_length
    rw[hd]at hcut;have he:jr l left 0=m:=hcut;obtain ⟨HE,HB⟩:=aZ he ar;clear he hcut ar hd;go_wp2;go_ret;exact ⟨rn (by rw[HE.o]),HB.o⟩):G:=h
theorem pm297(h:G:=by
 have e:cH k c (.mk o n [] [g])=na o n [] (cH k (n :: c) g):=by
  simp only[cH,aD kt,aD gW,aX hq,eu,cR]
 rw[e]
 first
 |clear pp297;generalize cH k (n :: c) g=r at i1 i2;unfold na;generalize (if (a_ [] r).contains n then dN (a_ [] r) else n)=m';obtain ⟨p1,p2,_⟩:=gR (depthF r) r (cM n) m' i1 i2 (aF _);exact ⟨by simp[lL,gG,fR,iD,p1],by simp[qone,ep,iD,p2]⟩
 |generalize cH k (n :: c) g=r at ih iw;have hm:=Kd (n:=n) (r:=r) dK.2.1 (by omega);unfold na;generalize (if (a_ [] r).contains n then dN (a_ [] r) else n)=m' at hm;have hp:=uE (depthF r) r (cM n) (am m') iw.1 iw.2 (aF _);have hv:nodesT (am m')=1:=by simp[am,nodesT,nodesTs]
  have J1:=oU (depthF r) r (cM n) (am m') iw.1 iw.2 (aF _) (by rw[hv];omega) ih.2 (wi hm);rw[hv]at hp;refine ⟨?_,?_⟩
  ·simp only[nodesF,nodesTs,nodesFs,iD];omega
  ·simp only[kT,nmTs,nmFs,iD,J1,Bool.and_true,ae,bw];exact ⟨dK.1,hm⟩):G:=h
