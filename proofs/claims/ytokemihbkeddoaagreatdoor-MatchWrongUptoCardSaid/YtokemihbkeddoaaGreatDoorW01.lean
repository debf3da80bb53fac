/-
Runs of tactics that several proofs share.
-/
import Derived.Test.YtokemihbkeddoaaGreatDoorW00
namespace Go.Proofs.YtokemihbkeddoaaGreatDoor
open Go Go.RowKit Lib
set_option maxRecDepth 100000
variable {G:Prop}
theorem pm79(h:G:=by
 have c0:W.cell? ⟨X,0,none⟩=some (.int .u8 q.o):=ah yd 0;have c1:W.cell? ⟨X,1,none⟩=some (.string q.n):=ah yd 1;have c2:W.cell? ⟨X,2,none⟩=some (.slice q.a q.l q.c):=ah yd 2;have c3:W.cell? ⟨X,3,none⟩=some (.slice q.b q.m q.e):=ah yd 3
 first
 |clear pp79a;have OX:∀ b,M b->b<W.heap.size:=fun b hb=>bN (hM b hb) hk.size;have CC:=MD f aA M B l J (kE f) [] W q OX hJ (fun pre vs x W1 h1 h2 h3 h4=>by
   obtain ⟨fn,tmps,assign,body,hy,hR⟩:=hY pre vs x W1 h1 h2 h3 h4;refine ⟨fn,tmps,assign,body,hy,hR.mono ?_⟩;rintro e W' (h | ⟨h,_⟩)
   ·exact h
   ·exact h.elim) (hq.kp hk) (by simp) hj
  have HC:=ab CC;clear CC hY hJ hj hX yd hq OX;unfold FQ.val at HC;go_enter Tryz.func150,Tryz.ntmps150;go_wp2_with (go_at_call 151;refine HC.o.mono ?_;rintro e W2 ⟨rfl,sH,fW⟩);exact ⟨rfl,.tuple #[],by simp[results,Tryz.results150,go_sem],⟨_,rfl⟩,.inl ⟨by simpa using sH,fW⟩⟩
 |clear pp79b;have OX:∀ b,M b->b<W.heap.size:=fun b hb=>bN (hM b hb) hk.size;have hB:Below W.heap.size W (W.alloc (.map #[] 0)):=cQ;have CC:=BZ f aA M B l J (a_ [] f) [] W (W.alloc (.map #[] 0)) q W.heap.size 0 [] OX (aF _) hJ (fun pre vs x W1 h1 h2 h3 h4=>by
   obtain ⟨fn,tmps,assign,body,hy,hR⟩:=hY pre vs x W1 h1 h2 h3 h4;refine ⟨fn,tmps,assign,body,hy,hR.mono ?_⟩;rintro e W' (h | ⟨h,_⟩)
   ·exact h
   ·exact h.elim) (hq.kp hk) (Kp.below hB) (BoundW.made W) (by omega) (by simp;omega) (by simp) (hJ _ _ _ (Nw.below hB) hj)
  have HC:=ab CC;clear CC hY hJ hj hX yd hq OX hB;unfold FQ.val at HC;go_enter Tryz.func148,Tryz.ntmps148;go_wp2_with (go_at_call 149;refine HC.o.mono ?_;rintro e W2 ⟨rfl,sH,fW,_,_⟩);exact ⟨rfl,.tuple #[],by simp[results,Tryz.results148,go_sem],⟨_,rfl⟩,.inl ⟨by simpa using sH,fW⟩⟩
 |have e0:W.cell? ⟨Y,0,none⟩=some (.int .u8 r.o):=ah hYW 0;have e1:W.cell? ⟨Y,1,none⟩=some (.string r.n):=ah hYW 1;have e2:W.cell? ⟨Y,2,none⟩=some (.slice r.a r.l r.c):=ah hYW 2;have e3:W.cell? ⟨Y,3,none⟩=some (.slice r.b r.m r.e):=ah hYW 3;have OX:∀ b,M b->b<W.heap.size:=fun b hb=>bN (hM b hb) hk.size;have CC:=JS s f aA [] (by simpa using JL) M B l J Jx (bJ [] s f) [] W ⟨q,r,none,0,0⟩ OX ⟨hl,Zi⟩ hJ hJx (fun pre vs x W1 h1 h2 h3 h4=>by
   obtain ⟨fn,tmps,assign,body,hy,hR⟩:=hY pre vs x W1 h1 h2 h3 h4;refine ⟨fn,tmps,assign,body,hy,hR.mono ?_⟩;rintro e W' (h | ⟨_,h⟩)
   ·exact .inl h
   ·exact .inr h) (hq.kp hk) (hr.kp hk) ⟨⟨none,0,rfl,aF _,.inl ⟨rfl,rfl,rfl⟩⟩,fun b h=>by simp[Value.ownBlock]at h⟩ (by simp) hj
  have HSp:=ab (show ∀ (e:Ending) (W2:World),((e=.returned (.bool true)/\J ([] ++ bJ [].reverse s f) W2/\Kp M W W2)\/(e=.returned (.bool false)/\∃Ey,Ey <+: bJ [] s f/\Jx Ey W2/\KpFrom M (l+1) W W2))->∃bb:Bool,e=.returned (.bool bb)/\((J (bJ [] s f) W2/\Kp M W W2)\/(True/\∃pre,pre <+: bJ [] s f/\Jx pre W2/\KpFrom M (l+1) W W2)) by
   rintro e W2 (⟨rfl,h,h'⟩ | ⟨rfl,h⟩)
   ·exact ⟨true,rfl,.inl ⟨by simpa using h,h'⟩⟩
   ·exact ⟨false,rfl,.inr ⟨trivial,h⟩⟩)
  have HC:=ab CC;clear CC hY hJ hJx hj hX yd hY0 hYW hq hr OX;simp only[PlQ.val,PlQ.cells]at HC;go_enter Tryz.func102,Tryz.ntmps102;go_wp2_with (go_at_call 103;refine HC.o.mono ?_;rintro e W2 h2;obtain ⟨bb,rfl,h3⟩:=HSp.o e W2 h2;have H2:=ab h3;clear h2 h3);exact ⟨rfl,.tuple #[],by simp[results,Tryz.results102,go_sem],⟨_,rfl⟩,H2.o⟩):G:=h
theorem pm80(h:G:=by
 rw[yi.o]at e0 e1 e2 f0 f1 f2;exact pm152):G:=h
theorem pm81(h:G:=by
 obtain ⟨HR,HC,kD⟩:=cD hrel fh bj;clear hrel fh cK oJ y' F' jb nC ha hb hc hj bj hu iA c0 c1 c2 c3;go_wp2_with (go_at_call 64;refine HC.o.mono ?_;rintro e w6 ⟨rfl,mZ,l6,As,EZ,pf,ki⟩;have qW:=bE mZ As (ki rfl);clear mZ As EZ pf ki);go_roundw
 case rel=>exact ⟨k+1,by omega,by go_num,kD.o.trans ((Kp.below cQ).trans qW.o.1),by rw[<-HR.o.2.2.2,<-qW.o.2.2];exact qW.o.2.1,HR.o.1,HR.o.2.1,HR.o.2.2.1⟩
 case measure=>simp[intOf];omega):G:=h
theorem pm82(h:G:=by
 go_enter Tryz.func122,Tryz.ntmps122
 first
 |clear pp82a;go_wp2_with (first | (go_at_call 115;refine C1.o.mono ?_;rintro e w' ⟨rfl,rfl⟩) | (go_at_call 152;refine (CV.o _).mono ?_;rintro e w3 ⟨rfl,aJ⟩));go_ret;exact JPost.yes HE.o (oK.o.1.trans (Kp.below aJ)) (oK.o.2.1.later aJ) (by show ((1:Nat):Int)<=left;omega)
 |clear pp82b;go_wp2_with (first | (go_at_call 115;refine C1.o.mono ?_;rintro e w' ⟨rfl,rfl⟩) | (go_at_call 152;refine (CV.o _).mono ?_;rintro e w3 ⟨rfl,aJ⟩;have j0:=(oK.o.2.1.later aJ).c0;have bM:=ab aJ;clear aJ));go_ret;exact JPost.no HE.o (oK.o.1.trans (Kp.below bM.o)) (oK.o.2.1.later bM.o) (by omega) (by omega)
 |clear pp82c;go_wp2_with (go_at_call 115;refine C1.o.mono ?_;rintro e w' ⟨rfl,rfl⟩);go_ret;exact JPost.no HE.o oK.o.1 oK.o.2.1 (by omega) (by omega)
 |clear pp82d;go_wp2_with (first | (go_at_call 115;refine C1.o.mono ?_;rintro e w' ⟨rfl,rfl⟩) | (go_at_call 121;refine (CF.o _).mono ?_;rintro e w3 ⟨rfl,aJ⟩;have bM:=ab aJ;clear aJ));go_ret;exact JPost.no HE.o (oK.o.1.trans (Kp.below bM.o)) (oK.o.2.1.later bM.o) (by omega) (by omega)
 |clear pp82e;go_wp2_with (go_at_call 115;refine C1.o.mono ?_;rintro e w' ⟨rfl,rfl⟩);go_ret;exact JPost.no (l:=left - 1) HE.o ((oI _).trans (Kp.below cQ)) ((HJ.o.set _).later cQ) (by omega) (by omega)
 |clear pp82f;go_wp2_with (first | (go_at_call 115;refine C1.o.mono ?_;rintro e w' ⟨rfl,rfl⟩) | (go_at_call 152;refine (CV.o _).mono ?_;rintro e w3 ⟨rfl,aJ⟩;have j0:=(oK.o.2.1.later aJ).c0;have j1:=aa aJ g1;have bM:=ab aJ;clear aJ) | (go_at_call 186;refine (CT.o _).mono ?_;rintro e w4 ⟨rfl,aP⟩;have eL:=ab aP;clear aP));go_ret
  first
  |clear pp60;exact JPost.yes HE.o ((oK.o.1.trans (Kp.below bM.o)).trans (Kp.below eL.o)) ((oK.o.2.1.later bM.o).later eL.o) (by show ((1:Nat):Int)<=left;omega)
  |exact JPost.no HE.o ((oK.o.1.trans (Kp.below bM.o)).trans (Kp.below eL.o)) ((oK.o.2.1.later bM.o).later eL.o) (by omega) (by omega)
 |go_wp2_with (first | (go_at_call 115;refine C1.o.mono ?_;rintro e w' ⟨rfl,lH⟩;obtain rfl:=lH.symm) | (go_at_call 121;refine (CF.o _).mono ?_;rintro e w3 ⟨rfl,aJ⟩;have j2:=aa aJ g2;have bM:=ab aJ;clear aJ) | (go_at_call 118;refine (CJ.o _ bM.o).mono ?_;rintro e w4 ⟨rfl,j7,l4,hj4,FZ,OV,F_⟩;have HH:=fA j7 hj4 FZ OV F_;clear j7 hj4 FZ OV F_));go_ret
  first
  |clear pp71;have h7:=HH.o.2.2.2.2 trivial;have qw:(nodesTs a:Int)<=left - 1:=by have:=HH.o.2.2.1;have h8:=HE.o;rw[ae,ae,bw]at h8;have:nodesT (.mk false n a)=nodesTs a+1:=rfl;omega
   refine JPost.yes HE.o ((oK.o.1.trans (Kp.below bM.o)).trans HH.o.1) ?_ (by show ((nodesTs a+1:Nat):Int)<=left;omega);have h9:=HH.o.2.1;have:l4=left - (nodesT (.mk false n a):Nat):=by show l4=left - ((nodesTs a+1:Nat):Int);omega
   rw[<-this];exact h9
  |exact JPost.no HE.o ((oK.o.1.trans (Kp.below bM.o)).trans HH.o.1) HH.o.2.1 HH.o.2.2.1 (by have:=HH.o.2.2.2.1;omega)):G:=h
theorem pm83(h:G:=by
 go_roundw
 case rel=>
  obtain ⟨aR,ap,hg,_⟩:=HG.o;have cV:=eW.o.stepF (F:=3) (t:=u') (p:=⟨po,pn,pa,pl,pc,pb,pm,pe⟩) (g:=g) (cap:=eG) (by rw[uf.o.2];exact zG.o.2.1) (by rw[uf.o.2];exact zG.o.1) zG.o.2.2 JD.o.2 JD.o.1 (by rw[uf.o.2];exact aR) ap (by rcases hg with h | h;exact .inl h;exact .inr (by simp;omega)) rfl;rw[uf.o.2]at cV;exact ⟨k+1,by omega,by go_num,_,us ++ [u'],cV,uf.o.1,by rw[di,uf.o.2];rfl⟩
 case measure=>simp[intOf];omega):G:=h
theorem pm84(h:G:=by
 have e0:=ah h4 0;have e1:X.drew.cell? ⟨aB+1,0,none⟩=some (.int .i64 er):=ah h4 0;have e2:=ah h5 0;have e3:X.drew.cell? ⟨aB,0,none⟩=some (.int .i64 j):=ah h5 0;have jD:(er == 0)=false:=by simp[h2]
 have xR:=(h6.same _ (bn vI.o) Bs.o.2).trans vI.o;obtain ⟨y0,y1,z0,z1⟩:=tb xR;have xRd:X.drew.heap[w.heap.size+1]?=some (.cells #[.slice none 0 0,.slice none 0 0] 26 (0,0)):=xR;obtain ⟨y2,y3,z2,z3⟩:=tb xRd;exact pm20):G:=h
theorem pm85(h:G:=by
 have cv:Below wr.heap.size wr A:=((ak wr.heap.size wr).drew).trans hA;refine hK _ _ (fun _=>by rw[du.o];exact cv) (fun _=>?_);clear hK K;refine ce 10 rfl fun K hK=>?_;go_simp;refine hK _ _ (fun _=>by rw[du.o];exact cv) (fun _=>?_);clear hK K;refine ce 11 rfl fun K hK=>?_;go_simp;refine hK _ _ (fun _=>by rw[du.o];exact cv.alloc cv.size _) (fun _=>?_);clear hK K;obtain ⟨qs,ew,au,gh⟩:=HF.o.row;rw[eh.o]at ew au;have oG:=cv.size
 first
 |clear pp85;have sE:=HF.o.size;refine ce 12 rfl fun K hK=>?_;refine bB (.tmp 20) (.tmp 30) 23 rfl W3.heap.size 40 pY (.agg #[.string ByteArray.empty,.int .u8 0,.string ByteArray.empty,.slice none 0 0,.slice none 0 0]) 5 88 Tryz.underlying23 hi yF vX yX rfl (by decide) (.slice ra j rc) j _ rfl ((bh au (fun b _ hlt=>cv.block b hlt)).alloc _) ⟨_,0,none⟩ 1 1 (BF (nm,⟨p0,p1,p2,p3,p4,p5,p6,p7⟩)) rfl rfl (dj (cs:=#[.string ⟨nm.toArray⟩,.int .u8 p0,.string p1,.slice p2 p3 p4,.slice p5 p6 p7]) (t:=40) (fr:=(0,0)) (fO A _)) (by simp[BF,FQ.cells,Value.oneCell']) (by decide) (by unfold maxLen;omega) (by omega) (by simp;omega) (A.heap.size+1) (by simp) ?_;intro g eG w4 aR ap hg ev;have h4:=HF.o.at4 (kk:=0) au cv ap;have cV:=HF.o.stepFB (F:=0) (x:=nm) (t:=k.fs[j].2) (g:=g) (cap:=eG) (by rw[eh.o];exact au) (by rw[eh.o];exact ew) gh cv (show FormV (wr.heap.size<=·) A (FQ.val ⟨p0,p1,p2,p3,p4,p5,p6,p7⟩) k.fs[j].2 from hp) (by rw[eh.o];exact aR) ap hg rfl;rw[eh.o,Sb.o]at cV;have oH:=ab cV;have d3:=h4.2.2;have z3:=h4.2.1;clear aR ap hg ev cV h4 au ew gh hp hA;refine eS hK ?_;clear hK K;refine ce 13 rfl fun K hK=>?_;go_simp;refine eS hK ?_;clear hK K;refine ce 14 rfl fun K hK=>?_;go_simp;refine eS hK ?_;clear hK K;refine le ?_;clear ff dW;go_wp2;go_roundw
  case rel=>exact ⟨j+1,by omega,by go_num,_,oH.o⟩
  case measure=>simp[intOf];omega
 |have sE:=HF.o.size;refine ce 12 rfl fun K hK=>?_;refine bB (.tmp 46) (.tmp 56) 24 rfl W6.heap.size 47 Ec (.agg #[.string ByteArray.empty,.bool false,.string ByteArray.empty,.slice none 0 0]) 4 64 Tryz.underlying24 hq hqa Ot hqc rfl (by decide) (.slice ra j rc) j _ rfl ((bh au (fun b _ hlt=>cv.block b hlt)).alloc _) ⟨_,0,none⟩ 1 1 (BT (nm,⟨p0,p1,p2,p3,p4⟩)) rfl rfl (dj (cs:=#[.string ⟨nm.toArray⟩,.bool p0,.string p1,.slice p2 p3 p4]) (t:=47) (fr:=(0,0)) (fO A _)) (by simp[BT,TQ.cells,Value.oneCell']) (by decide) (by unfold maxLen;omega) (by omega) (by simp;omega) (A.heap.size+1) (by simp) ?_;intro g eG w4 aR ap hg ev;have h4:=HF.o.at4 (kk:=1) au cv ap;have cV:=HF.o.stepTB (F:=1) (x:=nm) (t:=k.ts[j].2) (g:=g) (cap:=eG) (by rw[eh.o];exact au) (by rw[eh.o];exact ew) gh cv (show TermV (wr.heap.size<=·) A (TQ.val ⟨p0,p1,p2,p3,p4⟩) k.ts[j].2 from hp) (by rw[eh.o];exact aR) ap hg rfl;rw[eh.o,Sb.o]at cV;have oH:=ab cV;have d3:=h4.2.2;have z3:=h4.2.1;clear aR ap hg ev cV h4 au ew gh hp hA;refine eS hK ?_;clear hK K;refine ce 13 rfl fun K hK=>?_;go_simp;refine eS hK ?_;clear hK K;refine ce 14 rfl fun K hK=>?_;go_simp;refine eS hK ?_;clear hK K;refine le ?_;clear ff dW;go_wp2;go_roundw
  case rel=>exact ⟨j+1,by omega,by go_num,_,oH.o⟩
  case measure=>simp[intOf];omega):G:=h
theorem pm86(h:G:=by
 have hs:=hA.size;have vA:=ap.size;simp only[World.size_alloc]at vA;have hx:=(h.at4 (kk:=F) au hA ap).1;refine ⟨by rw[bm hx,wV],?_,h.kp5 au hA ap,h.lt,h.base⟩
 first
 |clear pp86a;have h4:RowT lo (.slice (some ⟨g,0,none⟩) (ts.length+1) cap) (ts ++ [t]) w4:=RowT.step ew hA h.size gh (fun b hb=>(au.lt b hb).2) hp aR
   (fun c _ hc hn=>(ap.block c (by simp;omega) (fun e=>hn e.symm)).trans (bK _ _ _ (by omega))) (by rcases hg with h | h;exact .inl h;exact .inr (by omega))
  exact h4.held (fun b hb _=>d9 _ _ _ _ (by have:=h.lt;simp;omega))
 |clear pp86b;have h4:RowF lo (.slice (some ⟨g,0,none⟩) (ts.length+1) cap) (ts ++ [t]) w4:=RowF.step ew hA h.size gh (fun b hb=>(au.lt b hb).2) hp aR
   (fun c _ hc hn=>(ap.block c (by simp;omega) (fun e=>hn e.symm)).trans (bK _ _ _ (by omega))) (by rcases hg with h | h;exact .inl h;exact .inr (by omega))
  exact h4.held (fun b hb _=>d9 _ _ _ _ (by have:=h.lt;simp;omega))
 |clear pp86c;have h4:RowFB lo (.slice (some ⟨g,0,none⟩) (ts.length+1) cap) (ts ++ [(x,t)]) w4:=RowFB.step ew hA h.size gh (fun b hb=>(au.lt b hb).2) hp aR
   (fun c _ hc hn=>(ap.block c (by simp;omega) (fun e=>hn e.symm)).trans (bK _ _ _ (by omega))) (by rcases hg with h | h;exact .inl h;exact .inr (by omega))
  exact h4.held (fun b hb _=>d9 _ _ _ _ (by have:=h.lt;simp;omega))
 |have h4:RowTB lo (.slice (some ⟨g,0,none⟩) (ts.length+1) cap) (ts ++ [(x,t)]) w4:=RowTB.step ew hA h.size gh (fun b hb=>(au.lt b hb).2) hp aR
   (fun c _ hc hn=>(ap.block c (by simp;omega) (fun e=>hn e.symm)).trans (bK _ _ _ (by omega))) (by rcases hg with h | h;exact .inl h;exact .inr (by omega))
  exact h4.held (fun b hb _=>d9 _ _ _ _ (by have:=h.lt;simp;omega))):G:=h
theorem pm87(h:G:=by
 have x2:=hF.box;have x1:=hF.other (by omega) MB.o;obtain ⟨c0,c1,c2,c3⟩:=mi x2;obtain ⟨e0,e1,e2,e3⟩:=mi x1;have z0:=ac x1 0;have z1:=ac x1 1;have z2:=ac x1 2;have z3:=ac x1 3;have mj:=ab x1;have OR:=ab (V0.o.kp1 hF.kp (by have:=x_.o;omega));obtain ⟨dy,HSz⟩:=aZ ar hF.size;clear j4 cb hF x1 x2 ar;gi_wp2;have x6:=lm (v0:=.int .u8 qo) (v1:=.string ⟨n.toArray⟩) (v2:=.slice fJ k1 fK) (v3:=.slice ra k rc) mj.o
 first
 |clear pp87;have k6:=dI (W:=wr) (b:=w.heap.size+1) (v0:=.int .u8 qo) (v1:=.string ⟨n.toArray⟩) (v2:=.slice fJ k1 fK) (v3:=.slice ra k rc);obtain ⟨W6,cP⟩:=ao ((((wr.setCell ⟨w.heap.size+1,0,none⟩ (.int .u8 qo)).setCell ⟨w.heap.size+1,1,none⟩ (.string ⟨n.toArray⟩)).setCell ⟨w.heap.size+1,2,none⟩ (.slice fJ k1 fK)).setCell ⟨w.heap.size+1,3,none⟩ (.slice ra k rc));rw[<-cP]at x6 k6 ⊢;clear cP;have g0:W6.cell? ⟨w.heap.size+1,0,none⟩=some (.int .u8 qo):=ah x6 0;have g1:W6.cell? ⟨w.heap.size+1,1,none⟩=some (.string ⟨n.toArray⟩):=ah x6 1;have g2:W6.cell? ⟨w.heap.size+1,2,none⟩=some (.slice fJ k1 fK):=ah x6 2;have g3:W6.cell? ⟨w.heap.size+1,3,none⟩=some (.slice ra k rc):=ah x6 3;have hz:=x_.o;have h6:FormV (w.heap.size<=·) W6 (FQ.val ⟨qo,⟨n.toArray⟩,fJ,k1,fK,ra,k,rc⟩) (.mk qo n (a.map aM) (s.map bC)):=RowF.form (OR.o.kp1 k6 (by omega)) (HR.o.kp1 k6 (by have:=yb.o;omega)) dO.o.size (by have:=yb.o;have:=dO.o.size;omega);refine bI (v:=FQ.val ⟨qo,⟨n.toArray⟩,fJ,k1,fK,ra,k,rc⟩) (by simp[FQ.val,results,Tryz.results66,go_sem,g0,g1,g2,g3]) rfl (⟨⟨qo,⟨n.toArray⟩,fJ,k1,fK,ra,k,rc⟩,rfl,h6,Below.kp1 dy.o k6 (by omega)⟩)
 |have k6:=dI (W:=wr) (b:=w.heap.size+1+1) (v0:=.int .u8 qo) (v1:=.string ⟨n.toArray⟩) (v2:=.slice fJ k1 fK) (v3:=.slice ra k rc);obtain ⟨W6,cP⟩:=ao ((((wr.setCell ⟨w.heap.size+1+1,0,none⟩ (.int .u8 qo)).setCell ⟨w.heap.size+1+1,1,none⟩ (.string ⟨n.toArray⟩)).setCell ⟨w.heap.size+1+1,2,none⟩ (.slice fJ k1 fK)).setCell ⟨w.heap.size+1+1,3,none⟩ (.slice ra k rc));rw[<-cP]at x6 k6 ⊢;clear cP;have g0:W6.cell? ⟨w.heap.size+1+1,0,none⟩=some (.int .u8 qo):=ah x6 0;have g1:W6.cell? ⟨w.heap.size+1+1,1,none⟩=some (.string ⟨n.toArray⟩):=ah x6 1;have g2:W6.cell? ⟨w.heap.size+1+1,2,none⟩=some (.slice fJ k1 fK):=ah x6 2;have g3:W6.cell? ⟨w.heap.size+1+1,3,none⟩=some (.slice ra k rc):=ah x6 3;have hz:=x_.o;have h6:FormV (w.heap.size<=·) W6 (FQ.val ⟨qo,⟨n.toArray⟩,fJ,k1,fK,ra,k,rc⟩) (.mk qo n (a.map (iB nx z)) (s.map (eD kk nx z))):=RowF.form (OR.o.kp1 k6 (by omega)) (HR.o.kp1 k6 (by have:=yb.o;omega)) dO.o.size (by have:=yb.o;have:=dO.o.size;omega);refine bI (v:=FQ.val ⟨qo,⟨n.toArray⟩,fJ,k1,fK,ra,k,rc⟩) (by simp[FQ.val,results,Tryz.results101,go_sem,g0,g1,g2,g3]) rfl (⟨⟨⟨qo,⟨n.toArray⟩,fJ,k1,fK,ra,k,rc⟩,rfl,wk.o ▸ h6⟩,Below.kp1 dy.o k6 (by omega)⟩)):G:=h
theorem pm88(h:G:=by
 obtain ⟨S,hS⟩:∃S:World->Prop,S=fun V=>Below wq.heap.size wq V:=⟨_,rfl⟩;have f0:∀ V,S V->V.cell? ⟨bb,0,none⟩=some (.int .u8 q.o)/\V.cell? ⟨bb,1,none⟩=some (.string q.n)/\V.cell? ⟨bb,2,none⟩=some (.slice q.a q.l q.c)/\V.cell? ⟨bb,3,none⟩=some (.slice q.b q.m q.e):=fun V h=>by rw[hS]at h;exact ⟨aa h (ah Hr.o.2.2.2 0),aa h (ah Hr.o.2.2.2 1),aa h (ah Hr.o.2.2.2 2),aa h (ah Hr.o.2.2.2 3)⟩
 first
 |clear pp88;have f1:∀ V,S V->V.cell? ⟨w.heap.size,1,none⟩=some (.string ⟨n.toArray⟩)/\V.cell? ⟨w.heap.size+1+1,1,none⟩=some (.string ⟨n.toArray⟩):=fun V h=>by rw[hS]at h;exact ⟨aa h (ah Hr.o.1 1),aa h (ah Hr.o.2.2.1 1)⟩
  have dW:S wq.drew:=by rw[hS];exact (ak _ _).drew
  have JM:=ab (fun (V:World) (h:Below wq.heap.size wq V)=>uy WB G (cM n) (am n) ⟨by have:=nH.o.1;omega,nH.o.2.1⟩ (by have:=nH.o.1;omega) nH.o.2.2.1 nH.o.2.2.2 (by have:=R7.o.2.1;simp[cM];omega) ⟨by simp[am,nodesT,nodesTs],wi HM.o⟩ (by simp[am,nodesT,nodesTs]) _ (fun _=>True) V q ⟨true,⟨n.toArray⟩,none,0,0⟩ (Pz.o.next (GA.o.1.tr h)) (GA.o.2.2.later h) (aV.2 ⟨_,rfl,b_⟩));have pp67:=();exact pm67
 |have f1:∀ V,S V->V.cell? ⟨w.heap.size,1,none⟩=some (.string ⟨n.toArray⟩)/\V.cell? ⟨w.heap.size+1+1,1,none⟩=some (.string ⟨m.toArray⟩):=fun V h=>by rw[hS]at h;exact ⟨aa h (ah Hr.o.1 1),aa h (ah Hr.o.2.2.1 1)⟩
  have dW:S wq.drew:=by rw[hS];exact (ak _ _).drew
  have JM:=ab (fun (V:World) (h:Below wq.heap.size wq V)=>uy WB G (cM n) (am m) ⟨by have:=nH.o.1;omega,nH.o.2.1⟩ (by have:=nH.o.1;omega) nH.o.2.2.1 nH.o.2.2.2 (by have:=R7.o.2.1;simp[cM];omega) ⟨by simp[am,nodesT,nodesTs],wi HM.o⟩ (by simp[am,nodesT,nodesTs]) _ (fun _=>True) V q ⟨true,⟨m.toArray⟩,none,0,0⟩ (Pz.o.next (GA.o.1.tr h)) (GA.o.2.2.later h) (aV.2 ⟨_,rfl,b_⟩));exact pm67):G:=h
theorem pm89(h:G:=by
 have nk:=ct IS.o hlt;have ar:=lw.o.trans (fp.mono lw.o.size);obtain ⟨b,off,u,rfl,_,hu,c0,c1,c2,c3⟩:=Uy.o.get br;obtain ⟨b',nh,u',rfl,_,iA,mI,nU,nV,GR⟩:=HYs.o.get nk;have rt:=Zv.o.mem (az br);rw[oS br nk]at ht
 first
 |clear pp89a;obtain ⟨e,he⟩:=ao (eB (ps ++ [(xn,yn)]).reverse xs[k] ys[k]);rw[<-he]at ht;obtain ⟨d0,d1,d2,d3⟩:=nb ar c0 c1 c2 c3;have y2:wr.cell? ⟨w.heap.size+1,3,none⟩=some (.slice (some ⟨b',nh,none⟩) k1 ve):=aa fp (ah yI.o 3);have FE:(k:Int)<(k1:Int):=by omega
  have PW:(ps ++ [(xn,yn)]).length+gJ xs[k]<=1000000000:=by have:=S6 xs[k] (az br);first | omega | (simp only[di,fF,List.length_nil];omega)
  have pp74a:=();exact pm74
 |clear pp89b;obtain ⟨e,he⟩:=ao (eB ps.reverse xs[k] ys[k]);rw[<-he]at ht;obtain ⟨d0,d1,d2,d3⟩:=nb ar c0 c1 c2 c3;have y2:wr.cell? ⟨w.heap.size+1,3,none⟩=some (.slice (some ⟨b',nh,none⟩) k1 ve):=aa fp (ah yI.o 3);have FE:(k:Int)<(k1:Int):=by omega
  have PW:ps.length+gJ xs[k]<=1000000000:=by have:=S6 xs[k] (az br);first | omega | (simp only[di,fF,List.length_nil];omega)
  have pp74b:=();exact pm74
 |obtain ⟨e,he⟩:=ao (eB (ps ++ [(xn,xn)]).reverse xs[k] ys[k]);rw[<-he]at ht;obtain ⟨d0,d1,d2,d3⟩:=nb ar c0 c1 c2 c3;have y2:wr.cell? ⟨w.heap.size+1,3,none⟩=some (.slice (some ⟨b',nh,none⟩) k1 ve):=aa fp (ah yI.o 3);have FE:(k:Int)<(k1:Int):=by omega
  have PW:(ps ++ [(xn,xn)]).length+gJ xs[k]<=1000000000:=by have:=S6 xs[k] (az br);first | omega | (simp only[di,fF,List.length_nil];omega)
  exact pm74):G:=h
theorem pm90(h:G:=by
 rcases h1 with ⟨rfl,h0⟩ | ⟨g,cap,cur,rfl,hlo,hb,hc,_,_,ht⟩
 ·obtain rfl:l=[]:=jj h0;exact ⟨none,0,rfl,aF _,.inl rfl⟩
 ·refine ⟨_,cap,rfl,hc,.inr ⟨g,0,rfl,hlo,fun j hj=>?_⟩⟩;rw[Nat.zero_add,aH hb];have h2:(cur.toList.take (l.length * 1))[j]?=(l.map encStr)[j]?:=by rw[ht]
  rw[List.getElem?_take_of_lt (by omega),List.getElem?_map,gy hj]at h2;rw[<-Array.getElem?_toList,h2];rfl):G:=h
theorem pm91(h:G:=by
 have HF:=ab (HE.o.trans j6);obtain ⟨HC,kD⟩:=aZ fh bj;clear j6 fh cK y' F' jb nC ha hb hc hj bj hu iA c0 c1 c2 c3;go_wp2_with (go_at_call 64;refine HC.o.mono ?_;rintro e w6 ⟨rfl,mZ,l6,As,EZ,pf,ki⟩;have qW:=cC mZ As EZ pf;clear mZ As EZ pf ki);go_ret;exact JPost.no HF.o (kD.o.trans ((Kp.below cQ).trans qW.o.1)) qW.o.2.1 qW.o.2.2.1 (by have:=qW.o.2.2.2;omega)):G:=h
theorem pm92(h:G:=by
 clear hs hd HB;obtain ⟨vz,tc,fz⟩:=h.get 7 _ 152 rfl rfl;obtain rfl:vz=.bool false:=fz;clear h;refine xU _ _ ?_;clear xU RJ;refine wpIn_cond_false (aG tc) (wpIn_skip ?_);refine DU _ _ ?_;clear DU T';have e1:c9 s ft=s:=by unfold c9;rw[aD (by omega)]
 have e2:cd bd ft=bd:=pB (by omega);rw[e1]at F3;rw[e2]at B4;exact zbP WB w fw s bd m ft hP b3 b4 _ _ ⟨Cu,Is,Cv,t2,⟨_,F3⟩,⟨_,B4⟩⟩):G:=h
theorem pm93(h:G:=by
 have CT:=ab (fun w3 (h3:Kp (fun c=>c=J) w w3) (j3:JAt J true (left - 1) bz w3)=>dJ.o ▸ tM a Sb.o ok J true (left - 1) bz (ba+1) w3 qa _ qc (ea.o.move (fun b hb hlt=>⟨hb,h3.same b hlt (jP.o b hb)⟩)) jP.o j3 (by omega) (by omega) Ol (by omega) (by omega) (by omega));obtain ⟨bb,cK⟩:=ao (dB true a && (decide ((nodesTs a:Int)<=left - 1) && decide (ba+1+bx a<=bz+1)));rw[<-cK]at CT hM
 first
 |clear pp93
  cases bb with
  | false=>
   exact pm29
  | true=>
   exact pm23
 |cases bb with
  | false=>
   exact pm42
  | true=>
   exact pm36):G:=h
theorem pm94(h:G:=by
 have CT:=ab (fun w3 (h3:Kp (fun c=>c=J) w w3) (j3:JAt J sc (left - 1) bz w3)=>dJ.o ▸ tM a Sb.o ok J sc (left - 1) bz (ba+1) w3 qa _ qc (ea.o.move (fun b hb hlt=>⟨hb,h3.same b hlt (jP.o b hb)⟩)) jP.o j3 (by omega) (by omega) Ol (by omega) (by omega) (by omega));obtain ⟨bb,cK⟩:=ao (dB sc a && (decide ((nodesTs a:Int)<=left - 1) && decide (ba+1+bx a<=bz+1)));rw[<-cK]at CT hM
 first
 |clear pp94
  cases bb with
  | false=>
   exact pm29
  | true=>
   have pp23:=();exact pm23
 |cases bb with
  | false=>
   exact pm42
  | true=>
   have pp36:=();exact pm36):G:=h
theorem pm95(h:G:=by
 refine dx rfl rfl jH rfl (fun a γ wz aO=>⟨rfl,.slice la l0 lc,γ,wz,?_,Gr.refl,fun _ _ h=>h,?_⟩)
 ·have e2:a.tmps.getD 2 undef=.slice la l0 lc:=aG ((aO.ou 2 rfl).trans rfl);go_simp
 ·rw[iZ];exact rfl):G:=h
theorem pm96(h:G:=by
 have Un:k<fs.length:=by have:=ib.o;omega
 obtain ⟨bs,os,u,rfl,ja,hu,c0,c1,c2,c3⟩:=HSs.o.get wQ;obtain ⟨bf,of,v,rfl,Ez,hv,e0,e1,e2,e3⟩:=Zv.o.get Un;have jf:=zR.o.2.trans bj;have d0:=jf.cell ja.2 c0;have g0:=jf.cell Ez.2 e0;have d1:=jf.cell ja.2 c1;have g1:=jf.cell Ez.2 e1;have d2:=jf.cell ja.2 c2;have g2:=jf.cell Ez.2 e2;have d3:=jf.cell ja.2 c3;have g3:=jf.cell Ez.2 e3
 first
 |clear pp96;have pp18:=();exact pm18
 |exact pm18):G:=h
theorem pm97(h:G:=by
 obtain ⟨HF,eh,dy⟩:=cD hF cb ar;clear hu ar hF c0 c1 c2 c3 cb;gi_wp2;obtain ⟨W2,bl⟩:=ao (wr.alloc (.cells #[.int .u8 u.o,.string u.n,.slice u.a u.l u.c,.slice u.b u.m u.e] 36));have fH:=cX bl;have xb:=bX bl;rw[<-bl];clear bl d0 d1 d2 d3;have gD:=HF.o.later fH (fun r=>r.below fH);have pp142d:=();exact pm142):G:=h
theorem pm98(h:G:=by
 obtain ⟨HC,OF⟩:=aZ CC ar;have HS:=aC AO J8;clear hu hcut CC VE AO hM ar c0 c1 c2 c3;go_wp2_with (go_at_call 23;refine HC.o.mono ?_;rintro e w4 ⟨rfl,aP⟩;have eL:=ab aP;clear aP);go_roundw
 case rel=>exact ⟨k+1,m+M,by omega,by go_num,by go_num,OF.o.trans (eL.o.mono OF.o.size),HS.o.1,HS.o.2⟩
 case measure=>simp[intOf];omega):G:=h
theorem pm99(h:G:=by
 obtain ⟨W5,eK⟩:=ao (wr.alloc (.cells #[.bool xv,.string xn,.slice xa xl xc] 43));have bi:=cX eK
 first
 |clear pp99a;have CC:=EP W2 _ kb mF mT nF nT k H2.o.2.2 a[j] (HQ.o.2.2.2.1.mem (az ic)) _ W5 ⟨xv,xn,xa,xl,xc⟩ (ar.tr bi) ((hx.later ar).later bi);simp only[TQ.val]at CC;obtain ⟨m0,el⟩:=ao (dQ k.ts (a.take j)+1);obtain ⟨m2,rR⟩:=ao (nP k.ts a[j]);have cV:=qN (k:=k.ts) ic;have BR:=rB (fun x hx=>kJ H2.o.2.2 (x:=x) hx) (a.take (j+1)) (rC HQ.o.2.2.2.1.2 _);have ur:=fT (a:=a) (j:=j+1);have J6:=PQ.o;rw[<-rR]at CC;rw[<-el];have hw:IntKind.i64.wrap ((m0:Int)+(m2:Int))=((m0+m2:Nat):Int):=by rw[ik _ (by omega)];simp
  have kV:=ab CC;have Ly:=ab (show m0+m2=dQ k.ts (a.take (j+1))+1 by omega);have p_:=ab eK;have HB:=aC ar bi;have yQ:(j:Int)<(n1:Int):=by omega
  clear CC el rR cV BR ur J6 eK bi ar hx hok c0 c1 c2;go_wp2_with (rw[<-p_.o];go_at_call 197;refine kV.o.mono ?_;rintro e w6 ⟨rfl,cI⟩;have H6:=ab cI;clear cI);go_roundw
  case rel=>exact ⟨j+1,by omega,by go_num,by rw[<-Ly.o];simp,(HB.o.1.tr HB.o.2).tr H6.o⟩
  case measure=>simp[intOf];omega
 |clear pp99b;have CC:=Cj W2 _ kb mF mT nF nT k H2.o.2.2 a[j] (HQ.o.2.2.2.1.mem (az ic)) (by have:=s7 (az ic);have:=PQ.o;omega) _ W5 ⟨xv,xn,xa,xl,xc⟩ (ar.tr bi) ((hx.later ws).later bi);simp only[TQ.val]at CC;have iY:=o8 (k:=k.ts) ic;have BR:=o9 (fun x hx=>kJ H2.o.2.2 (x:=x) hx) (a.take (j+1)) (rC HQ.o.2.2.2.1.2 _);have ur:=fT (a:=a) (j:=j+1);have J6:=PQ.o;obtain ⟨l1,FN⟩:=ao (dE k.ts (a.take j));obtain ⟨l2,sx⟩:=ao (jx k.ts a[j]);rw[<-sx]at CC;rw[<-FN,<-sx]at iY;rw[<-FN]at dp;have cf:l1.length+l2.length<=4000000:=by rw[iY,di]at BR;omega
  obtain ⟨kV,HT,tR,p_⟩:=eR CC iY cf eK;have HB:=bE ar bi dp;have yQ:(j:Int)<(n1:Int):=by omega
  clear CC FN sx iY cf BR ur J6 eK bi ar ws hx hok c0 c1 c2 dp;go_wp2_with (first | (rw[<-p_.o];go_at_call 248;refine kV.o.mono ?_;rintro e w6 ⟨⟨v6,rfl,hv6⟩,cI⟩;have H6:=aC (HB.o.2.1.tr cI) hv6;clear cI hv6) | (at_builtin;refine dU rfl _ _ rfl W2.heap.size (HB.o.1.tr H6.o.1).size u9 l1 rfl (HB.o.2.2.later H6.o.1) v6 l2 rfl _ H6.o.2.strs tR.o ?_;intro v8 w8 GG UQ;have SQ:=aC GG UQ;clear GG UQ));go_roundw
  case rel=>exact ⟨j+1,by omega,by go_num,by rw[HT.o];exact SQ.o.1,(og (M:=fun _=>False) (Kp.below (HB.o.1.tr H6.o.1)) SQ.o.2 (fun g hg=>(HB.o.2.2.lt g hg).1)).empty⟩
  case measure=>simp[intOf];omega
 |clear pp99c;have CC:=fd.o a[j] (az ic) (U8.o.mem (az ic)) _ W5 ⟨xv,xn,xa,xl,xc⟩ (((H1.o.2.2.tr ws)).tr bi) ((hx.later ws).later bi);simp only[TQ.val]at CC;obtain ⟨m0,el⟩:=ao (dQ k.ts (a.take j)+1);obtain ⟨m1,jh⟩:=ao (nP k.ts a[j]);have cV:=qN (k:=k.ts) ic;have BR:=rB SA.o (a.take (j+1)) (rC U8.o.2 _);have ur:=fT (a:=a) (j:=j+1);have J6:=U8.o.1;rw[<-jh]at CC;rw[<-el];have hw:IntKind.i64.wrap ((m0:Int)+(m1:Int))=((m0+m1:Nat):Int):=by rw[ik _ (by omega)];simp
  have kV:=ab CC;have Ly:=ab (show m0+m1=dQ k.ts (a.take (j+1))+1 by omega);have p_:=ab eK;have HB:=aC ar bi;have yQ:(j:Int)<(n1:Int):=by omega
  clear CC el jh cV BR ur J6 eK bi ar ws hx hok c0 c1 c2;go_wp2_with (rw[<-p_.o];go_at_call 197;refine kV.o.mono ?_;rintro e w6 ⟨rfl,cI⟩;have H6:=ab cI;clear cI);go_roundw
  case rel=>exact ⟨j+1,by omega,by go_num,by rw[<-Ly.o];simp,(HB.o.1.tr HB.o.2).tr H6.o⟩
  case measure=>simp[intOf];omega
 |clear pp99d;have CC:=fd.o a[j] (az ic) (U8.o.mem (az ic)) (by have:=s7 (az ic);have:=HSm.o;omega) _ W5 ⟨xv,xn,xa,xl,xc⟩ (((H1.o.2.2.tr ws)).tr bi) ((hx.later ws).later bi);simp only[TQ.val]at CC;have iY:=o8 (k:=k.ts) ic;have BR:=o9 SA.o (a.take (j+1)) (rC U8.o.2 _);have ur:=fT (a:=a) (j:=j+1);have J6:=HSm.o;obtain ⟨l1,FN⟩:=ao (dE k.ts (a.take j));obtain ⟨l2,sx⟩:=ao (jx k.ts a[j]);rw[<-sx]at CC;rw[<-FN,<-sx]at iY;rw[<-FN]at dp;have cf:l1.length+l2.length<=4000000:=by rw[iY,di]at BR;omega
  obtain ⟨kV,HT,tR,p_⟩:=eR CC iY cf eK;have HB:=bE ar bi dp;have yQ:(j:Int)<(n1:Int):=by omega
  clear CC FN sx iY cf BR ur J6 eK bi ar ws hx hok c0 c1 c2 dp;go_wp2_with (first | (rw[<-p_.o];go_at_call 248;refine kV.o.mono ?_;rintro e w6 ⟨⟨v6,rfl,hv6⟩,cI⟩;have H6:=aC (HB.o.2.1.tr cI) hv6;clear cI hv6) | (at_builtin;refine dU rfl _ _ rfl W2.heap.size (HB.o.1.tr H6.o.1).size u5 l1 rfl (HB.o.2.2.later H6.o.1) v6 l2 rfl _ H6.o.2.strs tR.o ?_;intro v8 w8 GG UQ;have SQ:=aC GG UQ;clear GG UQ));go_roundw
  case rel=>exact ⟨j+1,by omega,by go_num,by rw[HT.o];exact SQ.o.1,(og (M:=fun _=>False) (Kp.below (HB.o.1.tr H6.o.1)) SQ.o.2 (fun g hg=>(HB.o.2.2.lt g hg).1)).empty⟩
  case measure=>simp[intOf];omega
 |have x5:=bX eK;have PY:=bT bi R8;have x65:=bT bi x6w;obtain ⟨S,hS⟩:∃S:World->Prop,S=fun V=>Below W5.heap.size W5 V:=⟨_,rfl⟩;have pp:∀ V,S V->V.cell? ⟨W.heap.size,0,none⟩=some (.int .u8 so)/\V.cell? ⟨W.heap.size,1,none⟩=some (.string ⟨n.toArray⟩)/\V.cell? ⟨W.heap.size,2,none⟩=some (.slice (some ⟨b1,o1,none⟩) n1 sc)/\V.cell? ⟨W.heap.size,3,none⟩=some (.slice sb m1 se)/\V.cell? ⟨W.heap.size,4,none⟩=some (.int .u8 so)/\V.cell? ⟨W.heap.size,5,none⟩=some (.string ⟨n'.toArray⟩)/\V.cell? ⟨W.heap.size,6,none⟩=some (.slice (some ⟨b2,o2,none⟩) n1 fc)/\V.cell? ⟨W.heap.size,7,none⟩=some (.slice fb m1 fe)/\V.cell? ⟨W.heap.size,8,none⟩=some (.slice ca cl cc):=fun V h=>by rw[hS]at h;exact ⟨aa h (ah PY 0),aa h (ah PY 1),aa h (ah PY 2),aa h (ah PY 3),aa h (ah PY 4),aa h (ah PY 5),aa h (ah PY 6),aa h (ah PY 7),aa h (ah PY 8)⟩
  have tt:∀ V,S V->V.cell? ⟨B6,2,none⟩=some (.slice (some ⟨b2,o2,none⟩) n1 fc):=fun V h=>by rw[hS]at h;exact aa h (ah x65 2)
  have yy:∀ V,S V->V.cell? ⟨b2,o2+j * 3,none⟩=some (.bool yv)/\V.cell? ⟨b2,o2+j * 3+1,none⟩=some (.string yn)/\V.cell? ⟨b2,o2+j * 3+2,none⟩=some (.slice ya yl yc):=fun V h=>by rw[hS]at h;exact ⟨aa h (aa bi g0),aa h (aa bi g1),aa h (aa bi g2)⟩
  have dW:S W5.drew:=by rw[hS];exact (ak _ _).drew
  have PZ:Kp M W W5:=J4.trans (Kp.below bi);have HKN:=ab (hkN.trans (Kp.below bi));have pV:=oW ic;have Xe:=HV.o.2.2.2.2.1.kp PZ;have hx5:=hx.kpM PZ (fun _ h=>h);have hy5:=hy.kpM PZ (fun _ h=>h);obtain ⟨I,hI⟩:=ao (lD ps.reverse [] a'[j]);have CI:=fun (V:World) (h:Below W5.heap.size W5 V)=>sf ⟨⟨so,⟨n.toArray⟩,some ⟨b1,o1,none⟩,n1,sc,sb,m1,se⟩,⟨so,⟨n'.toArray⟩,some ⟨b2,o2,none⟩,n1,fc,fb,m1,fe⟩,ca,cl,cc⟩ ps HB.o.2.2.2.1 HB.o.2.2.2.2 [] [] (by simp) (fun _=>rfl) (fun _=>True) (.slice none 0 0) a'[j] (HF.o.1.args.mem (az BC)) _ V ⟨yv,yn,ya,yl,yc⟩ (Xe.1.later h) ⟨none,0,rfl,aF _,.inl rfl⟩ (hy5.later h);rw[<-hI]at CI;simp only[PlQ.val,PlQ.cells,TQ.val]at CI;obtain ⟨Uw,du⟩:=aZ CI hS;have cV:=GS (c:=ps.reverse) (k:=kj) ic BC;rw[<-hI]at cV;rw[cV]at gt;have H5:=rK PZ bi x5 PY Xe hx5;have SZ:=cC bj oY (dV.later bi) pV;have HIj:=bE (show ∀ u,I=some u->goodT u from fun u h=>M9 HP.o (az BC) (by rw[<-hI];exact h)) (R7.o _ (az ic)) ic;have U7:=ab gt;have yQ:(j:Int)<(n1:Int):=by omega
  clear CI cV gt hS hI hy5 hx5 Xe pV PZ hy hx rQ hok2 c0 c1 c2 y0 y1 y2 dV oY bj J4 hkN R8 x6w bi x5 PY x65;go_wp2;rw[<-eK];clear eK d0 d1 d2 g0 g1 g2;go_cut [12,13] from 98 to 107 (fun s12 s13 wx=>∃B12,s12=.pointer (some ⟨B12,0,none⟩)/\s13=.bool I.isSome/\∃uq:TQ,wx.heap[B12]?=some (.cells #[.bool uq.v,.string uq.n,.slice uq.a uq.l uq.c] 43 (0,0))/\Below W5.heap.size W5 wx/\W5.heap.size<=B12/\∀ u,I=some u->TermV (W5.heap.size<=·) wx uq.val u)
  case first=>
   have jH:=eU;refine (wpIn_wide (n:=3)).1 ?_;refine lV S 12 dW fun jO bW=>?_;refine dm 0 99 (.agg #[.int .u8 so,.string ⟨n.toArray⟩,.slice (some ⟨b1,o1,none⟩) n1 sc,.slice sb m1 se,.int .u8 so,.string ⟨n'.toArray⟩,.slice (some ⟨b2,o2,none⟩) n1 fc,.slice fb m1 fe,.slice ca cl cc]) rfl (fun V hX=>by obtain ⟨h0,h1,h2,h3,h4,h5,h6,h7,h8⟩:=pp V hX;go_simp) bW fun cF=>?_;simp only[ag];refine bL 1 100 (.pointer (some ⟨B6,2,none⟩)) rfl cF fun fI=>?_;simp only[ag];refine dm 2 101 (.slice (some ⟨b2,o2,none⟩) n1 fc) rfl (fun V hX=>by have h0:=tt V hX;go_simp) fI fun gO=>?_;simp only[ag];refine bL 3 102 (.int .i64 (j:Int)) rfl gO fun iX=>?_;simp only[ag];refine bL 4 103 (.pointer (some ⟨b2,o2+j * 3,none⟩)) rfl iX fun jQ=>?_;simp only[ag];refine dm 5 104 (.agg #[.bool yv,.string yn,.slice ya yl yc]) rfl (fun V hX=>by obtain ⟨h0,h1,h2⟩:=yy V hX;go_simp) jQ fun kf=>?_;simp only[ag];refine zcU (i:=6) (j:=10) rfl rfl (by kernel_rfl) (by rfl) (by rfl) (fun K hK=>?_) (fun K hK=>?_)
   ·go_simp;refine aL.2 ((Uw.o _ (by have h:=bW;rw[du.o]at h;exact h)).mono ?_);rintro e w6 ⟨⟨⟨u0,u1,u2,u3,u4⟩,rfl,hu⟩,cI⟩;have kH:Below W5.heap.size W5 w6:=((ak W5.heap.size W5).drew).trans cI;have H6:=aC kH hu;refine hK _ _ (fun _=>by rw[du.o];exact H6.o.1) (fun kf=>?_)
    replace kf:=kf (by decide)
    clear hK K hu cI kH;have pp121:=();exact pm121
   ·go_simp;obtain ⟨EB,S7⟩:=ao W5.heap.size;obtain ⟨A1,FK⟩:=ao (W5.alloc (.cells #[.bool false,.string ⟨#[]⟩,.slice none 0 0] 43)).drew;have GX:Below W5.heap.size W5 A1:=by rw[FK];exact cQ.drew
    have Zz:A1.heap[EB]?=some (.cells #[.bool false,.string ⟨#[]⟩,.slice none 0 0] 43 (0,0)):=by rw[FK,S7];exact aj rfl
    have hEz:EB=W5.heap.size:=S7;rw[<-FK,<-S7];have HA:=bE GX Zz hEz;refine hK _ _ (fun _=>by rw[du.o];exact HA.o.1) (fun _=>?_);clear hK K FK S7 GX Zz hEz;refine ce 6 rfl fun K hK=>?_;go_simp;refine aL.2 ((Uw.o _ HA.o.1).mono ?_);rintro e w6 ⟨⟨⟨u0,u1,u2,u3,u4⟩,rfl,hu⟩,cI⟩;have kH:Below W5.heap.size W5 w6:=HA.o.1.tr cI;have hn6:=bT cI HA.o.2.1;have H6:=fA kH hu hn6 (bn HA.o.2.1) HA.o.1.size;refine hK _ _ (fun _=>by rw[du.o];exact H6.o.1) (fun kf=>?_)
    replace kf:=kf (by decide)
    obtain ⟨z0,z1,z2,y0',y1',y2'⟩:=fX hn6;clear hK K hu cI kH hn6;exact pm121
  case rest=>
  obtain ⟨B12,h12,h13,⟨u0,u1,u2,u3,u4⟩,ZA,cI,Xf,hu⟩:=hcut;rw[h12,h13];clear h12 h13 pp tt yy;obtain ⟨W6,cP⟩:=ao wc;rw[<-cP]at ZA cI hu ⊢;clear cP wc;simp only at ZA;have S8:Kp M W W6:=H5.o.1.trans (Kp.below cI)
  cases I with
  | none=>
   have HE:=ab (show R=(k,70) by rw[Zx.o,U7.o]);have Cd:=ab (HKN.o.trans (Kp.below cI));clear ZA cI Xf hu S8;go_wp2;go_ret;exact StepPost.bad HE.o (by decide) Cd.o
  | some im=>
   have hu:=hu im rfl;have ZB:=HIj.o.1 im rfl;have hum:TermV (fun b=>¬M b) W6 (TQ.val ⟨u0,u1,u2,u3,u4⟩) im:=hu.move (fun b hb hlt=>⟨fun hm=>by have:=HG.o.2.2.2.2 b hm;have:=H5.o.1.size;omega,rfl⟩);have vH:=bT cI H5.o.2.2.2.1;have x56:=bT cI H5.o.2.2.1;obtain ⟨P0,P1,P2,P3,P4,P5,P6,P7⟩:=BA vH;have P8:=ah vH 8;obtain ⟨s0,s1,s2,_,_,_⟩:=fX x56;obtain ⟨t0,t1,t2,_,_,_⟩:=fX ZA;have CE:=M6 ⟨⟨so,⟨n.toArray⟩,some ⟨b1,o1,none⟩,n1,sc,sb,m1,se⟩,⟨so,⟨n'.toArray⟩,some ⟨b2,o2,none⟩,n1,fc,fb,m1,fe⟩,ca,cl,cc⟩ ps HB.o.2.2.2.1 goodF goodT (fun _ h=>h.fit) (fun _ _ _ h=>h.args) M kb mF mT HG.o.2.1 HG.o.1 HG.o.2.2.1 (a[j]'HIj.o.2.2) HIj.o.2.1.1 HIj.o.2.1.2 im ZB W6 nF Ce ⟨k.fs,kj⟩ ⟨xv,xn,xa,xl,xc⟩ ⟨u0,u1,u2,u3,u4⟩ (SZ.o.2.2.1.later cI) (by have:=SZ.o.2.1;have:=SZ.o.2.2.2;have:=HB.o.2.1;have:=HB.o.2.2.1;omega) (zcV S8) (H5.o.2.2.2.2.2.later cI) hum;have gt:=U7.o;simp only at gt;obtain ⟨EQ,hEQ⟩:=ao (i9 (ps.reverse.map (·.1)) kj (a[j]'HIj.o.2.2) im);simp only[<-hEQ]at gt CE;simp only[PlQ.val,PlQ.cells,TQ.val]at CE;have HCE:=ab CE;have Cd:=aC (HKN.o.trans (Kp.below cI)) (SZ.o.1.trans (Kp.below (H5.o.2.1.tr cI)))
   cases EQ with
   | none=>
    have HE:=ab (show R=(k,70) by rw[Zx.o,gt]);clear ZA cI Xf hu S8 hum vH x56 CE gt hEQ ZB;go_wp2_with (go_at_call 95;refine HCE.o.mono ?_;rintro e w7 ⟨oh,r,rfl,fZ,_⟩;obtain rfl:=fZ (by simp);have H7:=ab oh;clear oh fZ);go_ret;exact StepPost.bad HE.o (by decide) (Cd.o.1.trans (H7.o.mono (fun b _ h=>.inr h)))
   | some ts0=>
    have JY:=ab (show i_ ps.reverse k.ts a a'=i_ ps.reverse ts0 (a.drop (j+1)) (a'.drop (j+1)) from gt);clear ZA cI Xf hu S8 hum vH x56 CE gt hEQ ZB;go_wp2_with (go_at_call 95;refine HCE.o.mono ?_;rintro e w7 ⟨oh,r,rfl,_,U1⟩;obtain ⟨rfl,nT7,U2,zU⟩:=U1 _ rfl;have H7:=bE oh U2 zU;clear oh U1 U2 zU);go_roundw
    case rel=>exact ⟨j+1,nT7,ts0,by omega,by go_num,Cd.o.2.trans H7.o.1,by have:=H7.o.2.1;have:=SZ.o.2.1;have:=SZ.o.2.2.2;omega,H7.o.2.2,JY.o⟩
    case measure=>simp[intOf];omega):G:=h
theorem pm100(h:G:=by
 refine ⟨fun h0=>(by rw[hr]at h0;cases h0),fun k hk=>?_⟩;rw[hr]at hk;simp only[dw,List.not_mem_nil,or_false]at hk;rcases hk with rfl | rfl
 ·refine wpOpIn_step hi (fun K' D1=>?_);rw[aX hwi];exact h1 K' (fun a w hS hW=>D1 a w ⟨hS,hW hS⟩)
 ·refine wpOpIn_step hj (fun K' D1=>?_);rw[aX hwj];exact h2 K' (fun a w hS hW=>D1 a w ⟨hS,hW hS⟩)):G:=h
theorem pm101(h:G:=by
 refine ei (B:=w.heap.size) (Marks.nil _ _) (fun w' hn=>?_);have h0:=hn.cell g0;have h1:=hn.cell g1;refine ⟨.tuple #[.agg #[.slice none 0 0,.slice none 0 0],.int .i64 (j:Int),.int .i64 2],by simp[results,Tryz.results15,go_sem,h0,h1],⟨⟨⟨none,0,0,none,0,0⟩,by (rw[HE.o];try rfl),by rw[HE.o];exact oq⟩,jp tg hn⟩⟩):G:=h
theorem pm102(h:G:=by
 simp only at d1 d2 d3 d4;obtain ⟨W5,eK⟩:=ao (wr.alloc (.cells #[.string ⟨nm.toArray⟩,.int .u8 qo,.string qn,.slice qa ql qc,.slice qb qm qe] 40));have bi:=cX eK
 first
 |clear pp102a;have jA:=dV.later bi.drew;have hf5:FormV (fun b=>b<w.heap.size) W5.drew (FQ.val ⟨qo,qn,qa,ql,qc,qb,qm,qe⟩) b.fs[k].2:=hf.move (fun b hb hlt=>⟨hb,((jf.trans (Kp.below bi.drew)).same b hlt (fZ b hb))⟩);obtain ⟨w6,cV,GL,GM,qJ⟩:=jA.storeF (by simp) (by omega) (x:=nm) (by rw[dK];exact HP.o.1 _ (az br)) hf5 (HP.o.2.2.2.2.1 _ (az br)) (l':=b.fs.take (k+1)) (fun y=>by rw[wl HP.o.2.2.1 br,<-dK]);have x8:=ah dV.box 0;have x9:=aa bi x8;have Ew:=aa bi.drew x8;have HK:=aC GL ((bj.trans (Kp.below bi.drew)).trans (GM.mono (fun b _ h=>by rw[HM.o];exact .inl h)));obtain ⟨Zu,p_⟩:=aZ cV eK;rw[eK]at x9 Ew;have DZ:(k:Int)<(n1:Int):=by omega
  clear dV jA GL bj GM qJ hf hf5 bi jf fZ hok dK eK br c0 c1 c2 c3 c4;rw[p_.o]at cV;unfold FQ.val at cV;go_wp2;go_region;go_wp2;go_roundw
  case rel=>exact ⟨k+1,by omega,by go_num,HK.o.2,HK.o.1⟩
  case measure=>simp[intOf];omega
 |clear pp102b;have DZ:(k:Int)<(n1:Int):=by omega
  have p_:=ab eK
  by_cases mm:nm=n
  ·subst mm;have xf:(nm == nm)=true:=by simp
   rw[xf]at gt;have CC:=oe g LK ok W5 ⟨qo,qn,qa,ql,qc,qb,qm,qe⟩ ((hf.later nl).later bi);simp only[FQ.val]at CC;have HC:=ab CC;have HE:=ab (show R=some g from gt);have H5:=aC (nl.tr bi) (bT bi hx);clear CC nl ar gt hf LK bi hx eK hg dK c0 c1 c2 c3 c4 hok;go_wp2_with (rw[<-p_.o];go_at_call 51;refine HC.o.mono ?_;rintro e w6 ⟨⟨p0,p1,p2,p3,p4,p5,p6,p7⟩,rfl,hp,cI⟩;have Xg:=bT cI H5.o.2;obtain ⟨e0,e1,e2,e3,y0,y1,y2,y3⟩:=dh Xg;have H6:=bE Xg hp cI;clear Xg hp cI);obtain ⟨W8,lQ,x8,k8,g0,g1,g2,g3⟩:=BV H6.o.1 (.int .u8 p0) (.string p1) (.slice p2 p3 p4) (.slice p5 p6 p7);rw[<-lQ];refine bI (v:=.tuple #[FQ.val ⟨p0,p1,p2,p3,p4,p5,p6,p7⟩,.bool true]) (by simp[FQ.val,results,Tryz.results16,go_sem,g0,g1,g2,g3]) rfl ⟨⟨⟨p0,p1,p2,p3,p4,p5,p6,p7⟩,by rw[HE.o];rfl,?_⟩,Below.kp1 (H5.o.1.tr H6.o.2.2) k8 (by omega)⟩;exact pm293
  ·have xf:(nm == n)=false:=by simp[mm]
   rw[xf]at gt;have HG:=aC (ar.tr bi) (show R=getB (b.fs.drop (k+1)) n from gt);clear nl ar gt hf LK bi hx eK hg dK c0 c1 c2 c3 c4 hok;exact pm279
 |have x5:=bX eK;have DZ:(k:Int)<(n1:Int):=by omega
  have jd:(nm,g)∈b.fs:=by rw[dK,hg];exact az br
  have CM:=D8 nm W5 (by omega);have H5:=cC (nl.tr bi) x5 (hf.later (nl.tr bi)) lZ;have HO:=fA ar au eA dK hg;have p_:=ab eK
  cases Ca:dA nm with
  | false=>
   rw[Ca]at CM;have HC:=ab CM;have HE:=ab (show R=false by
    rw[HR.o];unfold validB;rw[show (b.fs.all fun x=>dA x.1 && dn (bC x.2))=false from List.all_eq_false.2 ⟨_,jd,by simp[Ca]⟩];rfl)
   clear CM nl ar au eA dK hg lZ hf bi x5 eK jd Ca c0 c1 c2 c3 c4 hok;go_wp2_with (rw[<-p_.o];go_at_call 65;refine HC.o.mono ?_;rintro e w6 ⟨rfl,cI⟩;have H6:=ab cI;clear cI);go_ret;exact ⟨by rw[HE.o];rfl,H5.o.1.tr H6.o⟩
  | true=>
   rw[Ca]at CM;have HC:=ab CM;have Di:=ab (fun (W:World) (hb:Below W5.heap.size W5 W)=>Mz g lZ.2.1 ok W ⟨qo,qn,qa,ql,qc,qb,qm,qe⟩ ((hf.later (nl.tr bi)).later hb));have Kh:=ab (fun (W:World) (p:FQ) (ok':Nat->Prop) (hb:Below W5.heap.size W5 W) (hp:FormV ok' W p.val (bC g))=>wE W0 (bC g) lZ.2.2 ok' W (Sb.o.next ((nl.tr bi).tr hb)) p hp);simp only[FQ.val]at Di Kh
   cases E0:dn (bC g) with
   | false=>
    rw[E0]at Kh;have HE:=ab (show R=false by
     rw[HR.o];unfold validB;rw[show (b.fs.all fun x=>dA x.1 && dn (bC x.2))=false from List.all_eq_false.2 ⟨_,jd,by simp[E0]⟩];rfl)
    clear CM nl ar au eA dK hg lZ hf bi x5 eK jd Ca E0 c0 c1 c2 c3 c4 hok;go_wp2_with (first | (rw[<-p_.o];go_at_call 65;refine HC.o.mono ?_;rintro e w6 ⟨rfl,cI⟩;have x6:=bT cI H5.o.2.1;have s0:=ah x6 0;have s1:=ah x6 1;have s2:=ah x6 2;have s3:=ah x6 3;have s4:=ah x6 4;have H6:=aC cI x6;clear cI x6) | (go_at_call 66;refine (Di.o w6 H6.o.1).mono ?_;rintro e w7 ⟨⟨p0,p1,p2,p3,p4,p5,p6,p7⟩,rfl,J7,fD⟩;have H7:=aC J7 fD;clear J7 fD) | (go_at_call 39;refine (Kh.o w7 ⟨p0,p1,p2,p3,p4,p5,p6,p7⟩ _ (H6.o.1.tr H7.o.2) H7.o.1).mono ?_;rintro e w8 ⟨rfl,gS⟩;have H8:=ab (H6.o.1.tr (H7.o.2.tr gS));clear gS));go_ret;exact ⟨by rw[HE.o];rfl,H5.o.1.tr H8.o⟩
   | true=>
    rw[E0]at Kh;have yk:=ab bi;have Xl:=ab (show ((b.fs.take k).map (·.1)).length+1<=4000000 by simp;omega);have Ly:=ab (show (b.fs.take (k+1)).map (·.1)=(b.fs.take k).map (·.1) ++ [nm]/\(b.fs.take (k+1)).all (fun x=>dA x.1 && dn (bC x.2))=true by
     rw[List.take_add_one,gy br];refine ⟨by rw[List.map_append,dK];rfl,?_⟩;rw[List.all_append,eA];simp only[Option.toList,List.all_cons,List.all_nil,Bool.and_true,dP];rw[<-dK,<-hg,Ca,E0];rfl)
    clear CM nl ar au eA dK hg lZ hf bi x5 eK jd Ca E0 c0 c1 c2 c3 c4 hok;go_wp2_with (first | (rw[<-p_.o];go_at_call 65;refine HC.o.mono ?_;rintro e w6 ⟨rfl,cI⟩;have x6:=bT cI H5.o.2.1;have s0:=ah x6 0;have s1:=ah x6 1;have s2:=ah x6 2;have s3:=ah x6 3;have s4:=ah x6 4;have H6:=aC cI x6;clear cI x6) | (go_at_call 66;refine (Di.o w6 H6.o.1).mono ?_;rintro e w7 ⟨⟨p0,p1,p2,p3,p4,p5,p6,p7⟩,rfl,J7,fD⟩;have H7:=aC J7 fD;clear J7 fD) | (go_at_call 39;refine (Kh.o w7 ⟨p0,p1,p2,p3,p4,p5,p6,p7⟩ _ (H6.o.1.tr H7.o.2) H7.o.1).mono ?_;rintro e w8 ⟨rfl,gS⟩;have r0:=aa (H7.o.2.tr gS) s0;have H8:=ab (H6.o.1.tr (H7.o.2.tr gS));clear gS) | (at_builtin;refine dU rfl _ _ rfl W1.heap.size (by have:=HO.o.1.size;have:=yk.o.size;have:=H8.o.size;simp;omega) u3 ((b.fs.take k).map (·.1)) rfl (HO.o.2.1.later ((yk.o.tr H8.o).tr cQ)) (.slice (some ⟨w8.heap.size,0,none⟩) 1 1) [nm] rfl (fun _=>True) (zQ (aj rfl)) Xl.o ?_;intro v9 w9 PD IQ;have HG:=aC PD (og ((Kp.below (M:=fun _=>False) ((HO.o.1.tr yk.o).tr H8.o)).trans (Kp.below cQ)) IQ (fun g hg=>(World.ownsRow.lt HO.o.2.1 g hg).1)).empty;clear PD IQ));go_roundw
    case rel=>exact ⟨k+1,by omega,by go_num,HG.o.2,by rw[Ly.o.1];exact HG.o.1,Ly.o.2⟩
    case measure=>simp[intOf];omega):G:=h
theorem pm103(h:G:=by
 go_wp2;refine aS (by kernel_rfl) (by kernel_rfl) ?_
 repeat (go_big_quiet_step ((go_at_call 17;exact cw (HC.o _))))
 refine wpQuiet_nil ?_;rintro _ ⟨x',rfl⟩
 first
 |clear pp103a;clear f0 f1 f2 f3 f4 f5 f6 f7;have cJ:=ab (HB.o.trans (x'.below.mono HB.o.size));cases R
  ·go_wp2;go_ret;exact ⟨aK (HNe.o (fun h=>by have:=HR.o;rw[(nW _ _).2 h]at this;cases this)).symm,cJ.o⟩
  ·go_wp2;go_roundw
   case rel=>exact ⟨k+1,by omega,by go_num,cJ.o,uS HT.o br nk ((nW _ _).1 HR.o.symm)⟩
   case measure=>simp[intOf];omega
 |clear pp103b;clear f0 f1 f2 f3 f4 f5 f6 g2 g3 g4 g5 g6;have cJ:=ab (HB.o.trans (x'.below.mono HB.o.size));go_wp2;go_ret;exact ⟨by rw[HZ.o];rfl,HE.o.1.tr cJ.o⟩
 |clear f0 f1 f2 f3 f4 f5 f6 g2 g3 g4 g5 g6;have cJ:=ab (HB.o.trans (x'.below.mono HB.o.size))
  cases V with
  | false=>
   have HZ:=ab (zF.o fun h=>by
    subst h;have:=congrArg Prod.snd (HX.o.1.trans HX.o.2.symm);have e:=HV.o;rw[(nW _ _).2 this]at e;cases e)
   go_wp2;go_ret;exact ⟨by rw[HZ.o];rfl,HE.o.1.tr cJ.o⟩
  | true=>
   go_wp2;go_roundw
   case rel=>exact ⟨k+1,by omega,by go_num,cJ.o,pu HT.o br nk (by rw[<-HX.o.1,<-HX.o.2,(nW _ _).1 HV.o.symm])⟩
   case measure=>simp[intOf];omega):G:=h
theorem pm104(h:G:=by
 obtain ⟨c0,c1,c2,c3,c4⟩:=Qp es j pD;exact pm180):G:=h
theorem pm105(h:G:=by
 refine bI (v:=.tuple #[FQ.val ⟨0,⟨#[]⟩,none,0,0,none,0,0⟩,.bool false]) (by simp[FQ.val,results,Tryz.results91,go_sem,g0,g1,g2,g3]) rfl ⟨⟨⟨0,⟨#[]⟩,none,0,0,none,0,0⟩,by rw[HE.o];rfl,fun u hu=>by rw[HE.o]at hu;cases hu⟩,Below.kp1 ((dy.o.1.tr dy.o.2).tr H5.o.1) k6 (by omega)⟩):G:=h
theorem pm106(h:G:=by
 rw[<-cP]at x6 k6 ⊢;clear cP;have g0:W6.cell? ⟨w.heap.size+1,0,none⟩=some (.int .u8 p0):=ah x6 0;have g1:W6.cell? ⟨w.heap.size+1,1,none⟩=some (.string p1):=ah x6 1;have g2:W6.cell? ⟨w.heap.size+1,2,none⟩=some (.slice p2 p3 p4):=ah x6 2;have g3:W6.cell? ⟨w.heap.size+1,3,none⟩=some (.slice p5 p6 p7):=ah x6 3
 first
 |clear pp106;have uQ:=E8 (p:=⟨p0,p1,p2,p3,p4,p5,p6,p7⟩) (B:=w.heap.size+1) (HB.o.1.tr (H3.o.1.tr (H5.o.tr H6.o.1))) (by omega) k6 (H6.o.2.move (fun b hok _=>⟨by have h1:=HB.o.2.1;have h2:=H3.o.1.size;have h3:=H5.o.size;have h:w5.heap.size<=b:=hok;omega,rfl⟩));refine bI (v:=FQ.val ⟨p0,p1,p2,p3,p4,p5,p6,p7⟩) (by simp[FQ.val,results,Tryz.results72,go_sem,g0,g1,g2,g3]) rfl ⟨⟨⟨p0,p1,p2,p3,p4,p5,p6,p7⟩,rfl,?_⟩,uQ.2⟩;rw[HR5.o];exact uQ.1
 |have uQ:=E8 (p:=⟨p0,p1,p2,p3,p4,p5,p6,p7⟩) (B:=w.heap.size+1) (HB.o.1.tr (H3.o.1.tr (H5.o.tr H7.o))) (by omega) k6 (HP7.o.move (fun b hok _=>⟨by have h1:=HB.o.2.1;have h2:=H3.o.1.size;have h3:=H5.o.size;have h:w5.heap.size<=b:=hok;omega,rfl⟩));refine bI (v:=FQ.val ⟨p0,p1,p2,p3,p4,p5,p6,p7⟩) (by simp[FQ.val,results,Tryz.results72,go_sem,g0,g1,g2,g3]) rfl ⟨⟨⟨p0,p1,p2,p3,p4,p5,p6,p7⟩,rfl,?_⟩,uQ.2⟩;rw[HR5.o];exact uQ.1):G:=h
theorem pm107(h:G:=by
 obtain ⟨r,rfl⟩:∃r,n=63 :: r:=sD (by
  cases h2:(n.head? == some 63)
  ·simp[da,dA,cW,h2]at h
  ·rfl)
 have C1:=ab (fun w=>h ▸ ip (63 :: r) w hn);exact pm194):G:=h
theorem pm108(h:G:=by
 have HE:=ab (show R=true by rw[ht,jk (by rw[PV.o];exact aF _)];simp[ee]);have dy:=ab (lw.o.trans (fp.mono lw.o.size));clear fp ht;go_wp2;go_ret;exact ⟨aK HE.o.symm,dy.o⟩):G:=h
theorem pm109(h:G:=by
 have AC:Below w.heap.size w X:=aq QS.o.1 h4 (fun b hb=>(TI.o b hb).1);have kl:Marks w.heap.size X _:=Hv3.o.2.more (w':=X) (fun E hE hx=>(h4.same E (bn hx) (fun hm=>by rw[HM3.o]at hm;rcases hm with rfl | rfl <;> first | (rw[QS.o.2.2.2]at hx;cases hx) | (rw[HnV.o]at hx;cases hx))).trans hx) hD (aQ QS.o.1.size hD) hd
 first
 |clear pp109;have r0:=ah h3 0;have z0:=ac h3 0;have HX:=bE AC kl h3;clear h1 h2 h3 h4 X7 hd AC kl hD;gi_wp2_with fail;obtain ⟨W8,lQ⟩:=ao (X.setCell ⟨w.heap.size+1+1,0,none⟩ (.int .i64 0));have k8:Kp (fun b=>b=w.heap.size+1+1) X W8:=by rw[lQ];exact iR
  have x8:=iQ HX.o.2.2 (v:=.int .i64 0);rw[<-lQ]at x8 ⊢;refine ei (B:=w.heap.size) (HX.o.2.1.move (fun D _ hd=>(k8.same D (bn hd) (fun h=>by subst h;rw[HX.o.2.2]at hd;cases hd)).trans hd)) (fun w' hn=>?_);have h0:=hn.cell (ah x8 0);exact ⟨.int .i64 0,by simp[results,Tryz.results71,go_sem,h0],by rw[HE.o],jp (aq HX.o.1 k8 (fun b hb=>by omega)) hn⟩
 |have HE:=ab (show R=3 by rw[HR.o,aD (by rw[<-TA.o,HA1.o];simp),aD (by have h:=HA2.o;rw[XZ.o]at h;rw[h];simp),aX (by have:=Ty (dt.map E7);rw[zbc.o]at this h2;omega)]);have HX:=bE AC kl h3;clear h2 h3 h4 hd dt AC kl hD;gi_wp2_with fail;refine ei (B:=w.heap.size) HX.o.2.1 (fun w' hn=>?_);have h0:=hn.cell (ah HX.o.2.2 0);exact ⟨.int .i64 3,by simp[results,Tryz.results71,go_sem,h0],by rw[HE.o],jp HX.o.1 hn⟩):G:=h
theorem pm110(h:G:=by
 obtain ⟨aR,ap,hg,_⟩:=HG.o;have cV:=eW.o.stepT (F:=2) (t:=u') (p:=⟨pv,pn,pa,pl,pc⟩) (g:=g) (cap:=eG) (by rw[uf.o.2];exact zG.o.2.1) (by rw[uf.o.2];exact zG.o.1) zG.o.2.2 JD.o.2 JD.o.1 (by rw[uf.o.2];exact aR) ap (by rcases hg with h | h;exact .inl h;exact .inr (by simp;omega)) rfl;rw[uf.o.2]at cV
 first
 |clear pp110;exact ⟨k1+1,by omega,by go_num,_,SD ++ [u'],cV,uf.o.1,by rw[di,uf.o.2];rfl⟩
 |exact ⟨k+1,by omega,by go_num,_,us ++ [u'],cV,uf.o.1,by rw[di,uf.o.2];rfl⟩):G:=h
theorem pm111(h:G:=by
 have l2:=(hlk (W2.alloc (.cells #[.int .u8 0,.string ⟨#[]⟩,.slice none 0 0,.slice none 0 0] 36)).drew (bK _ _ _ (by have:=H2.o.2.2.fs.lt;omega))).1
 first
 |clear pp111a;have Nc:=ab (show R=true by rw[hE,hg]);obtain ⟨W3,ec⟩:=ao (W2.alloc (.cells #[.int .u8 0,.string ⟨#[]⟩,.slice none 0 0,.slice none 0 0] 36)).drew;have x3:W3.heap[w.heap.size+1]?=some (.cells #[.int .u8 16,.string ⟨n.toArray⟩,.slice sa n1 sc,.slice sb m1 se] 36 (0,0)):=by rw[ec];exact (aJ.block _ (bn H2.o.2.1)).trans H2.o.2.1
  have i0:=ah x3 0;have bM:=ab (show Below w.heap.size w W3 by rw[ec];exact H2.o.1.tr aJ.drew);clear hlk hg aJ hE x3 FM aO xy fL IU ES GZ Ou;go_enter Tryz.func124,Tryz.ntmps124;go_upto_region 4 with fail;rw[<-gF.o];go_region
  all_goals
   rw[<-ec];clear ec;go_wp2;go_ret;exact ⟨by rw[Nc.o];rfl,bM.o⟩
 |clear pp111b;rw[hg]at hE;simp only[show ¬((16:Int)=15) by decide,↓reduceIte]at hE;obtain ⟨W3,ec⟩:=ao (W2.alloc (.cells #[.int .u8 EG,.string EH,.slice EI EJ EK,.slice EL EM EN] 36)).drew;have pW:Below W2.heap.size W2 W3:=by rw[ec];exact cQ.drew
  have x3:=bT pW H2.o.2.1;have y3:W3.heap[W2.heap.size]?=some (.cells #[.int .u8 EG,.string EH,.slice EI EJ EK,.slice EL EM EN] 36 (0,0)):=by rw[ec];exact aj rfl
  obtain ⟨i0,i1,i2,i3,_,_,_,_⟩:=dh x3;have C7:=ab (HIN.o W3 pW);have Ni:=ab (fun (V:World) (h:Below W3.heap.size W3 V)=>jv dc f GW.fit _ V ⟨EG,EH,EI,EJ,EK,EL,EM,EN⟩ ((oZ.later pW).later h));simp only[FQ.val]at Ni;obtain ⟨n0,ud⟩:=ao (iC dc f);rw[<-ud]at hE Ni;have H3:=bE pW y3 (H2.o.2.2.later pW);have HE3:=ab hE;clear hlk hg aJ hE x3 y3 FM aO xy fL IU ES GZ Ou oZ GW ud pW;go_enter Tryz.func124,Tryz.ntmps124;go_upto_region 4 with fail;rw[<-gF.o];go_region
  all_goals
   rw[<-ec];clear ec l1 l2 g0 g1 g3 g4 g5 e0 e1 e2 e3;go_upto_region 8 with (go_at_call 96;refine C7.o.mono ?_;rintro e w4 ⟨rfl,aP⟩;have H4:=ab aP;clear aP);clear i0 i1 i2 i3;have oX:=H3.o.2.2.later H4.o;have k1:w4.cell? ⟨kb,1,none⟩=some (.map (some mT)):=ah oX.box 1;have y4:=bT H4.o H3.o.2.1;obtain ⟨j0,j1,j2,j3,_,_,_,_⟩:=dh y4;have ZC:=ab (Ni.o w4 H4.o);rcases oX.ts.look Tryz.underlying9 Tryz.underlying146 jK (x:=y) (by have:=HY.o.1;omega) with ⟨hg,hlk⟩ | ⟨t,vt,hg,hvt,hlk⟩
   ·have l1:=(hlk w4 rfl).1;have Nc:=ab (show R=decide (n0 > 0) by rw[HE3.o,hg];rfl);clear hlk hg oX y4;go_wp2_with (go_at_call 97;refine ZC.o.mono ?_;rintro e w5 ⟨rfl,bi⟩;have H5:=ab bi;clear bi);go_ret;exact ⟨by rw[Nc.o];simp,(H2.o.1.tr H3.o.1).tr (H4.o.tr H5.o)⟩
   ·obtain ⟨⟨Qb,Qc,Qd,Qe,Qf⟩,rfl,pT,Wh⟩:=hvt;simp only[TQ.val]at hlk;have l1:=(hlk w4 rfl).1;have Nc:=ab (show R=false by rw[HE3.o,hg];rfl);clear hlk hg oX y4 pT Wh;go_wp2;go_ret;exact ⟨by rw[Nc.o];rfl,(H2.o.1.tr H3.o.1).tr H4.o⟩
 |have Nc:=ab (show R=false by rw[hE,hg];rfl);obtain ⟨W3,ec⟩:=ao (W2.alloc (.cells #[.int .u8 EG,.string EH,.slice EI EJ EK,.slice EL EM EN] 36)).drew;have pW:Below W2.heap.size W2 W3:=by rw[ec];exact cQ.drew
  have i0:=ah (bT pW H2.o.2.1) 0;have bM:=ab (H2.o.1.tr pW);clear hlk hg aJ hE oZ GW pW;go_enter Tryz.func124,Tryz.ntmps124;go_upto_region 4 with fail;rw[<-gF.o];go_region
  all_goals
   rw[<-ec];clear ec;go_wp2;go_ret;exact ⟨by rw[Nc.o];rfl,bM.o⟩):G:=h
theorem pm112(h:G:=by
 have ku:=cX ec;have nG:=bX ec;rw[<-ec];have f0:=fun x:Later W3=>x.get (ah nG 0);have f1:=fun x:Later W3=>x.get (ah nG 1);have f2:=fun x:Later W3=>x.get (ah nG 2)
 first
 |clear pp112a;have g0:=fun x:Later W3=>x.get (aa ku Ea.o);have g1:=fun x:Later W3=>x.get (aa ku ru.o.1);have g2:=fun x:Later W3=>x.get (aa ku ru.o.2.1);have g3:=fun x:Later W3=>x.get (aa ku ru.o.2.2);have bM:=ab ku;have CC:=ab (fun (x:Later W3)=>zA xa[k] ya[k] ps (.slice pa p0 pc) ok ok' x.w u u' WX Jw.o ((HU.o.later bM.o).later x.below) ((Bo.o.later bM.o).later x.below) ((BO.o.later bM.o).later x.below));rw[<-Jy.o]at CC;unfold TQ.val at CC;clear ec ku nG d0 d1 d2 y2;refine aS (by kernel_rfl) (by kernel_rfl) ?_
  repeat (go_big_quiet_step ((go_at_call 160;exact cw (CC.o _))))
  refine wpQuiet_nil ?_;rintro _ ⟨x',rfl⟩;clear f0 f1 f2 g0 g1 g2 g3;exact pm26
 |clear pp112b;have f3:=fun x:Later W3=>x.get (aa ku Ea.o);have f4:=fun x:Later W3=>x.get (aa ku ru.o.1);have f5:=fun x:Later W3=>x.get (aa ku ru.o.2.1);have f6:=fun x:Later W3=>x.get (aa ku ru.o.2.2);have bM:=ab ku;have CC:=ab (fun (x:Later W3)=>Wl.o ya[k] ps (.slice pa p0 pc) ok ok' x.w u u' (by rw[<-FF.o];exact iF) Jw.o ((HU.o.later bM.o).later x.below) ((Bo.o.later bM.o).later x.below) ((BO.o.later bM.o).later x.below));rw[<-Jy.o]at CC;unfold TQ.val at CC;clear ec ku nG d0 d1 d2 y2;refine aS (by kernel_rfl) (by kernel_rfl) ?_
  repeat (go_big_quiet_step ((go_at_call 160;exact cw (CC.o _))))
  refine wpQuiet_nil ?_;rintro _ ⟨x',rfl⟩;clear f0 f1 f2 f3 f4 f5 f6;exact pm26
 |have f3:=fun x:Later W3=>x.get (ah nG 3);have g0:=fun x:Later W3=>x.get (aa ku Ea.o);have g1:=fun x:Later W3=>x.get (aa ku ru.o.1);have g2:=fun x:Later W3=>x.get (aa ku ru.o.2.1);have g3:=fun x:Later W3=>x.get (aa ku ru.o.2.2.1);have g4:=fun x:Later W3=>x.get (aa ku ru.o.2.2.2);have bM:=ab ku
  first
  |clear pp31a;have CC:=ab (fun (x:Later W3)=>fd.o xs[k] (az br) ys[k] ps (.slice pa p0 pc) ok ok' x.w u u' PW Jw.o ((HU.o.later bM.o).later x.below) ((Bo.o.later bM.o).later x.below) ((BO.o.later bM.o).later x.below));rw[<-Jy.o]at CC;unfold FQ.val at CC;clear ec ku nG d0 d1 d2 d3 y2;refine aS (by kernel_rfl) (by kernel_rfl) ?_
   repeat (go_big_quiet_step ((go_at_call 92;exact cw (CC.o _))))
   refine wpQuiet_nil ?_;rintro _ ⟨x',rfl⟩;clear f0 f1 f2 f3 g0 g1 g2 g3 g4;exact pm26
  |clear pp31b;have CC:=ab (fun (x:Later W3)=>fd.o xs[k] (az br) ys[k] (ps ++ [(xn,xn)]) (.slice (some ⟨g,0,none⟩) (p0+1) cap) ok ok' x.w u u' PW Jw.o ((HU.o.later bM.o).later x.below) ((Bo.o.later bM.o).later x.below) ((BO.o.later bM.o).later x.below));rw[<-Jy.o]at CC;unfold FQ.val at CC;clear ec ku nG d0 d1 d2 d3 y2;refine aS (by kernel_rfl) (by kernel_rfl) ?_
   repeat (go_big_quiet_step ((go_at_call 92;exact cw (CC.o _))))
   refine wpQuiet_nil ?_;rintro _ ⟨x',rfl⟩;clear f0 f1 f2 f3 g0 g1 g2 g3 g4;exact pm26
  |have CC:=ab (fun (x:Later W3)=>fd.o xs[k] (az br) ys[k] (ps ++ [(xn,yn)]) (.slice (some ⟨g,0,none⟩) (p0+1) cap) ok ok' x.w u u' PW Jw.o ((HU.o.later bM.o).later x.below) ((Bo.o.later bM.o).later x.below) ((BO.o.later bM.o).later x.below));rw[<-Jy.o]at CC;unfold FQ.val at CC;clear ec ku nG d0 d1 d2 d3 y2;refine aS (by kernel_rfl) (by kernel_rfl) ?_
   repeat (go_big_quiet_step ((go_at_call 92;exact cw (CC.o _))))
   refine wpQuiet_nil ?_;rintro _ ⟨x',rfl⟩;clear f0 f1 f2 f3 g0 g1 g2 g3 g4;exact pm26):G:=h
theorem pm113(h:G:=by
 simp only[TQ.val,cA,Array.mk.injEq,cr,and_true,Value.bool.injEq,Value.string.injEq]at h2;obtain ⟨rfl,rfl,rfl⟩:=h2
 first
 |clear pp113a;have hW:Below wr.heap.size wr (wr.alloc (.cells #[.bool uv,.string ⟨xn.toArray⟩,.slice ua ul uc] 43)):=cQ;have oL:(wr.alloc (.cells #[.bool uv,.string ⟨xn.toArray⟩,.slice ua ul uc] 43)).heap[wr.heap.size]?=some (.cells #[.bool uv,.string ⟨xn.toArray⟩,.slice ua ul uc] 43 (0,0)):=aj rfl;have hL1:NAt L 9223372036854775807 wr:=HL.o.kp bj (fun h=>Zg h.symm);have zeB:N<wr.heap.size:=(bn hn);have C1:=Ja N L Zg (k+nodesTs (l.take j)) _ ⟨uv,⟨xn.toArray⟩,ua,ul,uc⟩ (hn.later hW) (hL1.later hW) (by omega) (by omega);unfold TQ.val at C1;have CC:=fun (W:World) (h:Kp (fun c=>c=N) wr W) (hN:NAt N (k+nodesTs (l.take j)+1) W)=>qB N L ok (k+nodesTs (l.take j)+1) W ua ul uc Zg hf.args (fL.move (fun b hb hlt=>⟨hb,h.same b hlt (jP.o b hb)⟩)) jP.o hN (hL1.kp h (fun h=>Zg h.symm)) (by omega) (by simp only[Tm.a];omega);simp only[Tm.a]at CC;obtain ⟨P,hP⟩:=ao (nodesTs (l.take j));obtain ⟨M,hM⟩:=ao (nodesTs xa);rw[<-hP,<-hM]at jb;rw[<-hP]at C1;rw[<-hP,<-hM]at CC;obtain ⟨C7,kV,HS,kD⟩:=eR C1 CC jb bj;have HW:=aC hW oL;clear hu iA qB hf hx fL hn C1 CC jb bj hW oL hL1 hP hM sJ c0 c1 c2;go_wp2_with (first | (go_at_call 231;refine C7.o.mono ?_;rintro e w1 ⟨rfl,ej,dT⟩;have e2:w1.cell? ⟨wr.heap.size,2,none⟩=some (.slice ua ul uc):=ah ((ej.same _ (by simp) (by omega)).trans HW.o.2) 2;have HH1:=aC ((Kp.below HW.o.1).trans ej) dT;clear ej dT) | (go_at_call 230;refine (kV.o _ HH1.o.1 HH1.o.2).mono ?_;rintro e w2 ⟨rfl,fW,ks⟩;have HH2:=aC fW ks;clear fW ks));go_roundw
  case rel=>exact ⟨j+1,by omega,by go_num,kD.o.trans (HH1.o.1.trans HH2.o.1),by have h:=HH2.o.2;rw[HS.o];rw[show k+((P+(M+1):Nat):Int)=k+(P:Int)+1+(M:Int) by omega];exact h⟩
  case measure=>simp[intOf];omega
 |clear pp113b;obtain ⟨d0,d1,d2⟩:=kB ar c0 c1 c2;have hW:Below wr.heap.size wr (wr.alloc (.cells #[.bool uv,.string ⟨xn.toArray⟩,.slice ua ul uc] 43)):=cQ;have FE:(k:Int)<(k0:Int):=by omega
  by_cases hc:uv=true/\xn=x
  ·obtain ⟨rfl,rfl⟩:=hc;have gx:(xn == xn)=true:=by simp
   have HE:=ab (show R=some [k] by rw[ht];simp[nN]);have HB:=ab (ar.trans (hW.mono ar.size));clear ar hW hu fL hf qB hx ht c0 c1 c2;go_wp2;go_ret;refine ⟨⟨_,rfl,?_⟩,?_⟩
   ·rw[HE.o];exact IntsV.one 1 (aF _) (aj (by simp))
   ·exact HB.o.trans (cQ.mono HB.o.size)
  ·have Wh:nN x (.mk uv xn xa)=eC x xa 0:=by
    rw[nN,aD];simpa using hc
   rw[Wh]at ht;have C1:=qB x ok _ ua ul uc hf.args ((fL.later ar).later hW);simp only[Tm.a]at C1;obtain ⟨S,hS⟩:=ao (eC x xa 0);have Ux:∀ p,S=some p->p≠[]/\p.length<=2000000:=fun p hp=>by
    rw[hS]at hp;exact ⟨wd hp,aQ (mu xa 0 p hp) hf.args.1⟩
   rw[<-hS]at ht C1;obtain ⟨HC,HT⟩:=aZ C1 ht;have HB:=ab (ar.trans (hW.mono ar.size));have HLS:=ab Ux;have St:uv=true->(xn == x)=false:=fun h=>by simpa using fun h'=>hc ⟨h,h'⟩
   clear ar hW hu fL hf qB hx ht c0 c1 c2 hS Ux C1 Wh hc;cases uv
   ·clear St;exact pm14
   ·have gx:(xn == x)=false:=St rfl;clear St;exact pm14
 |clear pp113c;have f0:=fun x:Later wr=>x.get (aa ar c0);have f1:=fun x:Later wr=>x.get (aa ar c1);have f2:=fun x:Later wr=>x.get (aa ar c2);have FE:(k:Int)<(k0:Int):=by omega
  have lG:=hf.name;have YK:=g_ xn;have htd:=Rk xn.length;obtain ⟨q,hq⟩:=ao (xn.length / 40);have Ot:q<=50000:=by omega
  obtain ⟨R,hR⟩:=ao (jr xa (left - m) 0);have hRb:=(mE xa (left - m) 0).2.1;have FG:=hf.args.sz;have CC:=fun (x:Later wr)=>qB ok x.w ua ul uc (left - m) hf.args ((fL.later ar).later x.below) (by omega) (by omega);simp only[Tm.a]at CC;rw[<-hR]at CC hRb;have AO:jr l left 0=jr (l.drop (k+1)) left (m+(1+q+R)):=by
   rw[hcut];simp only[jr,aX pS,KE];rw[hq,hR]
  have J8:m+(1+q+R)<=100002000000:=by
   have h5:=(mE l left 0).2.1;have h6:=(mE (l.drop (k+1)) left (m+(1+q+R))).1;omega
  rw[<-hq]at htd;have ye:IntKind.i64.wrap ((q:Nat):Int)=q:=ik _ (by omega);have Ok:IntKind.i64.wrap (1+((q:Nat):Int))=1+(q:Int):=ik _ (by omega);have U_:IntKind.i64.wrap (left - (m:Int))=left - (m:Int):=ik _ (by omega);have Tb:IntKind.i64.wrap (1+(q:Int)+(R:Int))=1+(q:Int)+(R:Int):=ik _ (by omega);have ZE:IntKind.i64.wrap ((m:Int)+(1+(q:Int)+(R:Int)))=((m+(1+q+R):Nat):Int):=by rw[ik _ (by omega)];omega
  obtain ⟨HC,HB⟩:=aZ CC ar;have HS:=aC AO J8;clear hu qB hf hx fL ar hcut CC hq VE AO J8 hR hRb FG c0 c1 c2;go_wp2;refine aS (by kernel_rfl) (by kernel_rfl) ?_
  repeat (go_big_quiet_step ((go_at_call 54;exact cw (HC.o _))))
  refine wpQuiet_nil ?_;rintro _ ⟨x',rfl⟩;clear f0 f1 f2 ye Ok U_ Tb ZE htd YK;have cJ:=ab (HB.o.trans (x'.below.mono HB.o.size));go_wp2;go_roundw
  case rel=>exact ⟨k+1,_,by omega,by go_num,rfl,cJ.o,HS.o.1,HS.o.2⟩
  case measure=>simp[intOf];omega
 |simp only at d0 d1 d2;obtain rfl:=fL.len;obtain ⟨z0,z1,z2,y0,y1,y2⟩:=fX Ex;have HW:=aC hw hyy;have HB:=rK Ex bj hu fL hf ja;have V5:(pq.drop (j+1)).length=j+1 - (j+1)+(n2 - (j+1)):=by rw[HN.o.2.1];simp
  have HDl:=ab V5;clear ST cb yo bj ug PG Ex el pY hjp Zr hw en hu fL hf ja hy hyy V5;go_wp2;go_roundw
  case rel=>
   have x9:=qt (v0:=.bool uv) (v1:=.string ⟨xn.toArray⟩) (v2:=.slice ua xa.length uc) HB.o.1;have k9:=eF (W:=wr) (b:=wo.heap.size) (v0:=.bool uv) (v1:=.string ⟨xn.toArray⟩) (v2:=.slice ua xa.length uc);refine ⟨j+1,.mk uv xn xa,xa,⟨uv,⟨xn.toArray⟩,ua,xa.length,uc⟩,ua,uc,by omega,by go_num,rfl,HB.o.2.1.trans k9,x9,HB.o.2.2.2.1.move (fun b hb hlt=>⟨hb,k9.same b hlt (by have:=HZ.o;omega)⟩),HB.o.2.2.2.2.1.args,fun h=>?_,fun _=>⟨HB.o.2.2.1.move (fun b hb hlt=>⟨hb,k9.same b hlt (by have:=HZ.o;omega)⟩),HB.o.2.2.2.2.1,fun h=>?_⟩⟩
   ·rw[HW.o.1,zP (fun hd=>by have:=HDl.o;rw[hd]at this;simp at this;omega),HW.o.2];rfl
   ·have hd:pq.drop (j+1)=[]:=jj (by have:=HDl.o;omega);rw[HW.o.1,hd];exact HW.o.2
  case measure=>simp[intOf];omega):G:=h
theorem pm114(h:G:=by
 exact pm235):G:=h
theorem pm115(h:G:=by
 obtain ⟨fJ,fK,rfl⟩:=hF.row.slice;rw[cb]at hF;have HR:=ab (j4 ▸ hF.row);have x2:=hF.box;have x1:=hF.other (by omega) jI.o;have x0:=hF.other (by omega) MA.o
 first
 |clear pp115a;have p2:jg.cell? ⟨w.heap.size,2,none⟩=some (.slice qa k1 qc):=ah x0 2;have p3:jg.cell? ⟨w.heap.size,3,none⟩=some (.slice qb m0 qe):=ah x0 3;have MB:=ab x1;have V0:=HR;obtain ⟨rM,x_,yb⟩:=cD ar hF.lt hF.size;have vW:=ab (Fills.start (R:=w.heap.size+1+1) (mk:=fun rr=>#[.int .u8 qo,.string ⟨n.toArray⟩,.slice fJ k1 fK,rr]) (Row:=fun r W=>RowF jg.heap.size r ((s.map bC).take 0) W) x2 (RowF.nil _ _));clear j4 cb hF x0 x1 x2 ar HR;gi_wp2;gi_loopw [31] (fun i wr=>∃k:Nat,k<=m0/\i=.int .i64 k/\∃row,Fills 36 (w.heap.size+1+1) jg.heap.size (fun rr=>#[.int .u8 qo,.string ⟨n.toArray⟩,.slice fJ k1 fK,rr]) (fun r W=>RowF jg.heap.size r ((s.map bC).take k) W) jg wr row) (fun i _=>m0 - (intOf i).toNat)
  case atStart=>exact ⟨0,bc _,rfl,_,vW.o⟩
  case round=>
   obtain ⟨k,hk,rfl,row,hF⟩:=hrel;have ar:=hF.below rM.o (Nat.le_add_right _ 2)
   by_cases hlt:k<m0
   ·have dG:=ct ib.o hlt;have pp138b:=();exact pm138
   ·obtain rfl:k=m0:=by omega
    have cb:((s.map bC).take k).length=k:=by rw[dX];have:=ib.o;simp;omega
    have j4:(s.map bC).take k=(s.map bC):=ii (by have:=ib.o;simp;omega);have pp190b:=();exact pm190
 |clear pp115b;have xu:=hF.other (by omega) HXU.o;have CQ:=eN ⟨qo,⟨n.toArray⟩,qa,k1,qc,qb,m0,qe⟩ Ep;simp only[FQ.val]at CQ;obtain ⟨e0,e1,e2,e3⟩:=mi x0;have IM:=ab CQ;have HE:=fA x0 x1 xu x2 ar;have x_:=ab hF.lt;have PA:=hF.size;clear CQ hF x0 x1 xu x2 ar j4 cb;gi_wp2_with fail;refine aL.2 (IM.o.mono ?_);rintro e jg ⟨rfl,ob⟩;clear e0 e1 e2 e3;have yb:=ab (show W1.heap.size<=jg.heap.size from aQ PA ob.size);have x0:=bT ob HE.o.1;have x1:=bT ob HE.o.2.1;have xu:=bT ob HE.o.2.2.1;have x2:=bT ob HE.o.2.2.2.1;have rM:=ab (HE.o.2.2.2.2.tr ob);have V0:=ab (HR.o.below ob);obtain ⟨MB,zcC,SM⟩:=cD x1 xu x0;clear HE HR ob PA
  cases p9:bD qo with
  | false=>
   have wk:Hd (RS=.mk qo n (a.map (iB nx z)) (s.map (eD kk nx z))):=ab (by rw[UN.o,qH p9];rfl);have p3:jg.cell? ⟨w.heap.size,3,none⟩=some (.slice qb m0 qe):=ah x0 3;have vW:=ab (Fills.start (R:=w.heap.size+1+1+1) (mk:=fun rr=>#[.int .u8 qo,.string ⟨n.toArray⟩,.slice fJ k1 fK,rr]) (Row:=fun r W=>RowF jg.heap.size r ((s.map (eD kk nx z)).take 0) W) x2 (RowF.nil _ _));clear x0 x1 xu x2 p9;gi_wp2;gi_loopw [90] (fun i wr=>∃k:Nat,k<=m0/\i=.int .i64 k/\∃row,Fills 36 (w.heap.size+1+1+1) jg.heap.size (fun rr=>#[.int .u8 qo,.string ⟨n.toArray⟩,.slice fJ k1 fK,rr]) (fun r W=>RowF jg.heap.size r ((s.map (eD kk nx z)).take k) W) jg wr row) (fun i _=>m0 - (intOf i).toNat)
   case atStart=>exact ⟨0,bc _,rfl,_,vW.o⟩
   case round=>
    obtain ⟨k,hk,rfl,row,hF⟩:=hrel;have ar:=hF.below rM.o ((by omega))
    by_cases hlt:k<m0
    ·have dG:=ct ib.o hlt;have pp138c:=();exact pm138
    ·obtain rfl:k=m0:=by omega
     have cb:((s.map (eD kk nx z)).take k).length=k:=by rw[dX];have:=ib.o;simp;omega
     have j4:(s.map (eD kk nx z)).take k=(s.map (eD kk nx z)):=ii (by have:=ib.o;simp;omega);have pp190c:=();exact pm190
  | true=>
   obtain ⟨rfl,g,rfl⟩:=HQs.o p9;obtain rfl:m0=1:=ib.o;obtain rfl:k1=0:=dJ.o;have pp185:=();exact pm185
 |have CQ:=eN ⟨so,⟨n.toArray⟩,sa,k1,sc,sb,m1,se⟩ Ep;simp only[FQ.val]at CQ;obtain ⟨e0,e1,e2,e3⟩:=mi x0;have IM:=ab CQ;have HE:=cC x0 x1 x2 ar;have x_:=ab hF.lt;have PA:=hF.size;clear CQ hF x0 x1 x2 ar j4 cb;gi_wp2_with fail;refine aL.2 (IM.o.mono ?_);rintro e jg ⟨rfl,ob⟩;clear e0 e1 e2 e3;have yb:=ab (show W1.heap.size<=jg.heap.size from aQ PA ob.size);have x0:=bT ob HE.o.1;have x1:=bT ob HE.o.2.1;have x2:=bT ob HE.o.2.2.1;have rM:=ab (HE.o.2.2.2.tr ob);have V0:=ab (HR.o.below ob);obtain ⟨MB,SM,zdm⟩:=cD x1 x0 x2;clear HE HR ob PA
  cases p9:bD so with
  | false=>
   have wk:Hd (RS=.mk so n (a.map (bY kd.ts c)) (ss.map (cH kd c))):=ab (by rw[UN.o,TJ DK.o.1 DK.o.2 p9]);have p3:jg.cell? ⟨w.heap.size,3,none⟩=some (.slice sb m1 se):=ah x0 3;have Xt:=ab (Fills.start (R:=w.heap.size+1+1) (mk:=fun rr=>#[.int .u8 so,.string ⟨n.toArray⟩,.slice fJ k1 fK,rr]) (Row:=fun r W=>RowF jg.heap.size r ((ss.map (cH kd c)).take 0) W) x2 (RowF.nil _ _));clear x0 x1 x2 p9;gi_wp2;gi_loopw [121] (fun i wr=>∃k:Nat,k<=m1/\i=.int .i64 k/\∃row,Fills 36 (w.heap.size+1+1) jg.heap.size (fun rr=>#[.int .u8 so,.string ⟨n.toArray⟩,.slice fJ k1 fK,rr]) (fun r W=>RowF jg.heap.size r ((ss.map (cH kd c)).take k) W) jg wr row) (fun i _=>m1 - (intOf i).toNat)
   case atStart=>exact ⟨0,bc _,rfl,_,Xt.o⟩
   case round=>
    obtain ⟨k,hk,rfl,row,hF⟩:=hrel;have ar:=hF.below rM.o (by omega)
    by_cases hlt:k<m1
    ·have dG:=ct IS.o hlt;exact pm138
    ·obtain rfl:k=m1:=by omega
     have cb:((ss.map (cH kd c)).take k).length=k:=by rw[dX];have:=IS.o;simp;omega
     have j4:(ss.map (cH kd c)).take k=(ss.map (cH kd c)):=ii (by have:=IS.o;simp;omega);exact pm190
  | true=>
   obtain ⟨rfl,g,rfl⟩:=HQs.o p9;obtain rfl:m1=1:=IS.o;obtain rfl:k1=0:=pR.o;exact pm185):G:=h
theorem pm116(h:G:=by
 have:(n,g)∈l:=by
  clear h
  induction l with
  | nil=>simp[getB]at hg
  | cons x l ih=>
   obtain ⟨y,v⟩:=x;unfold getB at hg;split at hg
   ·rename_i e;simp only[gz]at hg;rw[fY]at e;subst e hg;exact ij ..
   ·exact iU _ (ih hg)
 have:=h.1 _ this;exact ⟨this.2,this.1⟩):G:=h
theorem pm117(h:G:=by
 exact bI (v:=.bool true) (by simp[results,Tryz.results5,go_sem,tr]) Mw ⟨rfl,eL⟩):G:=h
theorem pm118(h:G:=by
 refine hQ a γ w ⟨h.df,h.sz,h.ou,fun k o ho hd _=>h.nod k o ho hd (eA k (bn ho)),fun k o d ho hd _=>h.val k o d ho hd (eA k (bn ho)),fun k hk hl=>by simp[Array.getD,hk]at hl,h.inv,fun k o d ho _ hl=>by simp[Array.getD,(bn ho)]at hl,fun _ _ _ _ e _ _ hlt=>by simp[Array.getD,hlt]⟩):G:=h
theorem pm119(h:G:=by
 have HF:=ab (HE.o.trans j6);obtain ⟨yG,kD⟩:=aZ hj bj;clear j6 hj bj ha hc ht;go_wp2;go_ret;have XM:=HN.o;have h8:=yG.o;rw[show left - 1 - (nodesTs a:Int) - (nodesFs s:Int)=left - ((nodesTs a+nodesFs s+1:Nat):Int) by omega,<-XM]at h8;exact JPost.yes HF.o kD.o h8 (by omega)):G:=h
theorem pm120(h:G:=by
 have j4:s.take k=s:=by rw[ib.o];exact cO
 rw[j4]at zE;have wb:=ab hF.row;have x2:=hF.box;have x1:=hF.other (by omega) Po.o;have xp:=hF.other (by omega) Pn.o;have HE:=ab (show RS=some (.mk qo n SD us) from Pp.o.2.2 _ _ HAs.o.1 zE);have HRA:=ab (JF.o.kp1 hF.kp Pk.o.2);exact pm30):G:=h
theorem pm121(h:G:=by
 refine bL 7 98 (.tuple #[.agg #[.bool u0,.string u1,.slice u2 u3 u4],.bool I.isSome]) rfl kf fun mK=>?_;simp only[ag];refine bL 8 106 (.agg #[.bool u0,.string u1,.slice u2 u3 u4]) rfl mK fun sg=>?_;simp only[ag];refine bL 9 107 (.bool I.isSome) rfl sg fun JT=>?_;simp only[ag]
 first
 |clear pp121;refine ce 10 rfl fun K hK=>?_
  go_simp;obtain ⟨EB,S7⟩:=ao w6.heap.size;obtain ⟨A1,FK⟩:=ao (w6.alloc (.cells #[.bool false,.string ⟨#[]⟩,.slice none 0 0] 43));have GX:Below W5.heap.size W5 A1:=by rw[FK];exact H6.o.1.alloc H6.o.1.size _
  have zaU:=cX FK;have Zz:A1.heap[EB]?=some (.cells #[.bool false,.string ⟨#[]⟩,.slice none 0 0] 43 (0,0)):=by rw[FK,S7];exact aj rfl
  rw[<-FK,<-S7];have HA:=cC GX zaU Zz S7;refine hK _ _ (fun _=>by rw[du.o];exact HA.o.1) (fun _=>?_);obtain ⟨z0,z1,z2,y0',y1',y2'⟩:=fX Zz;clear hK K FK S7 GX zaU Zz;refine ce 11 rfl fun K hK=>?_;go_simp;refine hK _ _ (fun _=>by rw[du.o];exact Below.kp1 HA.o.1 eF (by have:=HA.o.2.2.2;have:=H6.o.1.size;omega)) (fun _=>?_);clear hK K;refine ce 12 rfl fun K hK=>?_;go_simp;refine eS hK ?_;clear hK K;refine le ?_;clear pp tt yy z0 z1 z2 y0' y1' y2';go_wp2_with fail;go_meet;obtain ⟨W8,lQ,x8,k8,_⟩:=ui HA.o.2.2.1 (.bool u0) (.string u1) (.slice u2 u3 u4);rw[<-lQ];have hl:=H6.o.1.size;refine ⟨EB,rfl,rfl,⟨u0,u1,u2,u3,u4⟩,x8,Below.kp1 HA.o.1 k8 (by have:=HA.o.2.2.2;omega),by have:=HA.o.2.2.2;omega,fun u h=>(H6.o.2 u h).move (fun b hb hlt=>⟨hb,(k8.same b (bN hlt HA.o.2.1.size) (by have:=HA.o.2.2.2;omega)).trans (HA.o.2.1.block b hlt)⟩)⟩
 |refine ce 11 rfl fun K hK=>?_
  go_simp;refine hK _ _ (fun _=>by rw[du.o];exact Below.kp1 H6.o.1 eF (by have:=HA.o.2.2;omega)) (fun _=>?_);clear hK K;refine ce 12 rfl fun K hK=>?_;go_simp;refine eS hK ?_;clear hK K;refine le ?_;clear pp tt yy z0 z1 z2 y0' y1' y2';go_wp2_with fail;go_meet;obtain ⟨W8,lQ,x8,k8,_⟩:=ui H6.o.2.2.1 (.bool u0) (.string u1) (.slice u2 u3 u4);rw[<-lQ];refine ⟨EB,rfl,rfl,⟨u0,u1,u2,u3,u4⟩,x8,Below.kp1 H6.o.1 k8 (by have:=HA.o.2.2;omega),by have:=HA.o.2.2;omega,fun u h=>?_⟩;exact (H6.o.2.1 u h).move (fun b hb hlt=>⟨by have:=H6.o.2.2.2.2;omega,k8.same b hlt (by have:=H6.o.2.2.2.1;omega)⟩)):G:=h
theorem pm122(h:G:=by
 have HH:=aC hj bj;have lG:¬((k:Int)<min (sm:Int) (fm:Int)):=by have:=ib.o;omega
 have sF:min (sm:Int) (fm:Int)<=(k:Int):=by have:=ib.o;omega
 clear hj bj;gi_wp2;go_ret;refine .inl ⟨rfl,?_,zR.o.2.trans HH.o.2⟩;have h:=HH.o.1;rw[uz (c:=yp) (by have:=ib.o;omega)]at h;exact h):G:=h
theorem pm123(h:G:=by
 have CI:=ab (fun w3 (h3:Kp (fun c=>c=J) w w3)=>aO ▸ (dJ.o ▸ lI a U3.o ok qa _ qc w3 (ea.o.move (fun b hb hlt=>⟨hb,h3.same b hlt (jP.o b hb)⟩))))
 first
 |clear pp123a;rw[aO]at hM;simp only[Bool.or_true,dP]at hM;have pp94:=();exact pm94
 |clear pp123b;rw[aO]at hM;simp only[Bool.or_true,dP]at hM;have pp93:=();exact pm93
 |have HE:Hd (BX=false):=ab (hM.trans (by simp[aO]));clear hM sG qi Br;have pp65g:=();exact pm65):G:=h
theorem pm124(h:G:=by
 subst hq;exact ⟨b,q,⟨hs,h3,h4.move (fun c hc _=>⟨⟨⟨hc.1,fun e=>hc.2.2 (by rw[e])⟩,hc.2.1⟩,rfl⟩)⟩,(hI.2.1 b rfl).1.resolve_right id⟩):G:=h
theorem pm125(h:G:=by
 injection hv with hv _ _;subst hv;rcases hs with rfl | ⟨b,off,rfl,hok,hc⟩
 ·simp at hj
 first
 |clear pp125a
  ·obtain ⟨q,hq,_⟩:=(ht j hj).form;obtain ⟨x0,x1,x2,hx,c0,c1,c2⟩:=hc j hj;rw[hq]at hx;unfold TQ.val at hx;simp only[cA,Array.mk.injEq,cr,and_true]at hx;obtain ⟨rfl,rfl,rfl⟩:=hx;exact ⟨b,off,q,rfl,hok,hq ▸ ht j hj,c0,c1,c2⟩
 |clear pp125b
  ·obtain ⟨q,hq,_⟩:=(ht j hj).form;obtain ⟨x0,x1,x2,x3,hx,c0,c1,c2,c3⟩:=hc j hj;rw[hq]at hx;unfold FQ.val at hx;simp only[cA,Array.mk.injEq,cr,and_true]at hx;obtain ⟨rfl,rfl,rfl,rfl⟩:=hx;exact ⟨b,off,q,rfl,hok,hq ▸ ht j hj,c0,c1,c2,c3⟩
 |clear pp125c
  ·exact ⟨b,off,qs j,rfl,hok,hf j hj,hc j hj⟩
 |·exact ⟨b,off,ps j,qs j,rfl,hok,(hf j hj).1,(hf j hj).2,hc j hj⟩):G:=h
theorem pm126(h:G:=by
 go_wp2_with (go_at_call 164;refine (CC.o _ HW.o).mono ?_;rintro e w1 ⟨rfl,hb1⟩;have dO:=ab hb1;clear hb1);go_roundw
 first
 |clear pp126a
  case rel=>exact ⟨k+1,by omega,by go_num,HB.o.trans ((HW.o.trans (dO.o.mono HW.o.size)).mono HB.o.size),by rw[HS.o];simp⟩
  case measure=>simp[intOf];omega
 |clear pp126b
  case rel=>exact ⟨k+1,by omega,by go_num,HB.o.trans ((HW.o.trans (dO.o.mono HW.o.size)).mono HB.o.size),by rw[HS.o];simp;omega⟩
  case measure=>simp[intOf];omega
 |case rel=>exact ⟨k+1,by omega,by go_num,HB.o.trans ((HW.o.trans (dO.o.mono HW.o.size)).mono HB.o.size),by rw[HS.o,dT];simp⟩
  case measure=>simp[intOf];omega):G:=h
theorem pm127(h:G:=by
 clear CC gt cV S3 hx hy eX bj oY wm Lz pV cI x6 vH WW R8 WV qK c0 c1 c2 y0 y1 y2 rQ hok2 hS cP;go_wp2;rw[<-M0.o];have jH:=eU;refine (wpIn_wide (n:=3)).1 ?_;refine lV S 8 dW fun jO bW=>?_;refine bL 0 92 (.pointer (some ⟨kb,0,none⟩)) rfl bW fun cF=>?_;simp only[ag]
 first
 |clear pp127;have pp41:=();exact pm41
 |exact pm41):G:=h
theorem pm128(h:G:=by
 clear hK K;have HH:=aC pZ iV;clear pZ iV;refine ce 16 rfl fun K hK=>?_;go_simp;refine eS hK ?_;clear hK K;refine le ?_;gi_wp2;go_roundw
 case rel=>exact ⟨k+1,by omega,by go_num,by rw[HSu.o];simpa using HH.o.1,kD.o.2.trans HH.o.2⟩
 case measure=>simp[intOf];omega):G:=h
theorem pm129(h:G:=by
 rw[h1,dP]at cK;have cK:=cK.symm;rw[Bool.and_eq_false_iff]at cK;rcases cK with cK | cK
 ·have:decide ((nodesFs s:Int)<=left - 1 - nodesTs a)=false:=by simp at cK ⊢;omega
  rw[this];simp
 ·have:decide (ba+1+aT s<=bz+1)=false:=by simp at cK ⊢;omega
  rw[this];simp):G:=h
theorem pm130(h:G:=by
 rw[hp];clear hp;have Xl:=ab (fun (W:World) (h:Below W0.heap.size W0 W)=>xg ▸ HLk.o W h n);clear xg lp;exact pm228):G:=h
theorem pm131(h:G:=by
 have jf:Kp M w wr:=(Kp.below H4.o.1).trans bj;have fZ:∀ b,b<w.heap.size->¬M b:=fun b hb=>by rw[HM.o];rintro (h | h) <;> omega
 have d0:=jf.cell (fZ _ hok) c0;have d1:=jf.cell (fZ _ hok) c1;have d2:=jf.cell (fZ _ hok) c2;have d3:=jf.cell (fZ _ hok) c3
 first
 |clear pp131;have d4:=jf.cell (fZ _ hok) c4;obtain ⟨nm,dK⟩:=ao (b.fs[k].1);rw[<-dK]at d0;have pp102a:=();exact pm102
 |obtain ⟨nm,dK⟩:=ao (b.ts[j].1);rw[<-dK]at d0;simp only at d1 d2 d3;obtain ⟨W5,eK⟩:=ao (wr.alloc (.cells #[.string ⟨nm.toArray⟩,.bool qv,.string qn,.slice qa ql qc] 47));have bi:=cX eK;have jA:=dV.later bi.drew;have hf5:TermV (fun b=>b<w.heap.size) W5.drew (TQ.val ⟨qv,qn,qa,ql,qc⟩) b.ts[j].2:=hf.move (fun b hb hlt=>⟨hb,((jf.trans (Kp.below bi.drew)).same b hlt (fZ b hb))⟩);obtain ⟨w6,cV,GL,GM,qJ⟩:=jA.storeT (by simp <;> omega) (by omega) (x:=nm) (by rw[dK];exact HP.o.2.1 _ (az br)) hf5 (HP.o.2.2.2.2.2 _ (az br)) (l':=b.ts.take (j+1)) (fun y=>by rw[wl HP.o.2.2.2.1 br,<-dK]);have x8:=ah dV.box 1;have x9:=aa bi x8;have Ew:=aa bi.drew x8;have HK:=aC GL ((bj.trans (Kp.below bi.drew)).trans (GM.mono (fun b _ h=>by rw[HM.o];exact .inr h)));have p_:=ab eK;rw[eK]at x9 Ew;have DZ:(j:Int)<(n2:Int):=by omega
  clear dV jA GL bj GM qJ hf hf5 bi jf fZ hok dK eK br c0 c1 c2 c3;rw[p_.o]at cV;unfold TQ.val at cV;go_wp2;go_region;go_wp2;go_roundw
  case rel=>exact ⟨j+1,by omega,by go_num,HK.o.2,HK.o.1⟩
  case measure=>simp[intOf];omega):G:=h
theorem pm132(h:G:=by
 obtain ⟨x0,x1,rfl⟩:=two (yg.trans (by kernel_rfl));obtain ⟨c0,r,rfl⟩:∃c0 r,cs=c0 :: r:=by cases cs with | nil=>simp at hcl | cons c r=>exact ⟨c,r,rfl⟩
 have h0:DataW.trod enc Tryz.prog W 0 gM held n 9 [c0]=some x0:=hf 0 _ rfl
 first
 |clear pp132;have h1:DataW.trod enc Tryz.prog W 0 gM held n 36 (r.take 4)=some x1:=hf 1 _ rfl;have hr:r.take 4=r:=ii (by simp at hcl;omega);rw[hr]at h1;obtain ⟨s,rfl,hs,_⟩:=m6 h0;obtain ⟨f,hf1,Sd,hf3⟩:=vr n _ _ h1;obtain ⟨a,rfl,gI⟩:=K5 hf1;refine ⟨(s,f),a,rfl,gI,?_,?_,?_⟩
  ·simp only[cU,List.map_nil,Rows.uptoBulk,Rows.uptoBulkAll];omega
  ·simp only[cU,List.map_nil,Rows.uptoBulk,Rows.uptoBulkAll];omega
  ·exact jX (by simp only[cU,List.map_nil,Rows.uptoBulk,Rows.uptoBulkAll];omega) _ hf3
 |have h1:DataW.trod enc Tryz.prog W 0 gM held n 43 (r.take 3)=some x1:=hf 1 _ rfl;have hr:r.take 3=r:=ii (by simp at hcl;omega);rw[hr]at h1;obtain ⟨s,rfl,hs,_⟩:=m6 h0;obtain ⟨f,hf1,Sd,hf3⟩:=vq n _ _ h1;obtain ⟨a,rfl,gI⟩:=K6 hf1;refine ⟨(s,f),a,rfl,gI,?_,?_,?_⟩
  ·simp only[cU,List.map_nil,Rows.uptoBulk,Rows.uptoBulkAll];omega
  ·simp only[cU,List.map_nil,Rows.uptoBulk,Rows.uptoBulkAll];omega
  ·exact jW (by simp only[cU,List.map_nil,Rows.uptoBulk,Rows.uptoBulkAll];omega) _ hf3):G:=h
theorem pm133(h:G:=by
 rw[iW.o]at e0 e1 e2;simp only[TQ.val];go_enter Tryz.func193,Tryz.ntmps193
 first
 |clear pp133a;go_wp2_with (rw[<-iW.o];go_at_call 192;refine C7.o.mono ?_;rintro e w4 ⟨rfl,aP⟩;have H4:=ab aP;clear aP);go_ret;exact ⟨by rw[rA.o];rfl,H1.o.1.tr H4.o⟩
 |clear pp133b;go_wp2_with (first | (rw[<-iW.o];go_at_call 119;refine sX.o.mono ?_;rintro e w3 ⟨rfl,aJ⟩;have x3:=bT aJ H1.o.2.1;obtain ⟨q0,q1,q2,_⟩:=fX x3;have H3:=ab aJ;clear aJ x3) | (go_at_call 192;refine (EO.o w3 H3.o).mono ?_;rintro e w4 ⟨rfl,aP⟩;have H4:=ab aP;clear aP));go_ret;exact ⟨by rw[rA.o];rfl,H1.o.1.tr (H3.o.tr H4.o)⟩
 |go_wp2_with (rw[<-iW.o];go_at_call 119;refine sX.o.mono ?_;rintro e w3 ⟨rfl,aJ⟩;have H3:=ab aJ;clear aJ);clear e0 e1 e2;have ln:=(IT.o.later H1.o.2.2).later H3.o;have x3:=bT H3.o H1.o.2.1;have g0:w3.cell? ⟨kb,1,none⟩=some (.map (some mT)):=ah ln.box 1;have g1:w3.drew.cell? ⟨kb,1,none⟩=some (.map (some mT)):=ah ln.box 1;have g2:w3.cell? ⟨w.heap.size,1,none⟩=some (.string ⟨n.toArray⟩):=ah x3 1;have g3:w3.drew.cell? ⟨w.heap.size,1,none⟩=some (.string ⟨n.toArray⟩):=g2;have bi:Below w3.heap.size w3 (w3.alloc (.cells #[.bool false,.string ⟨#[]⟩,.slice none 0 0] 43)):=cQ;obtain ⟨g4,g5⟩:=yR bi g0 g2;rcases ln.ts.look Tryz.underlying9 Tryz.underlying146 jK (x:=n) (by omega) with ⟨hg,hl⟩ | ⟨u,vu,hg,hvu,hl⟩
  ·have l1:=(hl w3.drew rfl).1;have pp233:=();exact pm233
  ·obtain ⟨⟨xv,xn,xa,xl,xc⟩,rfl,hxv,hpu⟩:=hvu;simp only[TQ.val]at hl;have l1:=(hl w3.drew rfl).1;exact pm233):G:=h
theorem pm134(h:G:=by
 intro us3 XR wq hrel;obtain ⟨j,hj,XS,wV,bj,FO,fL,kj,Nz,NA,dV,rP,qw,DJ,gt⟩:=hrel;simp only[jc,List.setIfInBounds_toArray,List.set_cons_zero,List.set_cons_succ];rw[XS];have ob:Below w.heap.size w wq:=aq tG.o.2.2.1 bj Bs.o.1
 by_cases hlt:j<n1
 first
 |clear pp134
  ·have lC:=ct HN.o hlt;exact pm245
  ·obtain rfl:n1=j:=by omega
   have uQ:jV d_ 0 k l=(kj,0,0):=by rw[gt,jk (by rw[<-HN.o];exact aF _)];rfl
   have pp160:=();exact pm160
 |·have lC:=ct HN.o hlt;obtain ⟨bb,off,⟨a0,a1,a2,a3,a4,a5,a6,a7⟩,⟨b0,b1,b2,b3,b4,b5,b6,b7⟩,rfl,hok,hs,hf,c0,c1,c2,c3,c4,c5,c6,c7⟩:=HV.o.1.get lC;obtain ⟨d0,d1,d2,d3,d4,d5,d6,d7⟩:=I5 ob c0 c1 c2 c3 c4 c5 c6 c7;simp only at d0 d1 d2 d3 d4 d5 d6 d7;have cV:=Au (step:=kP) (k:=kj) lC;exact pm52
  ·obtain rfl:n1=j:=by omega
   have uQ:jV kP 0 k l=(kj,0,0):=by rw[gt,jk (by rw[<-HN.o];exact aF _)];rfl
   exact pm160):G:=h
theorem pm135(h:G:=by
 have jA:=H3.o.2.2.later H5.o;obtain ⟨⟨z0,z1,z2,z3,z4⟩,U9,ER,LA,_,_,z7⟩:=jA.termOf (x:=y) (by have:=HY.o.1;omega);simp only[TQ.val]at z7;have br:=jA.ts.lt;obtain ⟨S,hS⟩:∃S:World->Prop,S=fun V=>Below w5.heap.size w5 V:=⟨_,rfl⟩
 first
 |clear pp135;have ff:∀ V,S V->V.cell? ⟨kb,1,none⟩=some (.map (some mT))/\(Instr.lookup 146 (.map (some mT)) (.string ⟨y.toArray⟩) false).run Tryz.prog V=.ok (.agg #[.bool z0,.string z1,.slice z2 z3 z4]) V/\V.cell? ⟨w4.heap.size,0,none⟩=some (.int .u8 g0)/\V.cell? ⟨w4.heap.size,1,none⟩=some (.string g1)/\V.cell? ⟨w4.heap.size,2,none⟩=some (.slice g2 g3 g4)/\V.cell? ⟨w4.heap.size,3,none⟩=some (.slice g5 g6 g7):=fun V h=>by
   exact pm269
  have dW:S w5.drew:=by rw[hS];exact (ak _ _).drew
  have HR5:=ab (show RS=iD dc (termOf kd.ts y) f by rw[HB.o.2.2.2.2,aD h0]);have hbd:=((H3.o.1.tr H5.o).tr (ak w5.heap.size w5).drew);have CP:=uy WB f dc (termOf kd.ts y) uI.o.2.1 (by have:=uI.o.2.2.1;omega) uI.o.2.2.2.1 uI.o.2.2.2.2 (by have:=HY.o.2.1;omega) ER (by omega) _ _ w5.drew ⟨g0,g1,g2,g3,g4,g5,g6,g7⟩ ⟨z0,z1,z2,z3,z4⟩ (Pz.o.next hbd) (uI.o.1.later hbd) (U9.later ((ak w5.heap.size w5).drew));simp only[FQ.val,TQ.val]at CP;obtain ⟨JM,HX5,du⟩:=cD CP x15 hS;clear hS jA U9 ER LA z7 br hbd CP y5 x15 h0;go_upto_region 9 with fail;clear pF iq gV;refine (wpIn_wide (n:=3)).1 ?_;refine lV S 9 dW fun jO bW=>?_;refine dm 0 49 (.agg #[.int .u8 g0,.string g1,.slice g2 g3 g4,.slice g5 g6 g7]) rfl (fun V hX=>by obtain ⟨h0,h1,h2,h3,h4,h5⟩:=ff V hX;go_simp) bW fun QU=>?_;simp only[ag];refine bL 1 50 (.string ⟨dc.toArray⟩) rfl QU fun QV=>?_;simp only[ag];refine bL 2 51 (.pointer (some ⟨kb,0,none⟩)) rfl QV fun Kl=>?_;simp only[ag];refine bL 3 52 (.pointer (some ⟨kb,0,none⟩)) rfl Kl fun QW=>?_;simp only[ag];refine bL 4 53 (.pointer (some ⟨kb,1,none⟩)) rfl QW fun Yc=>?_;simp only[ag];refine dm 5 54 (.map (some mT)) rfl (fun V hX=>by obtain ⟨h0,h1,h2,h3,h4,h5⟩:=ff V hX;go_simp) Yc fun hT5=>?_;simp only[ag];refine bL 6 55 (.string ⟨y.toArray⟩) rfl hT5 fun hT6=>?_;simp only[ag];refine dm 7 56 (.agg #[.bool z0,.string z1,.slice z2 z3 z4]) rfl (fun V hX=>by obtain ⟨h0,h1,h2,h3,h4,h5⟩:=ff V hX;go_simp) hT6 fun hT7=>?_;simp only[ag];refine ce 8 rfl fun K hK=>?_;go_simp;refine aL.2 (JM.o.mono ?_);rintro e w7 ⟨⟨⟨p0,p1,p2,p3,p4,p5,p6,p7⟩,rfl,hp⟩,fD⟩;have H7:=ab (((ak w5.heap.size w5).drew).trans fD);have HP7:=ab hp;have x7:=bT H7.o HX5.o;have Kn:=ab x7;obtain ⟨i0,i1,i2,i3,q0,q1,q2,q3⟩:=dh x7;refine hK _ _ (fun _=>by rw[du.o];exact H7.o) (fun _=>?_);clear hK K fD x7 hp;refine ce 9 rfl fun K hK=>?_;go_simp;refine eS hK ?_;clear hK K;refine le ?_;go_wp2;have x6:=lm (v0:=.int .u8 p0) (v1:=.string p1) (v2:=.slice p2 p3 p4) (v3:=.slice p5 p6 p7) Kn.o;have k6:=dI (W:=w7) (b:=w.heap.size+1) (v0:=.int .u8 p0) (v1:=.string p1) (v2:=.slice p2 p3 p4) (v3:=.slice p5 p6 p7);obtain ⟨W6,cP⟩:=ao ((((w7.setCell ⟨w.heap.size+1,0,none⟩ (.int .u8 p0)).setCell ⟨w.heap.size+1,1,none⟩ (.string p1)).setCell ⟨w.heap.size+1,2,none⟩ (.slice p2 p3 p4)).setCell ⟨w.heap.size+1,3,none⟩ (.slice p5 p6 p7));exact pm106
 |have ff:∀ V,S V->V.cell? ⟨kb,1,none⟩=some (.map (some mT))/\(Instr.lookup 146 (.map (some mT)) (.string ⟨y.toArray⟩) false).run Tryz.prog V=.ok (.agg #[.bool z0,.string z1,.slice z2 z3 z4]) V/\V.cell? ⟨W2.heap.size,0,none⟩=some (.int .u8 g0)/\V.cell? ⟨W2.heap.size,1,none⟩=some (.string g1)/\V.cell? ⟨W2.heap.size,2,none⟩=some (.slice g2 g3 g4)/\V.cell? ⟨W2.heap.size,3,none⟩=some (.slice g5 g6 g7):=fun V h=>by
   exact pm269
  have dW:S w5.drew:=by rw[hS];exact (ak _ _).drew
  have ZD:=ab (fun (V:World) (h:Below w5.heap.size w5 V)=>kN _ ER (by omega) _ V ⟨z0,z1,z2,z3,z4⟩ (U9.later h));obtain ⟨nt,pV⟩:=ao (nodesT (termOf k.ts y));have U':1<=nt:=by rw[pV];exact jy _
  have hE:=HE3.o;simp only[TQ.val,<-pV]at ZD;rw[<-pV]at LA hE;obtain ⟨m2,rR⟩:=ao (nt - 1);obtain ⟨m3,R_⟩:=ao (n0 * m2);have rq:m3<=400 * 1000:=by rw[R_];exact Nat.mul_le_mul HY.o.2.1 (by omega)
  rw[<-rR,<-R_]at hE;have ye:IntKind.i64.wrap ((nt:Int) - 1)=(m2:Int):=by rw[ik _ (by omega)];omega
  have Ok:IntKind.i64.wrap ((n0:Int) * (m2:Int))=(m3:Int):=by rw[show (n0:Int) * (m2:Int)=(m3:Int) by rw[R_];simp];exact ik _ (by omega)
  have U_:IntKind.i64.wrap ((nf:Int)+(m3:Int))=((nf+m3:Nat):Int):=by rw[ik _ (by have:=HY.o.2.2;omega)];simp
  obtain ⟨rA,du⟩:=aZ hE hS;clear hS jA U9 ER LA z7 br pV U' hE rR R_ rq y5 h0;go_upto_region 11 with fail;clear pF iq;refine (wpIn_wide (n:=3)).1 ?_;refine lV S 13 dW fun jO bW=>?_;refine dm 0 48 (.agg #[.int .u8 g0,.string g1,.slice g2 g3 g4,.slice g5 g6 g7]) rfl (fun V hX=>by obtain ⟨h0,h1,h2,h3,h4,h5⟩:=ff V hX;go_simp) bW fun cF=>?_;simp only[ag];refine bL 2 50 (.int .i64 (n0:Int)) rfl cF fun fI=>?_;simp only[ag];refine bL 3 51 (.pointer (some ⟨kb,0,none⟩)) rfl fI fun gO=>?_;simp only[ag];refine bL 4 52 (.pointer (some ⟨kb,0,none⟩)) rfl gO fun iX=>?_;simp only[ag];refine bL 5 53 (.pointer (some ⟨kb,1,none⟩)) rfl iX fun jQ=>?_;simp only[ag];refine dm 6 54 (.map (some mT)) rfl (fun V hX=>by obtain ⟨h0,h1,h2,h3,h4,h5⟩:=ff V hX;go_simp) jQ fun kf=>?_;simp only[ag];refine bL 7 55 (.string ⟨y.toArray⟩) rfl kf fun mK=>?_;simp only[ag];refine dm 8 56 (.agg #[.bool z0,.string z1,.slice z2 z3 z4]) rfl (fun V hX=>by obtain ⟨h0,h1,h2,h3,h4,h5⟩:=ff V hX;go_simp) mK fun sg=>?_;simp only[ag];refine ce 1 rfl fun K hK=>?_;go_simp;refine aL.2 ((FL.o _ (H5.o.tr (by have h:=bW;rw[du.o]at h;exact h))).mono ?_);rintro e w7 ⟨rfl,fD⟩;have H7:=ab (((ak w5.heap.size w5).drew).trans fD);refine hK _ _ (fun _=>by rw[du.o];exact H7.o) (fun _=>?_);clear hK K fD;refine ce 9 rfl fun K hK=>?_;go_simp;refine aL.2 ((ZD.o _ H7.o).mono ?_);rintro e w8 ⟨rfl,gS⟩;have H8:=ab (H7.o.tr gS);have sg:S w8:=by rw[du.o];exact H8.o
  refine hK _ _ (fun _=>sg) (fun _=>?_);clear hK K gS;refine ce 10 rfl fun K hK=>?_;go_simp;refine hK _ _ (fun _=>sg) (fun _=>?_);clear hK K;refine ce 11 rfl fun K hK=>?_;go_simp;refine hK _ _ (fun _=>sg) (fun _=>?_);clear hK K;refine ce 12 rfl fun K hK=>?_;go_simp;refine hK _ _ (fun _=>sg) (fun _=>?_);clear hK K;refine ce 13 rfl fun K hK=>?_;go_simp;refine eS hK ?_;clear hK K;refine le ?_;clear ff dW bW cF fI gO iX jQ kf mK sg jO ye Ok U_;go_wp2;go_ret;exact ⟨by rw[rA.o];simp,(H2.o.1.tr H3.o.1).tr (H5.o.tr H8.o)⟩):G:=h
theorem pm136(h:G:=by
 have oy:=hq1;simp only[lL,ae]at hw;simp only[qone,ae]at hq1;simp only[depthF]at hd
 first
 |clear pp136a
  by_cases hq:bD o=true
  ·obtain ⟨rfl,g,rfl⟩:=mW hq oy;have pp169a:=();exact pm169
  ·have hq:bD o=false:=by simpa using hq
   rw[qH hq];have ih:∀ g∈s,_:=fun g hg=>gR k g x y ((j_ s).1 hw.2 g hg) ((iL s).1 hq1.2 g hg) (by have:=kF s g hg;omega);refine ⟨?_,?_,?_,?_⟩
   ·simp only[lL,ae];refine ⟨t5 (yH y) a hw.1,(j_ _).2 fun g hg=>?_⟩;obtain ⟨g',MJ,rfl⟩:=List.mem_map.1 hg;exact (ih g' MJ).1
   ·simp only[qone,hq,Bool.not_false,Bool.true_or,dP];refine (iL _).2 fun g hg=>?_;obtain ⟨g',MJ,rfl⟩:=List.mem_map.1 hg;exact (ih g' MJ).2.1
   ·simp only[depthF];rw[qF a hw.1,zt s (fun g hg=>(ih g hg).2.2.1)]
   ·simp only[nodesF];rw[qG a hw.1,zs s (fun g hg=>(ih g hg).2.2.2)]
 |clear pp136b;simp only[nodesF]at hn
  by_cases hq:bD o=true
  ·obtain ⟨rfl,g,rfl⟩:=mW hq oy;simp only[gG,ep,Bool.and_true,aT,nodesFs]at hw hq1 hd hn;rw[mt hq]
   by_cases h1:(n == x || !(a_ [] g).contains x)=true
   ·rw[aX h1];refine zp _ _ _ _ (fun z hz=>?_);unfold upd;split
    ·rename_i hzx;rw[fY]at hzx;subst hzx;exfalso;simp only[a_,aw,List.filter_nil,rU,hq,if_true,bH,List.append_nil]at hz;have h3:=mr n [g];simp only[bH,List.append_nil]at h3;rw[h3,List.mem_filter]at hz;simp only[Bool.or_eq_true,Bool.not_eq_true']at h1;rcases h1 with h1 | h1
     ·have:=hz.2;rw[fY]at h1;subst h1;simp at this
     ·have:(a_ [] g).contains z=true:=by simpa using hz.1
      rw[h1]at this;cases this
    ·rfl
   ·rw[aD h1];simp only[Bool.or_eq_true,Bool.not_eq_true',not_or,Bool.not_eq_true,Bool.not_eq_false]at h1;have sJ:n≠x:=by simpa using h1.1
    by_cases h2:(aN u).contains n=true
    ·rw[aX h2];have hm:=rp (a_ [] g ++ aN u) (by rw[di];have:=gH g [];have:=n_ u;omega);generalize dN (a_ [] g ++ aN u)=m at hm;rw[List.mem_append,not_or]at hm;have pp229a:=();exact pm229
    ·rw[aD h2];simp only[dbF,hq,if_true,qE,qD];rw[t7 k g x u _ _ hw.2 hq1.2 (by omega) (by omega),Gl (by simpa using h2),zu _ sJ]
  ·have hq:bD o=false:=by simpa using hq
   rw[qH hq];simp only[dbF,hq,bZ,↓reduceIte,qE];rw[Gm _ _ _ d s (fun g hg=>t7 k g x u σ d ((j_ s).1 hw.2 g hg) ((iL s).1 hq1.2 g hg) (by have:=kF s g hg;omega) (by have:=l7 s g hg;omega))]
 |clear pp136c;simp only[nodesF]at hs;simp only[kT,ae,bw]at hf
  by_cases hq:bD o=true
  ·obtain ⟨rfl,g,rfl⟩:=mW hq oy;simp only[gG,ep,Bool.and_true,aT,nodesFs,nmFs]at hw hq1 hd hs hf;rw[mt hq]
   by_cases h1:(n == x || !(a_ [] g).contains x)=true
   ·rw[aX h1];exact I4
   ·rw[aD h1]
    by_cases h2:(aN u).contains n=true
    ·rw[aX h2];have hm:(dN (a_ [] g ++ aN u)).length<=2000000:=oT (by
      have h3:=gH g [];have h4:=n_ u;simp only[di];omega)
     generalize hm':dN (a_ [] g ++ aN u)=m;rw[hm']at hm;have pp229b:=();exact pm229
    ·rw[aD h2];have b1:=oU k g x u hw.2 hq1.2 (by omega) (by simp[nodesTs]at hs;omega) hf.2.2.2 hu;simp only[kT,nmFs,ae,bw,dF,List.map_nil,nmTs];exact ⟨hf.1,hf.2.1,trivial,b1,trivial⟩
  ·have hq:bD o=false:=by simpa using hq
   rw[qH hq];simp only[kT,ae,bw];refine ⟨hf.1,hf.2.1,zK hu a hf.2.2.1,qp.2 fun g hg=>?_⟩;obtain ⟨g',MJ,rfl⟩:=List.mem_map.1 hg;exact oU k g' x u ((j_ s).1 hw.2 g' MJ) ((iL s).1 hq1.2 g' MJ) (by have:=kF s g' MJ;omega) (by have:=l7 s g' MJ;omega) (qp.1 hf.2.2.2 g' MJ) hu
 |clear pp136d
  by_cases hq:bD o=true
  ·obtain ⟨rfl,g,rfl⟩:=mW hq oy;have pp169b:=();exact pm169
  ·have hq:bD o=false:=by simpa using hq
   rw[qH hq];have h1:=zZ (x:=x) (u:=u) a;have h2:=PU (φ:=eD k x u) (U:=nodesT u) s (fun g hg=>uE k g x u ((j_ s).1 hw.2 g hg) ((iL s).1 hq1.2 g hg) (by have:=kF s g hg;omega));simp only[nodesF,Nat.add_mul];omega
 |by_cases hq:bD o=true
  ·obtain ⟨rfl,g,rfl⟩:=mW hq oy;exact pm169
  ·have hq:bD o=false:=by simpa using hq
   rw[qH hq];have ih:∀ g∈s,_:=fun g hg=>uL hu k g x ((j_ s).1 hw.2 g hg) ((iL s).1 hq1.2 g hg) (by have:=kF s g hg;omega);refine ⟨?_,?_⟩
   ·simp only[lL,ae];refine ⟨t5 hu a hw.1,(j_ _).2 fun g hg=>?_⟩;obtain ⟨g',MJ,rfl⟩:=List.mem_map.1 hg;exact (ih g' MJ).1
   ·simp only[qone,hq,Bool.not_false,Bool.true_or,dP];refine (iL _).2 fun g hg=>?_;obtain ⟨g',MJ,rfl⟩:=List.mem_map.1 hg;exact (ih g' MJ).2):G:=h
theorem pm137(h:G:=by
 rw[hp];have CP:=ab (fun w=>nd r w hn);have hr:r.length<=1000000000:=by simp at hn;omega
 have hx:=jz 63 r;simp at hs hx;have h1:((1:Int)<=((63 :: r).length:Int)):=by simp;omega
 have sx:((r.length:Int)+1)<=16:=by simp at hl;omega
 clear h hp
 first
 |clear pp137;go_enter Tryz.func185,Tryz.ntmps185;go_wp2_with (first | (go_at_call 191;refine (CP.o _).mono ?_;rintro e w' ⟨rfl,rfl⟩) | (go_at_call 120;refine (nc r _ hr).mono ?_;rintro e w' ⟨rfl,hb⟩));go_ret;exact ⟨rfl,hb⟩
 |go_enter Tryz.func186,Tryz.ntmps186;go_wp2_with (first | (go_at_call 191;refine (CP.o _).mono ?_;rintro e w' ⟨rfl,rfl⟩) | (go_at_call 121;refine (lF r _ hr).mono ?_;rintro e w' ⟨rfl,hb⟩));go_ret;exact ⟨rfl,hb⟩):G:=h
theorem pm138(h:G:=by
 obtain ⟨b,off,u,rfl,_,hu,c0,c1,c2,c3⟩:=fP.o.get dG;obtain ⟨d0,d1,d2,d3⟩:=nb ar c0 c1 c2 c3
 first
 |clear pp138a;obtain ⟨uo,un,ua,ul,uc,ub,um,ue⟩:=u;obtain ⟨W2,bl⟩:=ao (wr.alloc (.cells #[.int .u8 uo,.string un,.slice ua ul uc,.slice ub um ue] 36));have bF:=cX bl;have ym:=bX bl;have u0:W2.cell? ⟨wr.heap.size,0,none⟩=some (.int .u8 uo):=ah ym 0;have u1:W2.cell? ⟨wr.heap.size,1,none⟩=some (.string un):=ah ym 1;have u2:W2.cell? ⟨wr.heap.size,2,none⟩=some (.slice ua ul uc):=ah ym 2;have u3:W2.cell? ⟨wr.heap.size,3,none⟩=some (.slice ub um ue):=ah ym 3;have gD:=hF.later bF (fun r=>r.below bF);obtain ⟨P0,P1,P2,P3,P4,P5,P6,P7,P8⟩:=ir (gD.other (by omega) Pn.o)
  first
  |clear pp54;have CC:=fd.o s[k] (az dG) (yY.o.mem (az dG)) (L) (ins) (by have:=JE.o.2.1 s[k] (az dG);omega) JE.o.1 (vL) ok W2 ⟨uo,un,ua,ul,uc,ub,um,ue⟩ (JC.o.later (ar.tr bF)) ⟨(JG.o.1.kp hF.kp (fun b hb h=>(JG.o.2 b hb).1 h)).later bF,fun b hb=>by have:=(JG.o.2 b hb).2;have:=hF.size;have:=bF.size;omega⟩ ((hu.later ar).later bF);simp only[PlQ.cells,PlQ.val,FQ.val]at CC P0 P1 P2 P3 P4 P5 P6 P7 P8;have fS:=pI (c:=ps.reverse) (ins:=ins) dG;rw[zE]at fS;have fZ:=fun (h:kv ps.reverse ins s[k]=none)=>zH (c:=ps.reverse) (ins:=ins) (az dG) h;obtain ⟨U,hU⟩:=ao (kv ps.reverse ins s[k]);rw[<-hU]at CC fS fZ;have kV:=ab CC;have uf:=aC fS BU;have zF:=ab fZ;obtain ⟨qs,ew,au,gh⟩:=gD.row;rw[BU]at ew au;have zG:=bE ew au gh;have eW:=ab gD;have dy:=aC ar bF;rw[bl]at kV u0 u1 u2 u3 P0 P1 P2 P3 P4 P5 P6 P7 P8;have gF:=ab bl;clear hu c0 c1 c2 c3 ym hF gD ew au gh CC fS fZ hU zE BU ar bF bl
   cases U with
   | none=>
    exact pm35
   | some u'=>
    go_wp2_with (first | (go_at_call 91;refine kV.o.mono ?_;rintro e w4 ⟨⟨⟨po,pn,pa,pl,pc,pb,pm,pe⟩,rfl,hp⟩,aP⟩;simp only[Option.isSome]at hp ⊢;rw[<-gF.o]at aP hp;have bi:Below w4.heap.size w4 (w4.alloc (.cells #[.int .u8 po,.string pn,.slice pa pl pc,.slice pb pm pe] 36)):=cQ;have sV:=eW.o.later (aP.tr bi) (fun r=>r.below (aP.tr bi));have r2:(w4.alloc (.cells #[.int .u8 po,.string pn,.slice pa pl pc,.slice pb pm pe] 36)).cell? ⟨w.heap.size+1+1+1,3,none⟩=some (.slice ra k rc):=(sV.cell 3).trans rfl;have HF5:=ab sV;have JD:=aC ((hp u' rfl).later bi) (aP.tr bi);have HO:=ab (bh zG.o.2.1 (fun b _ hlt=>(aP.tr bi).block b hlt));have pP:((w4.alloc (.cells #[.int .u8 po,.string pn,.slice pa pl pc,.slice pb pm pe] 36)).alloc (.cells #[.int .u8 po,.string pn,.slice pa pl pc,.slice pb pm pe] 36)).heap.size=w4.heap.size+2:=(by simp);have Jr:=sV.size;simp only[World.size_alloc]at Jr;clear hp aP bi sV) | (at_builtin;refine wpList_append_lies _ rfl _ _ 34 rfl wq.heap.size 36 Lm (.agg #[.int .u8 0,.string ByteArray.empty,.slice none 0 0,.slice none 0 0]) 4 72 Tryz.underlying34 hj ic BC Uq rfl (by decide) (.slice ra k rc) k _ rfl (HO.o.alloc _) ⟨w4.heap.size+1,0,none⟩ 1 1 [.int .u8 po,.string pn,.slice pa pl pc,.slice pb pm pe] rfl rfl (dj (cs:=#[.int .u8 po,.string pn,.slice pa pl pc,.slice pb pm pe]) (t:=36) (fr:=(0,0)) (aj (by simp))) (by simp[Value.oneCell']) (by decide) (by unfold maxLen;omega) (by omega) (by simp;omega) (w4.heap.size+2) pP ?_;intro g eG w6 aR ap hg ev;have h4:=eW.o.at4 (kk:=3) zG.o.2.1 JD.o.2 ap;have d3:=h4.2.2;have z3:=h4.2.1;have HG:=cC aR ap hg ev;clear aR ap hg ev h4));exact pm83
  |have CC:=fd.o s[k] (az dG) (yY.o.mem (az dG)) (L ++ [n]) ((n :: ins)) (by have:=JE.o.2.1 s[k] (az dG);simp;omega) zax.o (.slice (some ⟨g,0,none⟩) (l0+1) cap) ok W2 ⟨uo,un,ua,ul,uc,ub,um,ue⟩ (JC.o.later (ar.tr bF)) ⟨(JG.o.1.kp hF.kp (fun b hb h=>(JG.o.2 b hb).1 h)).later bF,fun b hb=>by have:=(JG.o.2 b hb).2;have:=hF.size;have:=bF.size;omega⟩ ((hu.later ar).later bF);simp only[PlQ.cells,PlQ.val,FQ.val]at CC P0 P1 P2 P3 P4 P5 P6 P7 P8;have fS:=pI (c:=ps.reverse) (ins:=(n :: ins)) dG;rw[zE]at fS;have fZ:=fun (h:kv ps.reverse (n :: ins) s[k]=none)=>zH (c:=ps.reverse) (ins:=(n :: ins)) (az dG) h;obtain ⟨U,hU⟩:=ao (kv ps.reverse (n :: ins) s[k]);rw[<-hU]at CC fS fZ;have kV:=ab CC;have uf:=aC fS BU;have zF:=ab fZ;obtain ⟨qs,ew,au,gh⟩:=gD.row;rw[BU]at ew au;have zG:=bE ew au gh;have eW:=ab gD;have dy:=aC ar bF;rw[bl]at kV u0 u1 u2 u3 P0 P1 P2 P3 P4 P5 P6 P7 P8;have gF:=ab bl;clear hu c0 c1 c2 c3 ym hF gD ew au gh CC fS fZ hU zE BU ar bF bl
   cases U with
   | none=>
    exact pm35
   | some u'=>
    go_wp2_with (first | (go_at_call 91;refine kV.o.mono ?_;rintro e w4 ⟨⟨⟨po,pn,pa,pl,pc,pb,pm,pe⟩,rfl,hp⟩,aP⟩;simp only[Option.isSome]at hp ⊢;rw[<-gF.o]at aP hp;have bi:Below w4.heap.size w4 (w4.alloc (.cells #[.int .u8 po,.string pn,.slice pa pl pc,.slice pb pm pe] 36)):=cQ;have sV:=eW.o.later (aP.tr bi) (fun r=>r.below (aP.tr bi));have r2:(w4.alloc (.cells #[.int .u8 po,.string pn,.slice pa pl pc,.slice pb pm pe] 36)).cell? ⟨w.heap.size+1+1+1,3,none⟩=some (.slice ra k rc):=(sV.cell 3).trans rfl;have HF5:=ab sV;have JD:=aC ((hp u' rfl).later bi) (aP.tr bi);have HO:=ab (bh zG.o.2.1 (fun b _ hlt=>(aP.tr bi).block b hlt));have pP:((w4.alloc (.cells #[.int .u8 po,.string pn,.slice pa pl pc,.slice pb pm pe] 36)).alloc (.cells #[.int .u8 po,.string pn,.slice pa pl pc,.slice pb pm pe] 36)).heap.size=w4.heap.size+2:=(by simp);have Jr:=sV.size;simp only[World.size_alloc]at Jr;clear hp aP bi sV) | (at_builtin;refine wpList_append_lies _ rfl _ _ 34 rfl X5.heap.size 36 Lm (.agg #[.int .u8 0,.string ByteArray.empty,.slice none 0 0,.slice none 0 0]) 4 72 Tryz.underlying34 hj ic BC Uq rfl (by decide) (.slice ra k rc) k _ rfl (HO.o.alloc _) ⟨w4.heap.size+1,0,none⟩ 1 1 [.int .u8 po,.string pn,.slice pa pl pc,.slice pb pm pe] rfl rfl (dj (cs:=#[.int .u8 po,.string pn,.slice pa pl pc,.slice pb pm pe]) (t:=36) (fr:=(0,0)) (aj (by simp))) (by simp[Value.oneCell']) (by decide) (by unfold maxLen;omega) (by omega) (by simp;omega) (w4.heap.size+2) pP ?_;intro g eG w6 aR ap hg ev;have h4:=eW.o.at4 (kk:=3) zG.o.2.1 JD.o.2 ap;have d3:=h4.2.2;have z3:=h4.2.1;have HG:=cC aR ap hg ev;clear aR ap hg ev h4));exact pm83
 |clear pp138b;have cb:((s.map bC).take k).length=k:=by rw[dX];have:=ib.o;simp;omega
  obtain ⟨ra,rc,rfl⟩:=hF.row.slice;rw[cb]at hF;have HU:=ab (hu.later ar);have pp40:=();exact pm40
 |clear pp138c;have cb:((s.map (eD kk nx z)).take k).length=k:=by rw[dX];have:=ib.o;simp;omega
  obtain ⟨ra,rc,rfl⟩:=hF.row.slice;rw[cb]at hF;have HU:=ab (hu.later ar);have pp97:=();exact pm97
 |have cb:((ss.map (cH kd c)).take k).length=k:=by rw[dX];have:=IS.o;simp;omega
  obtain ⟨ra,rc,rfl⟩:=hF.row.slice;rw[cb]at hF;have HU:=ab (hu.later ar);exact pm40):G:=h
theorem pm139(h:G:=by
 obtain ⟨k,hk,rfl,row,hF⟩:=hrel;have ar:=hF.below dO.o (Nat.le_add_right _ 2)
 by_cases hlt:k<k0
 first
 |clear pp139a
  ·have dG:=ct dJ.o hlt;have pp55c:=();exact pm55
  first
  |clear pp0a
   ·obtain rfl:k=k0:=by omega
    have pp237:=();exact pm237
  |clear pp0b
   ·obtain rfl:k=k0:=by omega
    exact pm237
  |·obtain rfl:k=k0:=by omega
    have cb:((a.map aM).take k).length=k:=by rw[dX];have:=dJ.o;simp;omega
    have j4:(a.map aM).take k=(a.map aM):=ii (by have:=dJ.o;simp;omega);obtain ⟨ra,rc,rfl⟩:=hF.row.slice;rw[cb]at hF;have HR:=ab (j4 ▸ hF.row);have x2:=hF.box;have x1:=hF.other (by omega) jI.o;obtain ⟨c0,c1,c2⟩:=lE x2;obtain ⟨e0,e1,e2⟩:=lE x1;have z0:=ac x1 0;have z1:=ac x1 1;have z2:=ac x1 2;obtain ⟨mj,dy⟩:=aZ x1 ar;clear j4 cb hF x1 x2 ar;gi_wp2;have x6:=qt (v0:=.bool true) (v1:=.string ⟨r.toArray⟩) (v2:=.slice ra k rc) mj.o;have k6:=eF (W:=wr) (b:=w.heap.size+1) (v0:=.bool true) (v1:=.string ⟨r.toArray⟩) (v2:=.slice ra k rc);obtain ⟨W6,cP⟩:=ao (((wr.setCell ⟨w.heap.size+1,0,none⟩ (.bool true)).setCell ⟨w.heap.size+1,1,none⟩ (.string ⟨r.toArray⟩)).setCell ⟨w.heap.size+1,2,none⟩ (.slice ra k rc));rw[<-cP]at x6 k6 ⊢;clear cP;have g0:W6.cell? ⟨w.heap.size+1,0,none⟩=some (.bool true):=ah x6 0;have g1:W6.cell? ⟨w.heap.size+1,1,none⟩=some (.string ⟨r.toArray⟩):=ah x6 1;have g2:W6.cell? ⟨w.heap.size+1,2,none⟩=some (.slice ra k rc):=ah x6 2;have hz:=(bn jI.o);have h6:TermV (w.heap.size<=·) W6 (TQ.val ⟨true,⟨r.toArray⟩,ra,k,rc⟩) (.mk true r (a.map aM)):=(HR.o.kp1 k6 (by omega)).term dO.o.size;refine bI (v:=TQ.val ⟨true,⟨r.toArray⟩,ra,k,rc⟩) (by simp[TQ.val,results,Tryz.results69,go_sem,g0,g1,g2]) rfl (⟨⟨true,⟨r.toArray⟩,ra,k,rc⟩,rfl,h6,Below.kp1 dy.o k6 (by omega)⟩)
 |clear pp139b
  ·have dG:=ct dJ.o hlt;have pp55h:=();exact pm55
  ·obtain rfl:k=k0:=by omega
   have cb:(a.take k).length=k:=by rw[dX,<-dJ.o];omega
   have j4:a.take k=a:=by rw[dJ.o];exact cO
   have pp15a:=();exact pm15
 |clear pp139c
  ·have dG:=ct dJ.o hlt;have pp55k:=();exact pm55
  ·obtain rfl:k=k0:=by omega
   exact pm214
 |·have dG:=ct dJ.o hlt;exact pm55
  ·obtain rfl:k=k0:=by omega
   exact pm187):G:=h
theorem pm140(h:G:=by
 go_upto_region 1 with fail;rw[<-iW.o];go_upto_region 2 with (go_at_call 119;refine sX.o.mono ?_;rintro e w3 ⟨rfl,aJ⟩;have H3:=ab aJ;clear aJ);have ln:=(IT.o.later H1.o.2.2).later H3.o;have x3:=bT H3.o H1.o.2.1
 first
 |clear pp140;obtain ⟨⟨z0,z1,z2,z3,z4⟩,hz,ER,LA,_,_,z7⟩:=ln.termOf (x:=n) lG;simp only[TQ.val]at z7;have br:=ln.ts.lt;have pp37a:=();exact pm37
 |obtain ⟨⟨z0,z1,z2,z3,z4⟩,hz,ER,LA,Qh,_,z7⟩:=ln.termOf (x:=n) lG;simp only[TQ.val]at z7;have br:=ln.ts.lt;exact pm37):G:=h
theorem pm141(h:G:=by
 rw[lp]at HM;have BI:keyOf Tryz.prog 9 (.string ⟨n.toArray⟩)=some (.string n):=by rw[WideMaps.keyOf_string_mk Tryz.underlying9 (by have e:(⟨n.toArray⟩:ByteArray).size=n.length:=rfl;rw[e];unfold maxLen;omega)]
 first
 |clear pp141;have lJ:P.length<maxLen:=by have:=Di.o;unfold maxLen;omega
  go_wp2_with (first | rw[<-p_.o] | (go_at_call 119;refine HM.o.mono ?_;rintro e w3 ⟨rfl,aJ⟩;have g1:=aa aJ e1;have g2:=aa aJ e2;obtain ⟨D,au,oM,mn⟩:=HB.o.2.1.same (aJ.block m HB.o.2.1.lt);have HD:=bE au oM mn;have H3:=ab aJ;clear aJ oM mn) | (at_mapUpdate;refine wpList_mapUpdate_own _ rfl _ _ _ 118 rfl 9 4 (Maps.string_keyed Tryz.underlying9) Tryz.underlying118 (plainElem Tryz.prog 4) m P.length D rfl au lJ _ _ (.string n) rfl rfl BI (.lit (.bool true)) [] (plainElem_bool Tryz.underlying4 true) ?_;intro w4 aR ap;have j7:Kp (fun b=>b=m) W5 w4:=(Kp.below H3.o).trans (Kp.grown ap rfl);have g3:=j7.cell (a:=⟨wr.heap.size,2,none⟩) (by have:=HMl.o;show ¬wr.heap.size=m;omega) e2;have wh:=SetW.more n HD.o.1 HD.o.2.1 HD.o.2.2 aR;have KI:=HB.o.2.2.1.trans j7;have C:=ab (CC.o w4 (P ++ [n]) wh KI (by have:=Di.o;rw[di];simp;omega));have H4:=ab KI;clear aR ap j7 wh KI au g1 g2) | (go_at_call 132;refine C.o.mono ?_;rintro e w6 ⟨rfl,qJ,mZ⟩;have H6:=aC qJ mZ;clear qJ mZ));go_roundw
  case rel=>exact ⟨j+1,by omega,by go_num,by have:=H6.o.1;rw[HT.o];simpa[Sg,lp,HP.o] using this,H4.o.trans H6.o.2⟩
  case measure=>simp[intOf];omega
 |have lJ:pre.length<maxLen:=by have:=HP.o.2.2;unfold maxLen;omega
  have HQ:=ab hP;clear hP hc lp ZF;rcases ho with rfl | rfl
  all_goals
   go_wp2_with (first | (go_at_call 119;refine HM.o.mono ?_;rintro e w3 ⟨rfl,aJ⟩;have g1:=aa aJ e1;obtain ⟨D,au,oM,mn⟩:=HS.o.same (aJ.block m HS.o.lt);have HD:=bE au oM mn;have H3:=ab aJ;clear aJ oM mn) | (at_mapUpdate;refine wpList_mapUpdate_own _ rfl _ _ _ 118 rfl 9 4 (Maps.string_keyed Tryz.underlying9) Tryz.underlying118 (plainElem Tryz.prog 4) m pre.length D rfl au lJ _ _ (.string n) rfl rfl BI (.lit (.bool true)) [] (plainElem_bool Tryz.underlying4 true) ?_;intro w4 aR ap;have j7:Kp (fun b=>b=m) W1 w4:=(Kp.below H3.o).trans (Kp.grown ap rfl);have wh:=SetW.more n HD.o.1 HD.o.2.1 HD.o.2.2 aR;have g3:=j7.cell (a:=⟨w.heap.size,3,none⟩) (by have:=HB.o.2.2;show ¬w.heap.size=m;omega) e3;have g2:=j7.cell (a:=⟨w.heap.size,2,none⟩) (by have:=HB.o.2.2;show ¬w.heap.size=m;omega) e2;have KI:=(Kp.below HB.o.1).trans j7;have C:=ab (CT.o w4 (by rw[HQ.o];exact wh) KI);have H4:=ab KI;clear aR ap j7 KI wh au g1) | (go_at_call 132;refine C.o.mono ?_;rintro e w5 ⟨rfl,Dl,mL⟩;have f3:=mL.cell (a:=⟨w.heap.size,3,none⟩) (by have:=HB.o.2.2;show ¬w.heap.size=m;omega) g3;have H5:=aC Dl (H4.o.trans mL);clear Dl mL));go_loopw [29] (fun i wr=>∃j:Nat,j<=m1/\i=.int .i64 j/\SetW wr m (P ++ js a ++ kw (s.take j)).length (P ++ js a ++ kw (s.take j))/\Kp (fun b=>b=m) w wr) (fun i _=>m1 - (intOf i).toNat)
   case atStart=>exact ⟨0,bc _,rfl,by simpa[kw] using H5.o.1,H5.o.2⟩
   case round=>
    exact pm5):G:=h
theorem pm142(h:G:=by
 obtain ⟨S,hS⟩:∃S:World->Prop,S=fun V=>Below W2.heap.size W2 V:=⟨_,rfl⟩
 first
 |clear pp142a;have pp:∀ V,S V->V.cell? ⟨w.heap.size,2,none⟩=some (.slice (some ⟨b1,o1,none⟩) ql qc)/\V.cell? ⟨b1,o1+0 * 3+1,none⟩=some (.string ⟨x.toArray⟩)/\V.cell? ⟨b1,o1+1 * 3+1,none⟩=some (.string ⟨y.toArray⟩):=fun V h=>by rw[hS]at h;exact ⟨aa h (ah x2 2),aa h (aa bF c1),aa h (aa bF d1)⟩
  have dW:S W2.drew:=by rw[hS];exact (ak _ _).drew
  obtain ⟨HB,gF⟩:=aZ bF bl;have jH:=eU;have hq1:(1:Int)<(ql:Int):=by omega
  have hqn:¬ql=0:=by omega
  have Ec:(0:Int)<(ql:Int):=by omega
  clear hq gI lh hu hz c0 c1 c2 d0 d1 d2 hx cf sx hI bF x2 hS bl hok hql;unfold FQ.val;go_enter Tryz.func96,Tryz.ntmps96;go_wp2;rw[<-gF.o];refine (wpIn_wide (n:=3)).1 ?_;refine lV S 13 dW fun jO bW=>?_;refine bL 0 4 (.pointer (some ⟨w.heap.size,2,none⟩)) rfl bW fun cF=>?_;simp only[ag];refine dm 1 5 (.slice (some ⟨b1,o1,none⟩) ql qc) rfl (fun V hX=>by obtain ⟨h0,h1,h2⟩:=pp V hX;go_simp) cF fun fI=>?_;simp only[ag];refine bL 2 6 (.pointer (some ⟨b1,o1+0 * 3,none⟩)) rfl fI fun gO=>?_;simp only[ag];refine bL 3 7 (.pointer (some ⟨b1,o1+0 * 3+1,none⟩)) rfl gO fun iX=>?_;simp only[ag];refine dm 4 8 (.string ⟨x.toArray⟩) rfl (fun V hX=>by obtain ⟨h0,h1,h2⟩:=pp V hX;go_simp) iX fun jQ=>?_;simp only[ag];refine bL 6 10 (.pointer (some ⟨w.heap.size,2,none⟩)) rfl jQ fun kf=>?_;simp only[ag];refine dm 7 11 (.slice (some ⟨b1,o1,none⟩) ql qc) rfl (fun V hX=>by obtain ⟨h0,h1,h2⟩:=pp V hX;go_simp) kf fun mK=>?_;simp only[ag];refine bL 8 12 (.pointer (some ⟨b1,o1+1 * 3,none⟩)) rfl mK fun sg=>?_;simp only[ag];refine bL 9 13 (.pointer (some ⟨b1,o1+1 * 3+1,none⟩)) rfl sg fun JT=>?_;simp only[ag];refine dm 10 14 (.string ⟨y.toArray⟩) rfl (fun V hX=>by obtain ⟨h0,h1,h2⟩:=pp V hX;go_simp) JT fun Cb=>?_;simp only[ag];refine ce 5 rfl fun K hK=>?_;go_simp;refine aL.2 ((eY x W2.drew yg).mono ?_);rintro e w6 ⟨rfl,rfl⟩;refine hK _ _ (fun _=>dW) (fun _=>?_);clear hK K;refine ce 11 rfl fun K hK=>?_;go_simp;refine hK _ _ (fun _=>dW) (fun _=>?_);clear hK K;refine ce 12 rfl fun K hK=>?_;go_simp;refine hK _ _ (fun _=>dW) (fun _=>?_);clear hK K;refine le ?_;go_wp2;refine bI (v:=.tuple #[.string ⟨(cM x).toArray⟩,.string ⟨y.toArray⟩]) (by simp[results,Tryz.results96,go_sem]) rfl ⟨rfl,HB.o.drew⟩
 |clear pp142b
  first
  |clear pp48a;have f0:∀ V,S V->V.cell? ⟨w.heap.size+1+1,2,none⟩=some (.slice ra k rc):=fun V h=>by rw[hS]at h;exact aa h (gD.cell 2)
   have f1:∀ V,S V->V.cell? ⟨wr.heap.size,0,none⟩=some (.bool u.v)/\V.cell? ⟨wr.heap.size,1,none⟩=some (.string u.n)/\V.cell? ⟨wr.heap.size,2,none⟩=some (.slice u.a u.l u.c):=fun V h=>by rw[hS]at h;exact ⟨aa h (ah xb 0),aa h (ah xb 1),aa h (ah xb 2)⟩
   have dW:S W2.drew:=by rw[hS];exact (ak _ _).drew
   obtain ⟨du,cJ,eW⟩:=cD hS fH gD
   first
   |clear pp9a;clear hS fH gD xb;refine lV S 5 dW fun jO bW=>?_
    refine bL 0 18 (.pointer (some ⟨w.heap.size+1+1,2,none⟩)) rfl bW fun cF=>?_;simp only[ag];refine dm 1 19 (.slice ra k rc) rfl (fun V hX=>by have g0:=f0 V hX;go_simp) cF fun fI=>?_;simp only[ag];refine dm 2 20 (.agg #[.bool u.v,.string u.n,.slice u.a u.l u.c]) rfl (fun V hX=>by obtain ⟨g0,g1,g2⟩:=f1 V hX;go_simp) fI fun gO=>?_;simp only[ag];refine ce 3 rfl fun K hK=>?_;go_simp;refine aL.2 ((fd.o a[k] (az dG) (ng.o.mem (az dG)) _ W2.drew u (HU.o.later (cJ.o.drew))).mono ?_);rintro _ A ⟨p,rfl,hp,hA⟩;have cv:Below W2.heap.size W2 A:=((ak W2.heap.size W2).drew).trans hA;refine hK _ _ (fun _=>by rw[du.o];exact cv) (fun _=>?_);clear hK K;refine ce 4 rfl fun K hK=>?_;simp only[TQ.val];go_simp;refine hK _ _ (fun _=>by rw[du.o];exact cv.trans (((ak _ A).alloc (aF _) _).mono cv.size)) (fun _=>?_);clear hK K;obtain ⟨qs,ew,au,gh⟩:=eW.o.row;rw[eh.o]at ew au;have oG:=cv.size;have sE:=eW.o.size;refine ce 5 rfl fun K hK=>?_;refine bB (.tmp 19) (.tmp 22) 33 rfl W1.heap.size 43 i0 (.agg #[.bool false,.string ByteArray.empty,.slice none 0 0]) 3 48 Tryz.underlying33 hi pF iq gV rfl (by decide) (.slice ra k rc) k _ rfl ((bh au (fun b _ hlt=>cv.block b hlt)).alloc _) ⟨_,0,none⟩ 1 1 p.cells rfl rfl (dj (cs:=#[.bool p.v,.string p.n,.slice p.a p.l p.c]) (t:=43) (fr:=(0,0)) (fO A _)) (by simp[TQ.cells,Value.oneCell']) (by decide) (by unfold maxLen;omega) (by omega) (by simp;omega) (A.heap.size+1) (by simp) ?_;intro g eG w4 aR ap hg ev;have h4:=eW.o.at4 (kk:=2) au cv ap;have cV:=eW.o.stepT (F:=2) (t:=a[k]) (g:=g) (cap:=eG) (by rw[eh.o];exact au) (by rw[eh.o];exact ew) gh cv (hp:TermV (W2.heap.size<=·) A p.val a[k]) (by rw[eh.o];exact aR) ap hg rfl;rw[eh.o,List.take_append_getElem dG]at cV;have oH:=ab cV;have d3:=h4.2.2;have z3:=h4.2.1;clear aR ap hg ev cV h4 au ew gh hp hA;refine eS hK ?_;clear hK K;refine ce 6 rfl fun K hK=>?_;go_simp;refine eS hK ?_;clear hK K;refine ce 7 rfl fun K hK=>?_;go_simp;refine eS hK ?_;clear hK K;refine le ?_;gi_wp2;go_roundw
    case rel=>exact ⟨k+1,by omega,by go_num,_,oH.o⟩
    case measure=>simp[intOf];omega
   |clear pp9b;clear hS fH gD xb;refine lV S 6 dW fun jO bW=>?_
    refine bL 0 34 (.pointer (some ⟨w.heap.size+1+1,2,none⟩)) rfl bW fun cF=>?_;simp only[ag];refine dm 1 35 (.slice ra k rc) rfl (fun V hX=>by have g0:=f0 V hX;go_simp) cF fun fI=>?_;simp only[ag];refine dm 2 36 (.agg #[.bool u.v,.string u.n,.slice u.a u.l u.c]) rfl (fun V hX=>by obtain ⟨g0,g1,g2⟩:=f1 V hX;go_simp) fI fun gO=>?_;simp only[ag];refine bL 3 37 (.func (.func g) #[] lb) rfl gO fun iX=>?_;simp only[ag];refine ce 4 rfl fun K hK=>?_;go_simp;refine aL.2 ((fd.o a[k] (az dG) (ng.o.mem (az dG)) _ W2.drew u (((Lx.o.tr dy.o).tr cJ.o).tr (ak _ _).drew) (HU.o.later (cJ.o.drew))).mono ?_);rintro _ A ⟨⟨p,rfl,hp⟩,hA⟩;have cv:Below W2.heap.size W2 A:=((ak W2.heap.size W2).drew).trans hA;refine hK _ _ (fun _=>by rw[du.o];exact cv) (fun _=>?_);clear hK K;refine ce 5 rfl fun K hK=>?_;simp only[TQ.val];go_simp;refine hK _ _ (fun _=>by rw[du.o];exact cv.trans (((ak _ A).alloc (aF _) _).mono cv.size)) (fun _=>?_);clear hK K;obtain ⟨qs,ew,au,gh⟩:=eW.o.row;rw[eh.o]at ew au;have oG:=cv.size;have sE:=eW.o.size;refine ce 6 rfl fun K hK=>?_;refine bB (.tmp 35) (.tmp 39) 33 rfl W1.heap.size 43 pY (.agg #[.bool false,.string ByteArray.empty,.slice none 0 0]) 3 48 Tryz.underlying33 hi yF vX yX rfl (by decide) (.slice ra k rc) k _ rfl ((bh au (fun b _ hlt=>cv.block b hlt)).alloc _) ⟨_,0,none⟩ 1 1 p.cells rfl rfl (dj (cs:=#[.bool p.v,.string p.n,.slice p.a p.l p.c]) (t:=43) (fr:=(0,0)) (fO A _)) (by simp[TQ.cells,Value.oneCell']) (by decide) (by unfold maxLen;omega) (by omega) (by simp;omega) (A.heap.size+1) (by simp) ?_;intro g eG w4 aR ap hg ev;have h4:=eW.o.at4 (kk:=2) au cv ap;have cV:=eW.o.stepT (F:=2) (t:=(eT f a[k])) (g:=g) (cap:=eG) (by rw[eh.o];exact au) (by rw[eh.o];exact ew) gh cv (hp:TermV (W2.heap.size<=·) A p.val (eT f a[k])) (by rw[eh.o];exact aR) ap hg rfl;rw[eh.o,c_ (eT f) a dG]at cV;have oH:=ab cV;have d3:=h4.2.2;have z3:=h4.2.1;clear aR ap hg ev cV h4 au ew gh hp hA;refine eS hK ?_;clear hK K;refine ce 7 rfl fun K hK=>?_;go_simp;refine eS hK ?_;clear hK K;refine ce 8 rfl fun K hK=>?_;go_simp;refine eS hK ?_;clear hK K;refine le ?_;gi_wp2;go_roundw
    case rel=>exact ⟨k+1,by omega,by go_num,_,oH.o⟩
    case measure=>simp[intOf];omega
   |clear pp9c;clear hS fH gD xb;refine lV S 7 dW fun jO bW=>?_
    refine bL 0 51 (.pointer (some ⟨w.heap.size+1+1,2,none⟩)) rfl bW fun cF=>?_;simp only[ag];refine dm 1 52 (.slice ra k rc) rfl (fun V hX=>by have g0:=f0 V hX;go_simp) cF fun fI=>?_;simp only[ag];refine bL 2 53 (.pointer (some ⟨kb,0,none⟩)) rfl fI fun gO=>?_;simp only[ag];refine dm 3 54 (.agg #[.bool u.v,.string u.n,.slice u.a u.l u.c]) rfl (fun V hX=>by obtain ⟨g0,g1,g2⟩:=f1 V hX;go_simp) gO fun iX=>?_;simp only[ag];refine bL 4 55 vL rfl iX fun jQ=>?_;simp only[ag];refine ce 5 rfl fun K hK=>?_;go_simp;refine aL.2 ((fd.o a[k] (az dG) (ng.o.mem (az dG)) _ W2.drew u (((Lx.o.tr dy.o).tr cJ.o).tr (ak _ _).drew) (HU.o.later (cJ.o.drew))).mono ?_);rintro _ A ⟨⟨p,rfl,hp⟩,hA⟩;have cv:Below W2.heap.size W2 A:=((ak W2.heap.size W2).drew).trans hA;refine hK _ _ (fun _=>by rw[du.o];exact cv) (fun _=>?_);clear hK K;refine ce 6 rfl fun K hK=>?_;simp only[TQ.val];go_simp;refine hK _ _ (fun _=>by rw[du.o];exact cv.trans (((ak _ A).alloc (aF _) _).mono cv.size)) (fun _=>?_);clear hK K;obtain ⟨qs,ew,au,gh⟩:=eW.o.row;rw[eh.o]at ew au;have oG:=cv.size;have sE:=eW.o.size;refine ce 7 rfl fun K hK=>?_;refine bB (.tmp 52) (.tmp 57) 33 rfl W1.heap.size 43 pY (.agg #[.bool false,.string ByteArray.empty,.slice none 0 0]) 3 48 Tryz.underlying33 hi yF vX yX rfl (by decide) (.slice ra k rc) k _ rfl ((bh au (fun b _ hlt=>cv.block b hlt)).alloc _) ⟨_,0,none⟩ 1 1 p.cells rfl rfl (dj (cs:=#[.bool p.v,.string p.n,.slice p.a p.l p.c]) (t:=43) (fr:=(0,0)) (fO A _)) (by simp[TQ.cells,Value.oneCell']) (by decide) (by unfold maxLen;omega) (by omega) (by simp;omega) (A.heap.size+1) (by simp) ?_;intro g eG w4 aR ap hg ev;have h4:=eW.o.at4 (kk:=2) au cv ap;have cV:=eW.o.stepT (F:=2) (t:=(bY kd.ts sc a[k])) (g:=g) (cap:=eG) (by rw[eh.o];exact au) (by rw[eh.o];exact ew) gh cv (hp:TermV (W2.heap.size<=·) A p.val (bY kd.ts sc a[k])) (by rw[eh.o];exact aR) ap hg rfl;rw[eh.o,c_ (bY kd.ts sc) a dG]at cV;have oH:=ab cV;have d3:=h4.2.2;have z3:=h4.2.1;clear aR ap hg ev cV h4 au ew gh hp hA;refine eS hK ?_;clear hK K;refine ce 8 rfl fun K hK=>?_;go_simp;refine eS hK ?_;clear hK K;refine ce 9 rfl fun K hK=>?_;go_simp;refine eS hK ?_;clear hK K;refine le ?_;gi_wp2;go_roundw
    case rel=>exact ⟨k+1,by omega,by go_num,_,oH.o⟩
    case measure=>simp[intOf];omega
   |clear hS fH gD xb;refine lV S 5 dW fun jO bW=>?_
    refine bL 0 29 (.pointer (some ⟨w.heap.size+1+1,2,none⟩)) rfl bW fun cF=>?_;simp only[ag];refine dm 1 30 (.slice ra k rc) rfl (fun V hX=>by have g0:=f0 V hX;go_simp) cF fun fI=>?_;simp only[ag];refine dm 2 31 (.agg #[.bool u.v,.string u.n,.slice u.a u.l u.c]) rfl (fun V hX=>by obtain ⟨g0,g1,g2⟩:=f1 V hX;go_simp) fI fun gO=>?_;simp only[ag];refine ce 3 rfl fun K hK=>?_;go_simp;refine aL.2 ((fd.o a[k] (az dG) (ng.o.mem (az dG)) _ W2.drew u (HU.o.later (cJ.o.drew))).mono ?_);rintro _ A ⟨p,rfl,hp,hA⟩;have cv:Below W2.heap.size W2 A:=((ak W2.heap.size W2).drew).trans hA;refine hK _ _ (fun _=>by rw[du.o];exact cv) (fun _=>?_);clear hK K;refine ce 4 rfl fun K hK=>?_;simp only[TQ.val];go_simp;refine hK _ _ (fun _=>by rw[du.o];exact cv.trans (((ak _ A).alloc (aF _) _).mono cv.size)) (fun _=>?_);clear hK K;obtain ⟨qs,ew,au,gh⟩:=eW.o.row;rw[eh.o]at ew au;have oG:=cv.size;have sE:=eW.o.size;refine ce 5 rfl fun K hK=>?_;refine bB (.tmp 30) (.tmp 33) 33 rfl W1.heap.size 43 pY (.agg #[.bool false,.string ByteArray.empty,.slice none 0 0]) 3 48 Tryz.underlying33 hi yF vX yX rfl (by decide) (.slice ra k rc) k _ rfl ((bh au (fun b _ hlt=>cv.block b hlt)).alloc _) ⟨_,0,none⟩ 1 1 p.cells rfl rfl (dj (cs:=#[.bool p.v,.string p.n,.slice p.a p.l p.c]) (t:=43) (fr:=(0,0)) (fO A _)) (by simp[TQ.cells,Value.oneCell']) (by decide) (by unfold maxLen;omega) (by omega) (by simp;omega) (A.heap.size+1) (by simp) ?_;intro g eG w4 aR ap hg ev;have h4:=eW.o.at4 (kk:=2) au cv ap;have cV:=eW.o.stepT (F:=2) (t:=(aM a[k])) (g:=g) (cap:=eG) (by rw[eh.o];exact au) (by rw[eh.o];exact ew) gh cv (hp:TermV (W2.heap.size<=·) A p.val (aM a[k])) (by rw[eh.o];exact aR) ap hg rfl;rw[eh.o,c_ aM a dG]at cV;have oH:=ab cV;have d3:=h4.2.2;have z3:=h4.2.1;clear aR ap hg ev cV h4 au ew gh hp hA;refine eS hK ?_;clear hK K;refine ce 6 rfl fun K hK=>?_;go_simp;refine eS hK ?_;clear hK K;refine ce 7 rfl fun K hK=>?_;go_simp;refine eS hK ?_;clear hK K;refine le ?_;gi_wp2;go_roundw
    case rel=>exact ⟨k+1,by omega,by go_num,_,oH.o⟩
    case measure=>simp[intOf];omega
  |clear pp48b;have f0:∀ V,S V->V.cell? ⟨w3.heap.size+1,2,none⟩=some (.slice ra k rc):=fun V h=>by rw[hS]at h;exact aa h (gD.cell 2)
   have f1:∀ V,S V->V.cell? ⟨wr.heap.size,0,none⟩=some (.bool u.v)/\V.cell? ⟨wr.heap.size,1,none⟩=some (.string u.n)/\V.cell? ⟨wr.heap.size,2,none⟩=some (.slice u.a u.l u.c):=fun V h=>by rw[hS]at h;exact ⟨aa h (ah xb 0),aa h (ah xb 1),aa h (ah xb 2)⟩
   have dW:S W2.drew:=by rw[hS];exact (ak _ _).drew
   obtain ⟨du,cJ,eW⟩:=cD hS fH gD;clear hS fH gD xb;refine lV S 6 dW fun jO bW=>?_;refine bL 0 34 (.pointer (some ⟨w3.heap.size+1,2,none⟩)) rfl bW fun cF=>?_;simp only[ag];refine dm 1 35 (.slice ra k rc) rfl (fun V hX=>by have g0:=f0 V hX;go_simp) cF fun fI=>?_;simp only[ag];refine dm 2 36 (.agg #[.bool u.v,.string u.n,.slice u.a u.l u.c]) rfl (fun V hX=>by obtain ⟨g0,g1,g2⟩:=f1 V hX;go_simp) fI fun gO=>?_;simp only[ag];refine bL 3 37 (.func (.func g) #[] lb) rfl gO fun iX=>?_;simp only[ag];refine ce 4 rfl fun K hK=>?_;go_simp;refine aL.2 ((fd.o a[k] (az dG) (ng.o.mem (az dG)) _ W2.drew u (((Lx.o.tr dy.o).tr cJ.o).tr (ak _ _).drew) (HU.o.later (cJ.o.drew))).mono ?_);rintro _ A ⟨⟨p,rfl,hp⟩,hA⟩;have cv:Below W2.heap.size W2 A:=((ak W2.heap.size W2).drew).trans hA;refine hK _ _ (fun _=>by rw[du.o];exact cv) (fun _=>?_);clear hK K;refine ce 5 rfl fun K hK=>?_;simp only[TQ.val];have pp25d:=();exact pm25
  |clear pp48c;have f0:∀ V,S V->V.cell? ⟨w.heap.size+1+1,2,none⟩=some (.slice fJ k1 fK):=fun V h=>by rw[hS]at h;exact aa h (gD.cell 2)
   have f1:∀ V,S V->V.cell? ⟨jg.heap.size,0,none⟩=some (.bool u.v)/\V.cell? ⟨jg.heap.size,1,none⟩=some (.string u.n)/\V.cell? ⟨jg.heap.size,2,none⟩=some (.slice u.a u.l u.c):=fun V h=>by rw[hS]at h;exact ⟨aa h (ah xb 0),aa h (ah xb 1),aa h (ah xb 2)⟩
   have dW:S W2.drew:=by rw[hS];exact (ak _ _).drew
   obtain ⟨du,cJ,eW⟩:=cD hS fH gD;clear hS fH gD xb;refine lV S 5 dW fun jO bW=>?_;refine bL 0 20 (.pointer (some ⟨w.heap.size+1+1,2,none⟩)) rfl bW fun cF=>?_;simp only[ag];refine dm 1 21 (.slice fJ k1 fK) rfl (fun V hX=>by have g0:=f0 V hX;go_simp) cF fun fI=>?_;simp only[ag];refine dm 2 22 (.agg #[.bool u.v,.string u.n,.slice u.a u.l u.c]) rfl (fun V hX=>by obtain ⟨g0,g1,g2⟩:=f1 V hX;go_simp) fI fun gO=>?_;simp only[ag];refine ce 3 rfl fun K hK=>?_;go_simp;refine aL.2 ((rZ a[k1] (F6.o.mem (az dG)) _ W2.drew u (HU.o.later (cJ.o.drew))).mono ?_);rintro _ A ⟨p,rfl,hp,hA⟩;have cv:Below W2.heap.size W2 A:=((ak W2.heap.size W2).drew).trans hA;refine hK _ _ (fun _=>by rw[du.o];exact cv) (fun _=>?_);clear hK K;refine ce 4 rfl fun K hK=>?_;simp only[TQ.val];have pp25e:=();exact pm25
  |clear pp48d;have f0:∀ V,S V->V.cell? ⟨w.heap.size+1+1+1,2,none⟩=some (.slice fJ k1 fK):=fun V h=>by rw[hS]at h;exact aa h (gD.cell 2)
   have f1:∀ V,S V->V.cell? ⟨Ep.heap.size,0,none⟩=some (.bool u.v)/\V.cell? ⟨Ep.heap.size,1,none⟩=some (.string u.n)/\V.cell? ⟨Ep.heap.size,2,none⟩=some (.slice u.a u.l u.c):=fun V h=>by rw[hS]at h;exact ⟨aa h (ah xb 0),aa h (ah xb 1),aa h (ah xb 2)⟩
   have xu:=gD.other (by omega) HXU.o;have fu:∀ V,S V->V.cell? ⟨w.heap.size+1,0,none⟩=some (.bool zv)/\V.cell? ⟨w.heap.size+1,1,none⟩=some (.string zn)/\V.cell? ⟨w.heap.size+1,2,none⟩=some (.slice za zl zc):=fun V h=>by rw[hS]at h;exact ⟨aa h (ah xu 0),aa h (ah xu 1),aa h (ah xu 2)⟩
   clear xu;have dW:S W2.drew:=by rw[hS];exact (ak _ _).drew
   obtain ⟨du,cJ,eW⟩:=cD hS fH gD;clear hS fH gD xb;refine lV S 9 dW fun jO bW=>?_;refine bL 0 27 (.pointer (some ⟨w.heap.size+1+1+1,2,none⟩)) rfl bW fun cF=>?_;simp only[ag];refine dm 1 28 (.slice fJ k1 fK) rfl (fun V hX=>by have g0:=f0 V hX;go_simp) cF fun fI=>?_;simp only[ag];refine dm 2 29 (.agg #[.bool u.v,.string u.n,.slice u.a u.l u.c]) rfl (fun V hX=>by obtain ⟨g0,g1,g2⟩:=f1 V hX;go_simp) fI fun gO=>?_;simp only[ag];refine bL 3 30 (.string ⟨nx.toArray⟩) rfl gO fun iX=>?_;simp only[ag];refine dm 4 31 (.agg #[.bool zv,.string zn,.slice za zl zc]) rfl (fun V hX=>by obtain ⟨h0,h1,h2⟩:=fu V hX;go_simp) iX fun jQ=>?_;simp only[ag];refine bL 5 32 (.agg #[.string ⟨nx.toArray⟩,.bool zv,.string zn,.slice za zl zc]) rfl jQ fun kf=>?_;simp only[ag];refine ce 6 rfl fun K hK=>?_;go_simp;refine hK _ _ (fun _=>by rw[du.o];exact ((ak W2.heap.size W2).drew).alloc (aF _) _) (fun _=>?_);clear hK K;refine ce 7 rfl fun K hK=>?_;go_simp;refine aL.2 ((GC a[k1] (F6.o.mem (az dG)) nx Ly.o z Py.o.1 _ _ _ u ⟨zv,zn,za,zl,zc⟩ W2.heap.size 0 1 ((HU.o.later cJ.o.drew).later cQ) ((((HZ.o.later dy.o).later cJ.o).later ((ak _ _).drew)).later cQ) (ah (aj rfl) 0) (ah (aj rfl) 1) (ah (aj rfl) 2) (ah (aj rfl) 3)).mono ?_);rintro _ A ⟨⟨p,rfl,nD⟩,hA⟩;have hp:TermV (W2.heap.size<=·) A p.val (iB nx z a[k1]):=nD.move (fun b hok _=>⟨by simp at hok;omega,rfl⟩);clear nD;have cv:Below W2.heap.size W2 A:=(((ak W2.heap.size W2).drew).alloc (aF _) _).trans (hA.mono (by simp));refine hK _ _ (fun _=>by rw[du.o];exact cv) (fun _=>?_);clear hK K;refine ce 8 rfl fun K hK=>?_;simp only[TQ.val];have pp25g:=();exact pm25
  |clear pp48e;have f0:∀ V,S V->V.cell? ⟨w.heap.size+1+1,2,none⟩=some (.slice ra k1 rc):=fun V h=>by rw[hS]at h;exact aa h (gD.cell 2)
   have f1:∀ V,S V->V.cell? ⟨Ep.heap.size,0,none⟩=some (.bool u.v)/\V.cell? ⟨Ep.heap.size,1,none⟩=some (.string u.n)/\V.cell? ⟨Ep.heap.size,2,none⟩=some (.slice u.a u.l u.c):=fun V h=>by rw[hS]at h;exact ⟨aa h (ah xb 0),aa h (ah xb 1),aa h (ah xb 2)⟩
   have dW:S W2.drew:=by rw[hS];exact (ak _ _).drew
   obtain ⟨du,cJ,eW⟩:=cD hS fH gD;clear hS fH gD xb;refine lV S 7 dW fun jO bW=>?_;refine bL 0 70 (.pointer (some ⟨w.heap.size+1+1,2,none⟩)) rfl bW fun QU=>?_;simp only[ag];refine dm 1 71 (.slice ra k1 rc) rfl (fun V hX=>by have g0:=f0 V hX;go_simp) QU fun QV=>?_;simp only[ag];refine bL 2 72 (.pointer (some ⟨kb,0,none⟩)) rfl QV fun Kl=>?_;simp only[ag];refine dm 3 73 (.agg #[.bool u.v,.string u.n,.slice u.a u.l u.c]) rfl (fun V hX=>by obtain ⟨g0,g1,g2⟩:=f1 V hX;go_simp) Kl fun QW=>?_;simp only[ag];refine bL 4 74 (vL) rfl QW fun Yc=>?_;simp only[ag];refine ce 5 rfl fun K hK=>?_;go_simp;refine aL.2 ((HFT.o a[k1] (zbf.o _ (az dG)) _ W2.drew u ((dy.o.tr cJ.o).tr (ak _ _).drew) (HU.o.later (cJ.o.drew))).mono ?_);rintro _ A ⟨⟨p,rfl,hp⟩,hA⟩;have cv:Below W2.heap.size W2 A:=((ak W2.heap.size W2).drew).trans hA;refine hK _ _ (fun _=>by rw[du.o];exact cv) (fun _=>?_);clear hK K;refine ce 6 rfl fun K hK=>?_;simp only[TQ.val];have pp25b:=();exact pm25
  |have f0:∀ V,S V->V.cell? ⟨w3.heap.size,2,none⟩=some (.slice ra k rc):=fun V h=>by rw[hS]at h;exact aa h (gD.cell 2)
   have f1:∀ V,S V->V.cell? ⟨wr.heap.size,0,none⟩=some (.bool u.v)/\V.cell? ⟨wr.heap.size,1,none⟩=some (.string u.n)/\V.cell? ⟨wr.heap.size,2,none⟩=some (.slice u.a u.l u.c):=fun V h=>by rw[hS]at h;exact ⟨aa h (ah xb 0),aa h (ah xb 1),aa h (ah xb 2)⟩
   have dW:S W2.drew:=by rw[hS];exact (ak _ _).drew
   obtain ⟨du,cJ,eW⟩:=cD hS fH gD;clear hS fH gD xb;refine lV S 7 dW fun jO bW=>?_;refine bL 0 51 (.pointer (some ⟨w3.heap.size,2,none⟩)) rfl bW fun cF=>?_;simp only[ag];refine dm 1 52 (.slice ra k rc) rfl (fun V hX=>by have g0:=f0 V hX;go_simp) cF fun fI=>?_;simp only[ag];refine bL 2 53 (.pointer (some ⟨kb,0,none⟩)) rfl fI fun gO=>?_;simp only[ag];refine dm 3 54 (.agg #[.bool u.v,.string u.n,.slice u.a u.l u.c]) rfl (fun V hX=>by obtain ⟨g0,g1,g2⟩:=f1 V hX;go_simp) gO fun iX=>?_;simp only[ag];refine bL 4 55 vL rfl iX fun jQ=>?_;simp only[ag];refine ce 5 rfl fun K hK=>?_;go_simp;refine aL.2 ((fd.o a[k] (az dG) (ng.o.mem (az dG)) _ W2.drew u (((Lx.o.tr dy.o).tr cJ.o).tr (ak _ _).drew) (HU.o.later (cJ.o.drew))).mono ?_);rintro _ A ⟨⟨p,rfl,hp⟩,hA⟩;have cv:Below W2.heap.size W2 A:=((ak W2.heap.size W2).drew).trans hA;refine hK _ _ (fun _=>by rw[du.o];exact cv) (fun _=>?_);clear hK K;refine ce 6 rfl fun K hK=>?_;simp only[TQ.val];have pp25a:=();exact pm25
 |clear pp142c;have ff:∀ V,S V->V.cell? ⟨kb,0,none⟩=some (.map (some mF))/\V.cell? ⟨w.heap.size+1,1,none⟩=some (.string ⟨n.toArray⟩)/\(Instr.lookup 145 (.map (some mF)) (.string ⟨n.toArray⟩) false).run Tryz.prog V=.ok (.agg #[.int .u8 g0,.string g1,.slice g2 g3 g4,.slice g5 g6 g7]) V:=fun V h=>by
   rw[hS]at h;exact ⟨aa h (ah H2.o.2.2.box 0),aa h e1,vE V (h.block _ pS)⟩
  have dW:S W2.drew:=by rw[hS];exact (ak _ _).drew
  first
  |clear pp68;have HC:=ab (fun (V:World) (h:Below W2.heap.size W2 V)=>kI f uI.o.2.1 _ V ⟨g0,g1,g2,g3,g4,g5,g6,g7⟩ (uI.o.1.later h));simp only[FQ.val,<-hm]at HC;have du:=ab hS;clear hS hm hE vE pS e0 e1 e2 e3;go_enter Tryz.func126,Tryz.ntmps126;go_upto_region 2 with fail;rw[<-gF.o];have e0:=ah H2.o.2.1 0;go_upto_region 4 with fail;clear e0;refine (wpIn_wide (n:=3)).1 ?_;refine lV S 8 dW fun jO bW=>?_;refine bL 0 19 (.pointer (some ⟨kb,0,none⟩)) rfl bW fun cF=>?_;simp only[ag];refine bL 1 20 (.pointer (some ⟨kb,0,none⟩)) rfl cF fun fI=>?_;simp only[ag];refine bL 2 21 (.pointer (some ⟨kb,0,none⟩)) rfl fI fun gO=>?_;simp only[ag];refine dm 3 22 (.map (some mF)) rfl (fun V hX=>by obtain ⟨h0,h1,h2⟩:=ff V hX;go_simp) gO fun iX=>?_;simp only[ag];refine bL 4 23 (.pointer (some ⟨w.heap.size+1,1,none⟩)) rfl iX fun jQ=>?_;simp only[ag];refine dm 5 24 (.string ⟨n.toArray⟩) rfl (fun V hX=>by obtain ⟨h0,h1,h2⟩:=ff V hX;go_simp) jQ fun kf=>?_;simp only[ag];refine dm 6 25 (.agg #[.int .u8 g0,.string g1,.slice g2 g3 g4,.slice g5 g6 g7]) rfl (fun V hX=>by obtain ⟨h0,h1,h2⟩:=ff V hX;go_simp) kf fun mK=>?_;simp only[ag];refine ce 7 rfl fun K hK=>?_;go_simp;refine aL.2 ((HC.o _ (by have h:=bW;rw[du.o]at h;exact h)).mono ?_);rintro e w7 ⟨rfl,fD⟩;have H7:=ab (((ak W2.heap.size W2).drew).trans fD);refine hK _ _ (fun _=>by rw[du.o];exact H7.o) (fun _=>?_);clear hK K fD;refine ce 8 rfl fun K hK=>?_;go_simp;refine eS hK ?_;clear hK K;refine le ?_;clear ff dW bW cF fI gO iX jQ kf mK jO;go_wp2;go_ret;exact ⟨by rw[rA.o];rfl,H2.o.1.tr H7.o⟩
  |have HC:=ab (fun (V:World) (h:Below W2.heap.size W2 V)=>ut f uI.o.2.1 (by have:=uI.o.2.2;omega) _ V ⟨g0,g1,g2,g3,g4,g5,g6,g7⟩ (uI.o.1.later h));simp only[FQ.val,<-hm]at HC;have du:=ab hS;clear hS hm hE vE pS e0 e1 e2 e3;go_enter Tryz.func195,Tryz.ntmps195;go_upto_region 2 with fail;rw[<-gF.o];have e0:=ah H2.o.2.1 0;go_upto_region 4 with fail;clear e0;refine (wpIn_wide (n:=3)).1 ?_;refine lV S 9 dW fun jO bW=>?_;refine bL 0 18 (.pointer (some ⟨kb,0,none⟩)) rfl bW fun cF=>?_;simp only[ag];refine bL 1 19 (.pointer (some ⟨kb,0,none⟩)) rfl cF fun fI=>?_;simp only[ag];refine bL 2 20 (.pointer (some ⟨kb,0,none⟩)) rfl fI fun gO=>?_;simp only[ag];refine dm 3 21 (.map (some mF)) rfl (fun V hX=>by obtain ⟨h0,h1,h2⟩:=ff V hX;go_simp) gO fun iX=>?_;simp only[ag];refine bL 4 22 (.pointer (some ⟨w.heap.size+1,1,none⟩)) rfl iX fun jQ=>?_;simp only[ag];refine dm 5 23 (.string ⟨n.toArray⟩) rfl (fun V hX=>by obtain ⟨h0,h1,h2⟩:=ff V hX;go_simp) jQ fun kf=>?_;simp only[ag];refine dm 6 24 (.agg #[.int .u8 g0,.string g1,.slice g2 g3 g4,.slice g5 g6 g7]) rfl (fun V hX=>by obtain ⟨h0,h1,h2⟩:=ff V hX;go_simp) kf fun mK=>?_;simp only[ag];refine ce 7 rfl fun K hK=>?_;go_simp;refine aL.2 ((HC.o _ (by have h:=bW;rw[du.o]at h;exact h)).mono ?_);rintro e w7 ⟨⟨v7,rfl,M4⟩,fD⟩;have H7:=ab (((ak W2.heap.size W2).drew).trans fD);have Wn:=ab (rD m HM.o.2 HM.o.1 _ w7 v7 M4.1);refine hK _ _ (fun _=>by rw[du.o];exact H7.o) (fun _=>?_);clear hK K fD M4;refine ce 8 rfl fun K hK=>?_;go_simp;refine aL.2 (Wn.o.mono ?_);rintro e w8 ⟨⟨v8,rfl,GG⟩,Vc⟩;have gS:Below W2.heap.size W2 w8:=kY (w:=W2) H7.o Vc;have H8:=aC gS GG;refine hK _ _ (fun _=>by rw[du.o];exact H8.o.1) (fun _=>?_);clear hK K Vc gS GG;refine ce 9 rfl fun K hK=>?_;go_simp;refine eS hK ?_;clear hK K;refine le ?_;clear ff dW bW cF fI gO iX jQ kf mK jO;go_wp2;go_ret;exact ⟨⟨_,rfl,by rw[rA.o];exact H8.o.2.base H2.o.1.size⟩,H2.o.1.tr H8.o.1⟩
 |clear pp142d
  first
  |clear pp97;have f0:∀ V,S V->V.cell? ⟨w.heap.size+1+1+1,3,none⟩=some (.slice ra k rc):=fun V h=>by rw[hS]at h;exact aa h (gD.cell 3)
   have f1:∀ V,S V->V.cell? ⟨wr.heap.size,0,none⟩=some (.int .u8 u.o)/\V.cell? ⟨wr.heap.size,1,none⟩=some (.string u.n)/\V.cell? ⟨wr.heap.size,2,none⟩=some (.slice u.a u.l u.c)/\V.cell? ⟨wr.heap.size,3,none⟩=some (.slice u.b u.m u.e):=fun V h=>by rw[hS]at h;exact ⟨aa h (ah xb 0),aa h (ah xb 1),aa h (ah xb 2),aa h (ah xb 3)⟩
   have xu:=gD.other (by omega) zcC.o;have fu:∀ V,S V->V.cell? ⟨w.heap.size+1,0,none⟩=some (.bool zv)/\V.cell? ⟨w.heap.size+1,1,none⟩=some (.string zn)/\V.cell? ⟨w.heap.size+1,2,none⟩=some (.slice za zl zc):=fun V h=>by rw[hS]at h;exact ⟨aa h (ah xu 0),aa h (ah xu 1),aa h (ah xu 2)⟩
   clear xu;have dW:S W2.drew:=by rw[hS];exact (ak _ _).drew
   obtain ⟨du,cJ,eW⟩:=cD hS fH gD;clear hS fH gD xb;refine lV S 7 dW fun jO bW=>?_;refine bL 0 94 (.pointer (some ⟨w.heap.size+1+1+1,3,none⟩)) rfl bW fun cF=>?_;simp only[ag];refine dm 1 95 (.slice ra k rc) rfl (fun V hX=>by have g0:=f0 V hX;go_simp) cF fun fI=>?_;simp only[ag];refine dm 2 96 (.agg #[.int .u8 u.o,.string u.n,.slice u.a u.l u.c,.slice u.b u.m u.e]) rfl (fun V hX=>by obtain ⟨g0,g1,g2,g3⟩:=f1 V hX;go_simp) fI fun gO=>?_;simp only[ag];refine bL 3 97 (.string ⟨nx.toArray⟩) rfl gO fun iX=>?_;simp only[ag];refine dm 4 98 (.agg #[.bool zv,.string zn,.slice za zl zc]) rfl (fun V hX=>by obtain ⟨h0,h1,h2⟩:=fu V hX;go_simp) iX fun jQ=>?_;simp only[ag];refine ce 5 rfl fun K hK=>?_;go_simp;refine aL.2 ((fd.o W0 s[k] nx z (yY.o.mem (az dG)) (HS4.o _ (az dG)).1 (HS4.o _ (az dG)).2.1 (HS4.o _ (az dG)).2.2.1 (HS4.o _ (az dG)).2.2.2 Ly.o Py.o.1 Py.o.2 _ _ W2.drew u ⟨zv,zn,za,zl,zc⟩ (Pz.o.next ((dy.o.tr cJ.o).tr ((ak _ _).drew))) (HU.o.later (cJ.o.drew)) (((HZ.o.later dy.o).later cJ.o).later ((ak _ _).drew))).mono ?_);rintro _ A ⟨⟨p,rfl,hp⟩,hA⟩;have cv:Below W2.heap.size W2 A:=((ak W2.heap.size W2).drew).trans hA;refine hK _ _ (fun _=>by rw[du.o];exact cv) (fun _=>?_);clear hK K;refine ce 6 rfl fun K hK=>?_;simp only[FQ.val];exact pm25
  |have f0:∀ V,S V->V.cell? ⟨w.heap.size+1+1,3,none⟩=some (.slice ra k rc):=fun V h=>by rw[hS]at h;exact aa h (gD.cell 3)
   have f1:∀ V,S V->V.cell? ⟨wr.heap.size,0,none⟩=some (.int .u8 u.o)/\V.cell? ⟨wr.heap.size,1,none⟩=some (.string u.n)/\V.cell? ⟨wr.heap.size,2,none⟩=some (.slice u.a u.l u.c)/\V.cell? ⟨wr.heap.size,3,none⟩=some (.slice u.b u.m u.e):=fun V h=>by rw[hS]at h;exact ⟨aa h (ah xb 0),aa h (ah xb 1),aa h (ah xb 2),aa h (ah xb 3)⟩
   have dW:S W2.drew:=by rw[hS];exact (ak _ _).drew
   obtain ⟨du,cJ,eW⟩:=cD hS fH gD
   first
   |clear pp40;clear hS fH gD xb;refine lV S 5 dW fun jO bW=>?_
    refine bL 0 35 (.pointer (some ⟨w.heap.size+1+1,3,none⟩)) rfl bW fun cF=>?_;simp only[ag];refine dm 1 36 (.slice ra k rc) rfl (fun V hX=>by have g0:=f0 V hX;go_simp) cF fun fI=>?_;simp only[ag];refine dm 2 37 (.agg #[.int .u8 u.o,.string u.n,.slice u.a u.l u.c,.slice u.b u.m u.e]) rfl (fun V hX=>by obtain ⟨g0,g1,g2,g3⟩:=f1 V hX;go_simp) fI fun gO=>?_;simp only[ag];refine ce 3 rfl fun K hK=>?_;go_simp;refine aL.2 ((fd.o s[k] (az dG) (yY.o.mem (az dG)) _ W2.drew u (HU.o.later (cJ.o.drew))).mono ?_);rintro _ A ⟨p,rfl,hp,hA⟩;have cv:Below W2.heap.size W2 A:=((ak W2.heap.size W2).drew).trans hA;refine hK _ _ (fun _=>by rw[du.o];exact cv) (fun _=>?_);clear hK K;refine ce 4 rfl fun K hK=>?_;simp only[FQ.val];have pp25f:=();exact pm25
   |clear hS fH gD xb;refine lV S 7 dW fun jO bW=>?_
    refine bL 0 125 (.pointer (some ⟨w.heap.size+1+1,3,none⟩)) rfl bW fun QU=>?_;simp only[ag];refine dm 1 126 (.slice ra k rc) rfl (fun V hX=>by have g0:=f0 V hX;go_simp) QU fun QV=>?_;simp only[ag];refine bL 2 127 (.pointer (some ⟨kb,0,none⟩)) rfl QV fun Kl=>?_;simp only[ag];refine dm 3 128 (.agg #[.int .u8 u.o,.string u.n,.slice u.a u.l u.c,.slice u.b u.m u.e]) rfl (fun V hX=>by obtain ⟨g0,g1,g2,g3⟩:=f1 V hX;go_simp) Kl fun QW=>?_;simp only[ag];refine bL 4 129 (vL) rfl QW fun Yc=>?_;simp only[ag];refine ce 5 rfl fun K hK=>?_;go_simp;refine aL.2 ((fd.o ss[k] (az dG) c L _ W2.drew vL u (HL.o.2.2.2.tr ((dy.o.tr cJ.o).tr (ak _ _).drew)) (HL.o.1.later ((dy.o.tr cJ.o).tr (ak _ _).drew)) (by have:=e9 (az dG);have:=HL.o.2.1;simp only[nodesF]at this;omega) HL.o.2.2.1 (HU.o.later (cJ.o.drew))).mono ?_);rintro _ A ⟨⟨p,rfl,hp⟩,hA⟩;have cv:Below W2.heap.size W2 A:=((ak W2.heap.size W2).drew).trans hA;refine hK _ _ (fun _=>by rw[du.o];exact cv) (fun _=>?_);clear hK K;refine ce 6 rfl fun K hK=>?_;simp only[FQ.val];have pp25c:=();exact pm25
 |have ft:∀ V,S V->V.cell? ⟨w4.heap.size,0,none⟩=some (.int .u8 go)/\V.cell? ⟨w4.heap.size,1,none⟩=some (.string gn)/\V.cell? ⟨w4.heap.size,2,none⟩=some (.slice ga gl gc)/\V.cell? ⟨w4.heap.size,3,none⟩=some (.slice gb gm ge):=fun V h=>by rw[hS]at h;exact ⟨aa h (ah WL.o 0),aa h (ah WL.o 1),aa h (ah WL.o 2),aa h (ah WL.o 3)⟩
  have fn0:∀ V,S V->V.cell? ⟨w.heap.size,1,none⟩=some (.string ⟨n.toArray⟩):=fun V h=>by rw[hS]at h;exact aa h (ah MW.o.b0 1)
  have fm:∀ V,S V->V.cell? ⟨w.heap.size+1+1+1,1,none⟩=some (.string ⟨m.toArray⟩):=fun V h=>by rw[hS]at h;exact aa h (ah MW.o.b2 1)
  have dW:S W2.drew:=by rw[hS];exact (ak _ _).drew
  have du:=ab hS;clear hS;refine lV S 7 dW fun jO bW=>?_;refine dm 0 73 (.agg #[.int .u8 go,.string gn,.slice ga gl gc,.slice gb gm ge]) rfl (fun V hX=>by obtain ⟨g0,g1,g2,g3⟩:=ft V hX;go_simp) bW fun cF=>?_;simp only[ag];refine bL 1 74 (.pointer (some ⟨w.heap.size,1,none⟩)) rfl cF fun fI=>?_;simp only[ag];refine dm 2 75 (.string ⟨n.toArray⟩) rfl (fun V hX=>by have g0:=fn0 V hX;go_simp) fI fun gO=>?_;simp only[ag];refine bL 3 76 (.pointer (some ⟨w.heap.size+1+1+1,1,none⟩)) rfl gO fun iX=>?_;simp only[ag];refine dm 4 77 (.string ⟨m.toArray⟩) rfl (fun V hX=>by have g0:=fm V hX;go_simp) iX fun jQ=>?_;simp only[ag];refine ce 5 rfl fun K hK=>?_;go_simp;refine aL.2 ((gg m _).mono ?_);rintro _ A1 ⟨rfl,FK⟩;have cv:Below W2.heap.size W2 A1:=((ak W2.heap.size W2).drew).trans FK;refine hK _ _ (fun _=>by rw[du.o];exact cv) (fun _=>?_);clear hK K;refine ce 6 rfl fun K hK=>?_;go_simp;have WM:=MW.o.later cv;refine aL.2 ((fd.o W0 g n (am m) nH.o.2.2.2.2 nH.o.1 nH.o.2.1 nH.o.2.2.1 nH.o.2.2.2.1 lG ⟨by simp[am,nodesT,nodesTs],wi HM.o.2.1⟩ (by simp[am,nodesT,nodesTs]) _ (fun _=>True) A1 ⟨go,gn,ga,gl,gc,gb,gm,ge⟩ ⟨true,⟨m.toArray⟩,none,0,0⟩ (Pz.o.next WM.below) (HG.o.later WM.below) (aV.2 ⟨_,rfl,b_⟩)).mono ?_);rintro _ A ⟨⟨⟨ho,ud,ha,hl,hc,hb,hm,he⟩,rfl,hp⟩,hA⟩;have SL:=cv.tr hA;refine hK _ _ (fun _=>by rw[du.o];exact SL) (fun _=>?_);clear hK K;have tB:A.heap[w4.heap.size]?=some (.cells #[.int .u8 go,.string gn,.slice ga gl gc,.slice gb gm ge] 36 (0,0)):=bT SL WL.o;have lh:=gR kk g n m nH.o.2.1 nH.o.2.2.1 nH.o.2.2.2.1;obtain ⟨G2,hG2⟩:=ao (eD kk n (am m) g);have UR:kT 2000000 G2=true:=by rw[hG2];exact oU kk g n (am m) nH.o.2.1 nH.o.2.2.1 nH.o.2.2.2.1 (by have:=nH.o.1;simp[am,nodesT,nodesTs];omega) nH.o.2.2.2.2.2 (wi HM.o.2.1)
  rw[<-hG2]at lh hp;have HG2:Hd (fitF G2/\nodesF G2<=100000/\lL G2=true/\qone G2=true/\depthF G2<=kk):=ab ⟨⟨by have:=nH.o.1;omega,UR⟩,by have:=nH.o.1;omega,lh.1,lh.2.1,by have:=nH.o.2.2.2.1;omega⟩;have wk:Hd (RS=.mk qo m [] [eD kk nx z G2]):=ab (by rw[wk.o,hG2]);have jR:w.heap.size+3<w4.heap.size:=GF.o.lt;have oG:=cv.size;have zcL:=(bn WL.o);have WN:=dI (W:=A) (b:=w4.heap.size) (v0:=.int .u8 ho) (v1:=.string ud) (v2:=.slice ha hl hc) (v3:=.slice hb hm he);have JN:=lm (v0:=.int .u8 ho) (v1:=.string ud) (v2:=.slice ha hl hc) (v3:=.slice hb hm he) tB;obtain ⟨s0,s1,s2,s3⟩:=mi tB;have zs0:=ac tB 0;have zs1:=ac tB 1;have zs2:=ac tB 2;have zs3:=ac tB 3;have US:=(MW.o.later SL).keep WN.os WN.tape WN.output WN.size (fun b bF=>WN.same b (by have:=(MW.o.later SL).lt;omega) (by omega));have zaE:=hp.move (ok':=fun _=>True) (fun b hok hlt=>⟨trivial,WN.same b hlt (by omega)⟩);obtain ⟨ux,zaF,zaG⟩:=cD US JN zaE;clear lh hG2 UR jR oG zcL WN JN tB US zaE hp hA FK cv SL WM;refine ce 7 rfl fun K hK=>?_;simp only[FQ.val];go_simp;refine eS hK ?_;clear hK K;refine le ?_;obtain ⟨lP,GH⟩:=ao ((((A.setCell ⟨w4.heap.size,0,none⟩ (.int .u8 ho)).setCell ⟨w4.heap.size,1,none⟩ (.string ud)).setCell ⟨w4.heap.size,2,none⟩ (.slice ha hl hc)).setCell ⟨w4.heap.size,3,none⟩ (.slice hb hm he));rw[<-GH]at ux zaF zaG ⊢;clear GH s0 s1 s2 s3 zs0 zs1 zs2 zs3 ft fn0 fm dW du bW cF fI gO iX jQ jO;have CP:=fd.o W0 G2 nx z HG2.o.1 HG2.o.2.1 HG2.o.2.2.1 HG2.o.2.2.2.1 HG2.o.2.2.2.2 Ly.o Py.o.1 Py.o.2 _ _ lP ⟨ho,ud,ha,hl,hc,hb,hm,he⟩ ⟨zv,zn,za,zl,zc⟩ (Pz.o.next ux.o.below) zaG.o (HZ.o.later ux.o.below);simp only[FQ.val,TQ.val]at CP;have JM:=ab CP;obtain ⟨tu0,tu1,tu2⟩:=lE ux.o.bu;obtain ⟨tt0,tt1,tt2,tt3⟩:=mi zaF.o;clear CP;gi_wp2_with fail;refine aL.2 (JM.o.mono ?_);rintro e w8 ⟨⟨⟨po,pn,pa,pl,pc,pb,pm,pe⟩,rfl,UO⟩,gS⟩;clear tu0 tu1 tu2 tt0 tt1 tt2 tt3;have WG:=gS.size;have hwX:=ux.o.below.size;have lO:Below w8.heap.size w8 (w8.alloc (.cells #[.int .u8 po,.string pn,.slice pa pl pc,.slice pb pm pe] 36)):=cQ;have uw:=(ux.o.later gS).later lO;exact pm78):G:=h
theorem pm143(h:G:=by
 obtain ⟨k0,cg⟩:=ao l.length;obtain ⟨m0,el⟩:=ao m.length;rw[jD,<-cg,<-el];rw[<-cg,<-el]at ox;have d1:((k0:Int) == (m0:Int))=false:=by simp;omega
 have d2:((k0:Int) != (m0:Int))=true:=by simp;omega
 clear jD hl hm aA cg el ih
 first
 |clear pp143;go_enter Tryz.func19,Tryz.ntmps19;go_wp2;go_ret;exact ⟨rfl,ak _ _⟩
 |go_enter Tryz.func52,Tryz.ntmps52;go_wp2;go_ret;exact ⟨rfl,ak _ _⟩):G:=h
theorem pm144(h:G:=by
 clear hK K;have HH:=ab PM;clear PM;refine ce 16 rfl fun K hK=>?_;go_simp;refine eS hK ?_;clear hK K;refine le ?_;gi_wp2;go_ret;obtain ⟨Ey,h1,h2,h3⟩:=HH.o;exact .inr ⟨rfl,Ey,h1,h2,((zR.o.2.trans kD.o.2).from _).trans h3⟩):G:=h
theorem pm145(h:G:=by
 go_wp2_with (go_at_call 191;refine (CP.o _).mono ?_;rintro e w' ⟨rfl,rfl⟩);go_ret;exact ⟨rfl,ak _ _⟩):G:=h
theorem pm146(h:G:=by
 simp only[PlQ.val,PlQ.cells];go_enter Tryz.func48,Tryz.ntmps48
 first
 |clear pp146a;go_wp2;rw[<-iW.o];go_region
  all_goals
   rw[<-bl];clear bl;go_wp2;go_ret;exact StepPost.bad HE.o (by decide) (Kp.below cJ.o)
 |clear pp146b;go_wp2;rw[<-iW.o];go_cut [5,6] from 17 to 27 (fun s5 s6 wx=>s5=.pointer (some ⟨W1.heap.size,0,none⟩)/\s6=.bool true/\wx=W2)
  case first=>
   go_region
   all_goals
    rw[<-bl];go_wp2_with fail;go_meet;exact ⟨rfl,rfl,rfl⟩
  case rest=>
  obtain ⟨h5,h6,hw⟩:=hcut;rw[h5,h6,hw];clear h5 h6 hw wc bl l1 l2 g0 g1 g3 g4 g5 P0 P1 P2 P3 P4 P5 P6 P7 P8;obtain ⟨P0,P1,P2,P3,P4,P5,P6,P7⟩:=BA H2.o.2.2.2;have P8:=ah H2.o.2.2.2 8;obtain ⟨e0,e1,e2,e3,_,_,_,_⟩:=dh H2.o.2.2.1
  cases I with
  | none=>
   have HE:=ab (show R=(k,70) from Kh.o);exact pm156
  | some im=>
  have Xv:=ab (show R=if iC dc f=0 then (if eB [] f im=true then (k,0) else (k,70))
   else match (match getB k.ts y with | some t=>some (t,k.ts) | none=>(jU f im dc).map fun t=>(t,iE y t k.ts)) with
    | none=>(k,70)
    | some (t,ts)=>if (nodesF f+iC dc f * (nodesT t - 1) != nodesF im)=true then ({ k with ts:=ts },70)
     else if eB [] (iD dc t f) im=true then ({ k with ts:=ts },0) else ({ k with ts:=ts },70) from Kh.o)
  have Ni:=ab (fun (V:World) (h:Below W2.heap.size W2 V)=>jv dc f yt.o.1.fit _ V ⟨EG,EH,EI,EJ,EK,EL,EM,EN⟩ (yt.o.2.later h));simp only[FQ.val]at Ni;obtain ⟨n0,ud⟩:=ao (iC dc f);rw[<-ud]at Xv Ni;have HN0:=ab ud;clear ud Kh;have d16:(16:Int)=16:=rfl;clear d16;go_upto_region 9 with (go_at_call 91;refine HC.o.mono ?_;rintro e w4 ⟨⟨⟨p0,p1,p2,p3,p4,p5,p6,p7⟩,rfl,hp⟩,aP⟩;have H4:=aC (hp _ rfl) aP;clear hp aP;simp only[Option.isSome]);obtain ⟨W5,eK⟩:=ao (w4.alloc (.cells #[.int .u8 p0,.string p1,.slice p2 p3 p4,.slice p5 p6 p7] 36));rw[<-eK];have pU:=cX eK;have EU:Below W2.heap.size W2 W5:=H4.o.2.tr pU;have x5:=bX eK;have GV:FormV (fun b=>¬M b/\b≠W1.heap.size) W5 (FQ.val ⟨p0,p1,p2,p3,p4,p5,p6,p7⟩) im:=H4.o.1.move (fun b hb hlt=>⟨⟨fun hm=>by have:=HG.o.2.2.2.2 b hm;have:=H2.o.2.1.size;omega,by have:=x_.o.2.2.2.1;omega⟩,pU.block b hlt⟩);have ZB:=UT.o im rfl;have H5:=cC EU x5 GV ZB;have HT7:=ab (show W1.heap.size≠w4.heap.size by have:=x_.o.2.2.2.1;have:=H4.o.2.size;omega);have p_:=ab eK;clear P0 P1 P2 P3 P4 P5 P6 P7 P8 e0 e1 e2 e3 pU EU x5 GV ZB eK;have za6:=bT H5.o.1 H2.o.2.2.2;obtain ⟨P0,P1,P2,P3⟩:=mi za6;have zc4:=ab (HIN.o W5 (H2.o.1.tr H5.o.1));go_upto_region 10 with (go_at_call 96;refine zc4.o.mono ?_;rintro e w6 ⟨rfl,cI⟩;have H6:=ab cI;clear cI);clear P0 P1 P2 P3 za6;have Xw:Below W2.heap.size W2 w6:=H5.o.1.tr H6.o;have x26:=bT Xw H2.o.2.2.1;obtain ⟨e0,e1,e2,e3,_,_,_,_⟩:=dh x26;have zc5:=ab (Ni.o w6 Xw);clear Xw x26;go_upto_region 11 with (go_at_call 97;refine zc5.o.mono ?_;rintro e w7 ⟨rfl,fD⟩;have H7:=ab fD;clear fD);clear e0 e1 e2 e3;have Qt:Below W2.heap.size W2 w7:=(H5.o.1.tr H6.o).tr H7.o;have Ki:Below W5.heap.size W5 w7:=H6.o.tr H7.o;have x27:=bT Qt H2.o.2.2.1;have x57:=bT Ki H5.o.2.1;obtain ⟨e0,e1,e2,e3,z0,z1,z2,z3⟩:=dh x27;obtain ⟨f0,f1,f2,f3,_,_,_,_⟩:=dh x57;have Hk:=cC Qt x27 x57 (H5.o.2.2.1.later Ki);have U6:=ab (HK2.o.later Qt);have Tk:=ab (yt.o.2.later Qt);clear Qt Ki x27 x57
  by_cases h0:n0=0
  ·subst h0;obtain ⟨bb,cK⟩:=ao (eB [] f im);have hE:=Xv.o;rw[aX rfl,<-cK]at hE;have HE:=ab hE;have CA:=uG f im [] (.slice none 0 0) _ _ w7 ⟨EG,EH,EI,EJ,EK,EL,EM,EN⟩ ⟨p0,p1,p2,p3,p4,p5,p6,p7⟩ (by have:=yt.o.1.nodes;simp[gJ];omega) yt.o.1.fit Tk.o Hk.o.2.2.2 (PairsV.nil w7);simp only[FQ.val,List.reverse_nil,<-cK]at CA;have EO:=ab CA;clear hE CA cK;cases bb
   ·go_wp2_with (go_at_call 92;refine EO.o.mono ?_;rintro e w8 ⟨rfl,gS⟩;have H8:=ab gS;clear gS);go_ret;exact StepPost.bad HE.o (by decide) (Kp.below (H2.o.2.1.tr (Hk.o.1.tr H8.o)))
   ·go_wp2_with (go_at_call 92;refine EO.o.mono ?_;rintro e w8 ⟨rfl,gS⟩;have H8:=ab gS;clear gS);go_ret;exact StepPost.good nF nT HE.o (Kp.below (H2.o.2.1.tr (Hk.o.1.tr H8.o))) (by omega) (by omega) ((U6.o.later H8.o).move (fun b hb _=>⟨hb.1,rfl⟩) rfl rfl rfl)
  have Tl:=Xv.o;rw[aD h0]at Tl;have pR:=ab (show n0<=400/\0<n0 by have:=yt.o.1.nodes;have:=o6 dc f;have:=HN0.o;omega);have nj:(0:Int)<(n0:Int):=by omega
  have zec:=HF.o.2.2.1;have k0:w7.cell? ⟨kb,1,none⟩=some (.map (some mT)):=ah U6.o.box 1;clear h0;rcases U6.o.ts.look Tryz.underlying9 Tryz.underlying146 jK (x:=y) (by omega) with ⟨hg,hlk⟩ | ⟨t,vt,hg,hvt,hlk⟩
  ·have l1:=(hlk w7 rfl).1;clear hlk;go_upto_region 14 with fail;clear k0 l1 nj e0 e1 e2 e3 z0 z1 z2 z3 f0 f1 f2 f3;obtain ⟨W8,lQ⟩:=ao (w7.alloc (.cells #[.bool false,.string ⟨#[]⟩,.slice none 0 0] 43));rw[<-lQ];have te:=cX lQ;have x8:=bX lQ;have ZH:=bT te Hk.o.2.1;have ZI:=bT te Hk.o.2.2.1;obtain ⟨e0,e1,e2,e3,_,_,_,_⟩:=dh ZH;obtain ⟨f0,f1,f2,f3,_,_,_,_⟩:=dh ZI;have CF:=MX f im dc yt.o.1.fit H5.o.2.2.2.fit (Nt f (by have:=HN0.o;have:=pR.o;omega)) (fun b=>(¬M b/\b≠W1.heap.size)/\b<w7.heap.size) W8 ⟨EG,EH,EI,EJ,EK,EL,EM,EN⟩ ⟨p0,p1,p2,p3,p4,p5,p6,p7⟩ (Tk.o.move (fun b hb hlt=>⟨⟨hb,hlt⟩,te.block b hlt⟩)) (Hk.o.2.2.2.move (fun b hb hlt=>⟨⟨hb,hlt⟩,te.block b hlt⟩));obtain ⟨FS,hFS⟩:=ao (jU f im dc);rw[hg,<-hFS]at Tl;rw[<-hFS]at CF;simp only[FQ.val]at CF;have FL:=ab CF;have H8:=cC te x8 ZH ZI;obtain ⟨HG0,HFS⟩:=aZ hg hFS;clear CF lQ te x8 ZH ZI hg hFS
   cases FS with
   | none=>
    have HE:=ab (show R=(k,70) from Tl);clear Tl;go_wp2_with (go_at_call 98;refine FL.o.mono ?_;rintro e w9 ⟨⟨⟨Qb,Qc,Qd,Qe,Qf⟩,rfl,ht⟩,lO⟩;have x9:=bT lO H8.o.2.1;obtain ⟨s0,s1,s2,v0,v1,v2⟩:=fX x9;have H9:=aC lO x9;clear ht lO x9;simp only[TQ.val,Option.isSome]);obtain ⟨ly,yu,Ew,PE,_⟩:=ui H9.o.2 (.bool Qb) (.string Qc) (.slice Qd Qe Qf);rw[<-yu];have zc6:=ab (Kf (M:=N2 mF mT) (Kp.below ((H2.o.2.1.tr (Hk.o.1.tr H8.o.1)).tr H9.o.1)) PE (by have:=H2.o.2.1.size;have:=Hk.o.1.size;omega));clear yu Ew PE;go_ret;exact StepPost.bad HE.o (by decide) zc6.o
   | some t=>
    have LS:goodT t:=J0 H5.o.2.2.2.ok H5.o.2.2.2.nodes HFS.o.symm;have HE8:=ab (show R=if (nodesF f+n0 * (nodesT t - 1) != nodesF im)=true then ({ k with ts:=iE y t k.ts },70) else if eB [] (iD dc t f) im=true then ({ k with ts:=iE y t k.ts },0) else ({ k with ts:=iE y t k.ts },70) from Tl);have HGt:=ab LS;clear Tl LS;go_upto_region 17 with (go_at_call 98;refine FL.o.mono ?_;rintro e w9 ⟨⟨⟨Qb,Qc,Qd,Qe,Qf⟩,rfl,ht⟩,lO⟩;have x9:=bT lO H8.o.2.1;obtain ⟨s0,s1,s2,v0,v1,v2⟩:=fX x9;have H9:=bE lO x9 (ht t rfl);clear ht lO x9;simp only[TQ.val,Option.isSome]);clear s0 s1 s2 v0 v1 v2 e0 e1 e2 e3 f0 f1 f2 f3;obtain ⟨ly,yu,Ew,PE,y0,y1,y2⟩:=ui H9.o.2.1 (.bool Qb) (.string Qc) (.slice Qd Qe Qf);rw[<-yu];have zc7:w7.heap.size<W8.heap.size:=(bn H8.o.2.1);have Xx:Below w7.heap.size w7 ly:=Below.kp1 (H8.o.1.tr H9.o.1) PE (aF _);have Vf:Below ly.heap.size ly ly.drew:=(ak _ _).drew;have Xy:TermV (fun b=>¬M b/\b≠W1.heap.size) ly (TQ.val ⟨Qb,Qc,Qd,Qe,Qf⟩) t:=H9.o.2.2.move (fun b hb hlt=>⟨hb.2.1,PE.same b hlt (by have:=hb.2.2;omega)⟩);have DG:=U6.o.later Xx;obtain ⟨Ck,cV,xG,Ak,Tn⟩:=(DG.later Vf).storeT (fun h=>h.1 HG.o.2.1) (by have:=HB.o.2.1;omega) (x:=y) (by omega) (Xy.later Vf) HGt.o (l':=iE y t k.ts) (fun z=>zT HG0.o z);have k0:ly.cell? ⟨kb,1,none⟩=some (.map (some mT)):=ah DG.box 1;obtain ⟨k1,y3,y4,y5⟩:=nb Vf k0 y0 y1 y2;have DH:Below w7.heap.size w7 ly.drew:=Xx.tr Vf;have dK:∀ b,¬M b->b≠mT:=fun b hb e=>hb (e ▸ HG.o.2.1);have xh:∀ b o,w7.heap[b]?=some o->b≠mT->Ck.heap[b]?=some o:=fun b o h jD=>(Ak.same b (by have:=(bn h);have:=DH.size;omega) jD).trans ((DH.block b (bn h)).trans h);have zc8:=x_.o.2.2.1;have x5':=xh _ _ Hk.o.2.1 (by omega);have x7':=xh _ _ Hk.o.2.2.1 (by have:=HT7.o;have:=H4.o.2.size;have:=x_.o.2.2.2.1;omega);have xt':=(Ak.same _ (by have:=(bn Ew);have:=Vf.size;omega) (by have:=Hk.o.1.size;have:=x_.o.2.2.2.1;omega)).trans (bT Vf Ew);have FB:Kp (N2 mF mT) W Ck:=(Kp.below (H2.o.2.1.tr (Hk.o.1.tr DH))).trans (Ak.mono (fun b _ h=>.inr h));have mJ:=ab (Si (an3 x5' x7' xt') FB HGt.o xG ((Tk.o.later DH).move (fun b hb hlt=>⟨hb,Ak.same b hlt (dK b hb.1)⟩)) ((Hk.o.2.2.2.later DH).move (fun b hb hlt=>⟨hb,Ak.same b hlt (dK b hb.1)⟩)) ((Xy.later Vf).move (fun b hb hlt=>⟨hb,Ak.same b hlt (dK b hb.1)⟩)));unfold TQ.val at cV;clear zc7 Xx Vf Xy DG xG Ak Tn DH dK xh zc8 x5' x7' xt' FB Ew PE yu;go_region
    all_goals
     go_upto_region 18 with fail;clear k0 k1 y0 y1 y2 y3 y4 y5 cV;obtain ⟨nt,pV⟩:=ao (nodesT t);obtain ⟨nf,sW⟩:=ao (nodesF f);obtain ⟨ni,To⟩:=ao (nodesF im);obtain ⟨m1,jh⟩:=ao (nt - 1);obtain ⟨m2,rR⟩:=ao (n0 * m1);obtain ⟨m3,R_⟩:=ao (nf+m2);have U':1<=nt:=by rw[pV];exact jy t
     have zM:nt<=1000:=by rw[pV];exact mJ.o.2.2.1.2
     have hp3:nf<=400:=by rw[sW];exact yt.o.1.nodes
     have hp4:ni<=400:=by rw[To];exact H5.o.2.2.2.nodes
     have rq:m2<=400 * 1000:=by rw[rR];exact Nat.mul_le_mul pR.o.1 (by omega)
     have ye:IntKind.i64.wrap ((nt:Int) - 1)=(m1:Int):=by rw[ik _ (by omega)];omega
     have Ok:IntKind.i64.wrap ((n0:Int) * (m1:Int))=(m2:Int):=by rw[show (n0:Int) * (m1:Int)=(m2:Int) by rw[rR];simp];exact ik _ (by omega)
     have U_:IntKind.i64.wrap ((nf:Int)+(m2:Int))=(m3:Int):=by rw[ik _ (by omega)];omega
     have Xz:=fun (x:Later Ck)=>kI f yt.o.1.fit _ x.w ⟨EG,EH,EI,EJ,EK,EL,EM,EN⟩ (mJ.o.2.2.2.2.1.later x.below);have XA:=fun (x:Later Ck)=>kI im H5.o.2.2.2.fit _ x.w ⟨p0,p1,p2,p3,p4,p5,p6,p7⟩ (mJ.o.2.2.2.2.2.1.later x.below);have XB:=fun (x:Later Ck)=>kN t mJ.o.2.2.1.fit (by have:=mJ.o.2.2.1.2;omega) _ x.w ⟨Qb,Qc,Qd,Qe,Qf⟩ (mJ.o.2.2.2.2.2.2.later x.below);simp only[FQ.val,TQ.val,<-sW,<-To,<-pV]at Xz XA XB;obtain ⟨HCf,HCi,ZD⟩:=cD Xz XA XB;have XC:=HE8.o;rw[<-sW,<-To,<-pV,<-jh,<-rR,<-R_]at XC;have HE1:=ab XC;obtain ⟨f0,f1,f2,f3,_,_,_,_⟩:=dh mJ.o.1.1;obtain ⟨i0,i1,i2,i3,_,_,_,_⟩:=dh mJ.o.1.2.1;obtain ⟨s0,s1,s2,_,_,_⟩:=fX mJ.o.1.2.2;have q0:=fun x:Later Ck=>x.get f0;have q1:=fun x:Later Ck=>x.get f1;have q2:=fun x:Later Ck=>x.get f2;have q3:=fun x:Later Ck=>x.get f3;have q4:=fun x:Later Ck=>x.get i0;have q5:=fun x:Later Ck=>x.get i1;have q6:=fun x:Later Ck=>x.get i2;have q7:=fun x:Later Ck=>x.get i3;have q8:=fun x:Later Ck=>x.get s0;have q9:=fun x:Later Ck=>x.get s1;have q10:=fun x:Later Ck=>x.get s2;clear Xz XA XB XC pV sW To jh rR R_ U' zM hp3 hp4 rq f0 f1 f2 f3 i0 i1 i2 i3 s0 s1 s2;refine aS (by kernel_rfl) (by kernel_rfl) ?_
     iterate 2 (go_big_quiet_step ((go_at_call 99;exact cw (HCf.o _))))
     iterate 7 (go_big_quiet_step ((go_at_call 100;exact cw (ZD.o _))))
     iterate 2 (go_big_quiet_step ((go_at_call 99;exact cw (HCi.o _))))
     refine wpQuiet_nil ?_;rintro _ ⟨x',rfl⟩;obtain ⟨W9,rO⟩:=ao x'.w;have lO:Below Ck.heap.size Ck W9:=by rw[rO];exact x'.below
     rw[<-rO];clear rO q0 q1 q2 q3 q4 q5 q6 q7 q8 q9 q10 ye Ok U_ x';have Al:Kp (N2 mF mT) W W9:=mJ.o.2.1.trans (Kp.below lO);have Tp:=bT lO mJ.o.1.1;have XD:=bT lO mJ.o.1.2.1;have XE:=bT lO mJ.o.1.2.2;have Kj:=HE1.o
     by_cases jD:m3=ni
     ·rw[aD (by simp[jD])]at Kj;subst jD;have pp34:=();exact pm34
     ·rw[aX (by simp[jD])]at Kj;exact pm154
  ·obtain ⟨⟨Qb,Qc,Qd,Qe,Qf⟩,rfl,pT,Wh⟩:=hvt;simp only[TQ.val]at hlk;have l1:=(hlk w7 rfl).1;clear hlk;go_upto_region 18 with fail;clear k0 l1 nj;obtain ⟨W8,lQ⟩:=ao (w7.alloc (.cells #[.bool Qb,.string Qc,.slice Qd Qe Qf] 43));rw[<-lQ];have te:=cX lQ;have x8:=bX lQ;have ZH:=bT te Hk.o.2.1;have ZI:=bT te Hk.o.2.2.1;rw[hg]at Tl;have HE8:=ab (show R=if (nodesF f+n0 * (nodesT t - 1) != nodesF im)=true then ({ k with ts:=k.ts },70) else if eB [] (iD dc t f) im=true then ({ k with ts:=k.ts },0) else ({ k with ts:=k.ts },70) from Tl);have mJ:=ab (Si (an3 ZH ZI x8) (Kp.below (M:=N2 mF mT) (H2.o.2.1.tr (Hk.o.1.tr te))) Wh (U6.o.later te) (Tk.o.later te) (Hk.o.2.2.2.later te) (pT.later te));clear lQ te x8 ZH ZI Tl Wh pT e0 e1 e2 e3 z0 z1 z2 z3 f0 f1 f2 f3 hg;obtain ⟨nt,pV⟩:=ao (nodesT t);obtain ⟨nf,sW⟩:=ao (nodesF f);obtain ⟨ni,To⟩:=ao (nodesF im);obtain ⟨m1,jh⟩:=ao (nt - 1);obtain ⟨m2,rR⟩:=ao (n0 * m1);obtain ⟨m3,R_⟩:=ao (nf+m2);have U':1<=nt:=by rw[pV];exact jy t
   have zM:nt<=1000:=by rw[pV];exact mJ.o.2.2.1.2
   have hp3:nf<=400:=by rw[sW];exact yt.o.1.nodes
   have hp4:ni<=400:=by rw[To];exact H5.o.2.2.2.nodes
   have rq:m2<=400 * 1000:=by rw[rR];exact Nat.mul_le_mul pR.o.1 (by omega)
   have ye:IntKind.i64.wrap ((nt:Int) - 1)=(m1:Int):=by rw[ik _ (by omega)];omega
   have Ok:IntKind.i64.wrap ((n0:Int) * (m1:Int))=(m2:Int):=by rw[show (n0:Int) * (m1:Int)=(m2:Int) by rw[rR];simp];exact ik _ (by omega)
   have U_:IntKind.i64.wrap ((nf:Int)+(m2:Int))=(m3:Int):=by rw[ik _ (by omega)];omega
   have Xz:=fun (x:Later W8)=>kI f yt.o.1.fit _ x.w ⟨EG,EH,EI,EJ,EK,EL,EM,EN⟩ (mJ.o.2.2.2.2.1.later x.below);have XA:=fun (x:Later W8)=>kI im H5.o.2.2.2.fit _ x.w ⟨p0,p1,p2,p3,p4,p5,p6,p7⟩ (mJ.o.2.2.2.2.2.1.later x.below);have XB:=fun (x:Later W8)=>kN t mJ.o.2.2.1.fit (by have:=mJ.o.2.2.1.2;omega) _ x.w ⟨Qb,Qc,Qd,Qe,Qf⟩ (mJ.o.2.2.2.2.2.2.later x.below);simp only[FQ.val,TQ.val,<-sW,<-To,<-pV]at Xz XA XB;obtain ⟨HCf,HCi,ZD⟩:=cD Xz XA XB;have XC:=HE8.o;rw[<-sW,<-To,<-pV,<-jh,<-rR,<-R_]at XC;have HE1:=ab XC;obtain ⟨f0,f1,f2,f3,_,_,_,_⟩:=dh mJ.o.1.1;obtain ⟨i0,i1,i2,i3,_,_,_,_⟩:=dh mJ.o.1.2.1;obtain ⟨s0,s1,s2,_,_,_⟩:=fX mJ.o.1.2.2;have q0:=fun x:Later W8=>x.get f0;have q1:=fun x:Later W8=>x.get f1;have q2:=fun x:Later W8=>x.get f2;have q3:=fun x:Later W8=>x.get f3;have q4:=fun x:Later W8=>x.get i0;have q5:=fun x:Later W8=>x.get i1;have q6:=fun x:Later W8=>x.get i2;have q7:=fun x:Later W8=>x.get i3;have q8:=fun x:Later W8=>x.get s0;have q9:=fun x:Later W8=>x.get s1;have q10:=fun x:Later W8=>x.get s2;clear Xz XA XB XC pV sW To jh rR R_ U' zM hp3 hp4 rq f0 f1 f2 f3 i0 i1 i2 i3 s0 s1 s2;refine aS (by kernel_rfl) (by kernel_rfl) ?_
   iterate 2 (go_big_quiet_step ((go_at_call 99;exact cw (HCf.o _))))
   iterate 7 (go_big_quiet_step ((go_at_call 100;exact cw (ZD.o _))))
   iterate 2 (go_big_quiet_step ((go_at_call 99;exact cw (HCi.o _))))
   refine wpQuiet_nil ?_;rintro _ ⟨x',rfl⟩;obtain ⟨W9,rO⟩:=ao x'.w;have lO:Below W8.heap.size W8 W9:=by rw[rO];exact x'.below
   rw[<-rO];clear rO q0 q1 q2 q3 q4 q5 q6 q7 q8 q9 q10 ye Ok U_ x';have Al:Kp (N2 mF mT) W W9:=mJ.o.2.1.trans (Kp.below lO);have Tp:=bT lO mJ.o.1.1;have XD:=bT lO mJ.o.1.2.1;have XE:=bT lO mJ.o.1.2.2;have Kj:=HE1.o
   by_cases jD:m3=ni
   ·rw[aD (by simp[jD])]at Kj;subst jD;exact pm34
   ·rw[aX (by simp[jD])]at Kj;exact pm154
 |rw[iW.o]at P0 P1 P2 P3 P4 P5 P6 P7 P8;go_wp2;rw[<-iW.o];go_ret;exact StepPost.good nF nT HE.o (Kp.below PV.o.1) (by omega) (by omega) PV.o.2):G:=h
theorem pm147(h:G:=by
 go_enter Tryz.func273,Tryz.ntmps273;go_wp2_with (go_at_call 287;refine (HC0.o _).mono ?_;rintro e w2 ⟨rfl,rfl⟩)
 first
 |clear pp147;go_loopw [20] (fun i wr=>∃k:Nat,k<=k0/\i=.int .i64 k/\Below w2.heap.size w2 wr/\R=zS (l.drop k) (m.drop k)) (fun i _=>k0 - (intOf i).toNat)
  case atStart=>exact ⟨0,bc _,rfl,ak _ _,by simpa using HR.o⟩
  case round=>
   have pp288c:=();exact pm288
 |go_ret;exact ⟨rfl,ak _ _⟩):G:=h
theorem pm148(h:G:=by
 go_enter Tryz.func115,Tryz.ntmps115;go_wp2;go_ret;exact ⟨rfl,rfl⟩):G:=h
theorem pm149(h:G:=by
 go_upto_region 8 with (go_at_call 97;refine ZC.o.mono ?_;rintro e w5 ⟨rfl,bi⟩;have H5:=ab bi;clear bi);clear j0 j1 j2 j3;have y5:=bT H5.o H3.o.2.1;have x15:=bT (H3.o.1.tr H5.o) HB.o.2.2.2.1
 first
 |clear pp149;subst h0;clear pF;obtain ⟨j0,j1,j2,j3,_,_,_,_⟩:=dh y5;have HC6:=ab (kV.o w5 H5.o);have HX5:=ab x15;have HR5:=ab (show RS=f by rw[HB.o.2.2.2.2,aX rfl]);clear y5 x15;go_wp2_with (go_at_call 51;refine HC6.o.mono ?_;rintro e w6 ⟨⟨p0,p1,p2,p3,p4,p5,p6,p7⟩,rfl,hp,cI⟩;have Sc:=bT cI HX5.o;have Kn:=ab Sc;obtain ⟨i0,i1,i2,i3,q0,q1,q2,q3⟩:=dh Sc;have H6:=aC cI hp;clear cI hp Sc);have x6:=lm (v0:=.int .u8 p0) (v1:=.string p1) (v2:=.slice p2 p3 p4) (v3:=.slice p5 p6 p7) Kn.o;have k6:=dI (W:=w6) (b:=w.heap.size+1) (v0:=.int .u8 p0) (v1:=.string p1) (v2:=.slice p2 p3 p4) (v3:=.slice p5 p6 p7);obtain ⟨W6,cP⟩:=ao ((((w6.setCell ⟨w.heap.size+1,0,none⟩ (.int .u8 p0)).setCell ⟨w.heap.size+1,1,none⟩ (.string p1)).setCell ⟨w.heap.size+1,2,none⟩ (.slice p2 p3 p4)).setCell ⟨w.heap.size+1,3,none⟩ (.slice p5 p6 p7));have pp106:=();exact pm106
 |have pp135:=();exact pm135):G:=h
theorem pm150(h:G:=by
 obtain ⟨b,off,u,rfl,ja,hu,c0,c1,c2,c3⟩:=fP.o.get br;exact pm225):G:=h
theorem pm151(h:G:=by
 have XJ:((m0:Int) != (r4:Int))=false:=by simp;omega
 have XK:(m0 == r4)=true:=by simpa using Ts
 have WZ:=ab Ts;clear Ts;rw[dK,show decide (k0<=r3)=true by simpa using dG,XK]at hM;simp only[dP]at hM
 by_cases gW:on=16
 first
 |clear pp151
  ·subst gW
   cases aO:tJ a with
   | false=>
    exact pm33
   | true=>
    have pp123a:=();exact pm123
  ·have zc9:((on:Int) == 16)=false:=by simp;omega
   rw[show ((on:Int) != 16)=true by simp;omega,Bool.true_or,dP]at hM;exact pm94
 |·subst gW
   cases aO:tJ a with
   | false=>
    exact pm33
   | true=>
    have pp123b:=();exact pm123
  ·have zc9:((on:Int) == 16)=false:=by simp;omega
   rw[show ((on:Int) != 16)=true by simp;omega,Bool.true_or,dP]at hM;exact pm93):G:=h
theorem pm152(h:G:=by
 go_enter Tryz.func95,Tryz.ntmps95
 first
 |clear pp152a;go_wp2_with (first | (rw[<-yi.o];go_at_call 119;refine sX.o.mono ?_;rintro e w4 ⟨rfl,aP⟩;have p0:=aa aP P0;have p1:=aa aP P1;have p2:=aa aP P2;have p3:=aa aP P3;have p4:=aa aP P4;have p5:=aa aP P5;have p6:=aa aP P6;have p7:=aa aP P7;have p8:=aa aP P8;have q1:=aa aP e1;have q0:=aa aP e0;have H4:=ab aP;clear aP) | (go_at_call 163;refine (S2.o w4 H4.o).mono ?_;rintro e w5 ⟨rfl,bi⟩;have H5:=ab (H4.o.tr bi);have t0:=aa (H4.o.tr bi) e0;have u0:=aa (H4.o.tr bi) f0;have t1:=aa (H4.o.tr bi) e1;have u1:=aa (H4.o.tr bi) f1;have t2:=aa (H4.o.tr bi) e2;have u2:=aa (H4.o.tr bi) f2;clear bi))
  first
  |clear pp7a;clear p0 p1 p2 p3 p4 p5 p6 p7 p8 q0 q1;obtain ⟨S,hS⟩:∃S:World->Prop,S=fun V=>Below w5.heap.size w5 V:=⟨_,rfl⟩;have s1:∀ V,S V->V.cell? ⟨W.heap.size+1,1,none⟩=some (.string ⟨n.toArray⟩):=fun V h=>by rw[hS]at h;exact aa h t1
   have v0:∀ V,S V->V.cell? ⟨W.heap.size+1+1,0,none⟩=some (.bool uv)/\V.cell? ⟨W.heap.size+1+1,1,none⟩=some (.string ⟨n'.toArray⟩)/\V.cell? ⟨W.heap.size+1+1,2,none⟩=some (.slice ua n2 uc):=fun V h=>by rw[hS]at h;exact ⟨aa h u0,aa h u1,aa h u2⟩
   have dW:S w5.drew:=by rw[hS];exact (ak _ _).drew
   have du:=ab hS;clear hS t0 t1 t2 u0 u1 u2;have jH:=eU;refine (wpIn_wide (n:=3)).1 ?_;refine lV S 5 dW fun jO bW=>?_;refine dm 0 56 (.agg #[.bool uv,.string ⟨n'.toArray⟩,.slice ua n2 uc]) rfl (fun V hX=>by obtain ⟨h0,h1,h2⟩:=v0 V hX;go_simp) bW fun cF=>?_;simp only[ag];refine bL 1 57 (.pointer (some ⟨W.heap.size+1,1,none⟩)) rfl cF fun fI=>?_;simp only[ag];refine dm 2 58 (.string ⟨n.toArray⟩) rfl (fun V hX=>by have h0:=s1 V hX;go_simp) fI fun gO=>?_;simp only[ag];refine ce 3 rfl fun K hK=>?_;go_simp;refine aL.2 ((eY n w5.drew (by have:=Jc.o;omega)).mono ?_);rintro e w6 ⟨rfl,rfl⟩;refine hK _ _ (fun _=>dW) (fun _=>?_);clear hK K;refine ce 4 rfl fun K hK=>?_;go_simp;refine aL.2 ((gg (cM n) w5.drew).mono ?_);rintro e w7 ⟨rfl,fD⟩;refine hK _ _ (fun _=>by rw[du.o];exact (ak _ _).drew.tr fD) (fun _=>?_);clear hK K;have WU:Below W3.heap.size W3 w7:=(H5.o.drew).tr fD;have CS:=uB (.mk uv n' a') (am (cM n)) (fun b=>¬M b) (fun b=>¬M b) w7 ⟨uv,⟨n'.toArray⟩,ua,n2,uc⟩ ⟨true,⟨(cM n).toArray⟩,none,0,0⟩ (HG.o.2.1 _ HF.o.2) (PO Jc.o) (HT.o.2.1.later WU) (aV.2 ⟨_,rfl,b_⟩);simp only[TQ.val]at CS;rw[<-Lx.o]at CS;refine ce 5 rfl fun K hK=>?_;go_simp;refine aL.2 (CS.mono ?_);rintro e w8 ⟨rfl,gS⟩;refine eS hK ?_;clear hK K;have H8:=ab (WU.tr gS);clear CS fD WU gS;refine ce 6 rfl fun K hK=>?_;go_simp;refine eS hK ?_;clear hK K;refine le ?_;clear dW s1 v0 bW jO;go_wp2;go_ret;refine ⟨Kp.below (H3.o.1.tr H8.o),bb,rfl,(fun h=>?_),(fun ts fS=>?_)⟩
   ·rw[HE.o]at h;cases bb;rfl;cases h
   ·rw[HE.o]at fS;cases bb;cases fS;cases fS;exact ⟨rfl,nT,by omega,H3.o.2.2.2.2.2.later H8.o⟩
  |clear pp7b;go_ret;exact ⟨Kp.below (H3.o.1.tr H5.o),false,rfl,(fun _=>rfl),(fun ts fS=>by rw[HE.o]at fS;cases fS)⟩
  |go_loopw [87] (fun i wr=>∃(j Ce:Nat) (kj:List (Str×Tm)),j<=n1/\i=.int .i64 j/\Kp (fun b=>b=mT) W3 wr/\Ce<=nT+nodesTs (a.take j)/\KnV (fun b=>¬M b) PF PT wr kb mF mT nF Ce ⟨k.fs,kj⟩/\R=ef (ps.reverse.map (·.1)) kj (a.drop j) (a'.drop j)) (fun i _=>n1 - (intOf i).toNat)
   case atStart=>exact ⟨0,nT,k.ts,bc _,rfl,Kp.below H5.o,by omega,H3.o.2.2.2.2.2.later H5.o,by simpa using HE.o⟩
   case round=>
    exact pm8
 |clear pp152b;go_wp2_with (first | (rw[<-yi.o];go_at_call 119;refine sX.o.mono ?_;rintro e w4 ⟨rfl,aP⟩;have H4:=ab aP;clear aP));have oX:=H3.o.2.2.2.2.2.later H4.o;have g0:w4.cell? ⟨kb,1,none⟩=some (.map (some mT)):=ah oX.box 1;have g1:w4.drew.cell? ⟨kb,1,none⟩=some (.map (some mT)):=ah oX.box 1;have g2:=aa H4.o e1;have g3:=aa H4.o.drew e1;have HK4:=ab oX;have bi:Below w4.heap.size w4 (w4.alloc (.cells #[.bool false,.string ⟨#[]⟩,.slice none 0 0] 43)):=cQ;obtain ⟨g4,g5⟩:=yR bi g0 g2;rcases oX.ts.look Tryz.underlying9 Tryz.underlying146 jK (x:=n) (by omega) with ⟨hg,hl⟩ | ⟨u,vu,hg,hvu,hl⟩
  ·have l1:=(hl w4.drew rfl).1;have pp234:=();exact pm234
  ·obtain ⟨⟨xv,xn,xa,xl,xc⟩,rfl,hxv,hpu⟩:=hvu;simp only[TQ.val]at hl;have l1:=(hl w4.drew rfl).1;exact pm234
 |clear pp152c;go_wp2;rw[<-yi.o];go_loopw [87] (fun i wr=>∃(j Ce:Nat) (kj:List (Str×Tm)),j<=n1/\i=.int .i64 j/\Kp (fun b=>b=mT) W3 wr/\Ce<=nT+nodesTs (a.take j)/\KnV (fun b=>¬M b) PF PT wr kb mF mT nF Ce ⟨k.fs,kj⟩/\R=ef (ps.reverse.map (·.1)) kj (a.drop j) (a'.drop j)) (fun i _=>n1 - (intOf i).toNat)
  case atStart=>exact ⟨0,nT,k.ts,bc _,rfl,Kp.below (ak _ _),by omega,H3.o.2.2.2.2.2.later (ak _ _),by simpa using HE.o⟩
  case round=>
   exact pm8
 |go_wp2;rw[<-yi.o];go_ret;exact ⟨Kp.below (H3.o.1.tr (ak _ _)),false,rfl,(fun _=>rfl),(fun ts fS=>by rw[HE.o]at fS;cases fS)⟩):G:=h
theorem pm153(h:G:=by
 simp only[TQ.val,cA,Array.mk.injEq,cr,and_true,Value.bool.injEq,Value.string.injEq]at h1;obtain ⟨rfl,rfl,rfl⟩:=h1
 first
 |clear pp153a;obtain ⟨d0,d1,d2⟩:=kB ar c0 c1 c2;have CC:=ab (fun (W:World) (hb:Below wr.heap.size wr W)=>qB ok W ua ul uc hf.args ((fL.later ar).later hb));have HB:=ab ar;obtain ⟨N,hN⟩:=ao (fG x (l.take k));obtain ⟨M,hM⟩:=ao (fG x xa);have Xk:fG x (l.take (k+1))=N+((if uv && xn == x then 1 else 0)+M):=by rw[jb,hN,hM];rfl
  simp only[Tm.a]at CC;rw[<-hN];rw[<-hM]at CC;rw[Xk]at hb1;have HS:=ab Xk;clear hu qB hf hx fL ar jb hN hM Xk c0 c1 c2;have HW:=ab (show Below wr.heap.size wr (wr.alloc (.cells #[.bool uv,.string ⟨xn.toArray⟩,.slice ua ul uc] 43)) from cQ);have e2:(wr.alloc (.cells #[.bool uv,.string ⟨xn.toArray⟩,.slice ua ul uc] 43)).cell? ⟨wr.heap.size,2,none⟩=some (.slice ua ul uc):=ah (aj rfl) 2
  cases uv with
  | false=>
   simp only[Bool.false_and,bZ,if_false]at hb1;have pp126a:=();exact pm126
  | true=>
   by_cases hn:xn=x
   ·subst hn;simp only[dP,beq_self_eq_true,if_true]at hb1;have pp126b:=();exact pm126
   ·have dT:(xn == x)=false:=by simpa using hn
    rw[dT]at hb1;simp only[Bool.and_false,bZ,if_false]at hb1;exact pm126
 |clear pp153b;obtain rfl:=gI.len;have lG:=ky.name;obtain ⟨W5,eK⟩:=ao (wr.alloc (.cells #[.bool xv,.string ⟨n.toArray⟩,.slice xa a'.length xc] 43));have bi:=cX eK;have x5:=bX eK;have Rq:=dp.same (bi.block m dp.lt);have pS:=dp.lt;have mL:Kp (fun b=>b=m) w W5:=hk.trans (Kp.below bi);obtain ⟨P,hP⟩:=ao (pre ++ js (l.take j));have JR:(Sg (.mk xv n a')).length<=nodesT (.mk xv n a'):=Rp _;have Z1:P.length+nodesT (.mk xv n a')<=4000000:=by
   have h1:=tR.o;have h2:nodesTs (l.take j)+nodesT (.mk xv n a')<=nodesTs l:=by
    have h3:=fT (a:=l) (j:=j+1);have h4:nodesTs (l.take (j+1))=nodesTs (l.take j)+nodesT (.mk xv n a'):=by rw[j5 ic,<-YO]
    omega
   rw[hP,di];omega
  simp only[nodesT]at Z1 pV;have CC:=ab (fun (X:World) (Q:List Str) (hQ:SetW X m Q.length Q) (hX:Kp (fun b=>b=m) w X) (hl:Q.length+nodesTs a'<=4000000)=>fd.o (nodesTs a') (by have:=HN.o.2;omega) a' (aF _) ky.args _ Q m X xa xc hQ (gI.move (fun b hb hlt=>⟨hb,hX.same b hlt (jP.o b hb)⟩)) jP.o hl);rw[<-hP]at dp Rq;obtain ⟨HP,p_⟩:=aZ hP eK;have HB:=cC bi Rq mL x5;have HM:=ab (ip n W5 (by omega));obtain ⟨HT,HMl,Di⟩:=cD iY pS Z1;have yQ:(j:Int)<(n1:Int):=by omega
  clear hx gI ky pV iY nC ur eK bi x5 Rq pS mL hP JR Z1 dp hk YO c0 c1 c2;obtain ⟨e0,e1,e2,_⟩:=fX HB.o.2.2.2
  cases xv with
  | false=>
   have C:=ab (CC.o W5 P HB.o.2.1 HB.o.2.2.1 (by have:=Di.o;omega));go_wp2_with (first | rw[<-p_.o] | (go_at_call 132;refine C.o.mono ?_;rintro e w6 ⟨rfl,qJ,mZ⟩;have H6:=aC qJ mZ;clear qJ mZ));go_roundw
   case rel=>exact ⟨j+1,by omega,by go_num,by have:=H6.o.1;rw[HT.o];simpa[Sg,HP.o] using this,HB.o.2.2.1.trans H6.o.2⟩
   case measure=>simp[intOf];omega
  | true=>
   cases lp:da n with
   | false=>
    rw[lp]at HM;go_wp2_with (first | rw[<-p_.o] | (go_at_call 119;refine HM.o.mono ?_;rintro e w3 ⟨rfl,aJ⟩;have g2:=aa aJ e2;have iV:=HB.o.2.2.1.trans (Kp.below aJ);have C:=ab (CC.o w3 P (HB.o.2.1.same (aJ.block m HB.o.2.1.lt)) iV (by have:=Di.o;omega));have H3:=ab iV;clear aJ iV) | (go_at_call 132;refine C.o.mono ?_;rintro e w6 ⟨rfl,qJ,mZ⟩;have H6:=aC qJ mZ;clear qJ mZ));go_roundw
    case rel=>exact ⟨j+1,by omega,by go_num,by have:=H6.o.1;rw[HT.o];simpa[Sg,lp,HP.o] using this,H3.o.trans H6.o.2⟩
    case measure=>simp[intOf];omega
   | true=>
    have pp141:=();exact pm141
 |obtain rfl:=gI.len;have lG:=ky.name;have P':=ky.args.len;obtain ⟨n1,dT⟩:=ao a.length
  first
  |clear pp75a;rw[<-dT]at hq gI;rw[<-dT];obtain ⟨W1,bR⟩:=ao (w.alloc (.cells #[.bool tv,.string ⟨n.toArray⟩,.slice ta n1 tc] 43));have hb1:=cX bR;have x1:=bX bR;have hE:f_ k.ts (.mk tv n a)=if (tv && da n)=true then (getB k.ts n).isNone else a.any (f_ k.ts):=by rw[f_,qM]
   obtain ⟨R,hR⟩:=ao (f_ k.ts (.mk tv n a));rw[<-hR]at hE ⊢;have HE:=ab hE;have CA:=fun (V:World) (h:Below W1.heap.size W1 V)=>si (f_ k.ts) a P' kb W0 (fun t ht=>ih t ht (ky.args.mem ht)) ok V ta n1 tc ((hb.tr hb1).tr h) ((gI.later hb1).later h);have EO:=ab CA;have sX:=ab (ip n W1 (by omega));have H1:=bE hb1 x1 (hb.tr hb1);have iW:=ab bR;clear hq gI ky ih CA hb1 x1 bR hE hR hb dT P';obtain ⟨e0,e1,e2,_⟩:=fX H1.o.2.1
   cases tv with
   | false=>
    obtain ⟨B,hB⟩:=ao (a.any (f_ k.ts));have hE:=HE.o;rw[aD (by simp),<-hB]at hE;rw[<-hB]at EO;have rA:=ab hE;have C7:=ab (EO.o W1 (ak _ _));clear hE hB;have pp133a:=();exact pm133
   | true=>
    cases lp:da n with
    | false=>
     rw[lp]at sX;obtain ⟨B,hB⟩:=ao (a.any (f_ k.ts));have hE:=HE.o;rw[aD (by simp[lp]),<-hB]at hE;rw[<-hB]at EO;have rA:=ab hE;clear hE hB lp;have pp133b:=();exact pm133
    | true=>
     rw[lp]at sX;have hE:=HE.o;rw[aX (by simp[lp])]at hE;have rA:=ab hE;clear hE lp EO;exact pm133
  |clear pp75b;rw[<-dT]at hq gI P';rw[<-dT];obtain ⟨W1,bR⟩:=ao (w.alloc (.cells #[.bool tv,.string ⟨n.toArray⟩,.slice ta n1 tc] 43));have hb1:=cX bR;have x1:=bX bR;obtain ⟨R,hR⟩:=ao (nP k.ts (.mk tv n a));have hE:=hR;rw[nP]at hE;rw[<-hR];have HE:=ab hE;have sX:=ab (ip n W1 (by omega));have H1:=bE hb1 x1 (hb.tr hb1);have iW:=ab bR;have Xj:=ab (gI.later hb1);obtain ⟨fd,U8,HN⟩:=cD ih ky.args dT;clear hq gI ky ih hb1 x1 bR hE hR hb dT;have jH:=eU
   by_cases Lt:(tv && da n)=true
   ·obtain ⟨rfl,lp⟩:tv=true/\da n=true:=by simpa using Lt
    rw[lp]at sX;have hE:=HE.o;rw[aX Lt]at hE;have rA:=ab hE;clear hE Lt lp;have pp209:=();exact pm209
   ·have hE:=HE.o;rw[aD Lt]at hE;have rA:=ab hE;clear hE;exact pm209
  |rw[<-dT]at hq gI P';rw[<-dT];obtain ⟨W1,bR⟩:=ao (w.alloc (.cells #[.bool tv,.string ⟨n.toArray⟩,.slice ta n1 tc] 43));have hb1:=cX bR;have x1:=bX bR;obtain ⟨R,hR⟩:=ao (jx k.ts (.mk tv n a));have hE:=hR;rw[jx]at hE;rw[<-hR];have HE:=ab hE;have sX:=ab (ip n W1 (by omega));have H1:=bE hb1 x1 (hb.tr hb1);have iW:=ab bR;have Xj:=ab (gI.later hb1);obtain ⟨fd,U8,HSm,HN⟩:=eR ih ky.args JL dT;clear hq gI ky JL ih hb1 x1 bR hE hR hb dT;have jH:=eU
   by_cases Lt:(tv && da n)=true
   ·obtain ⟨rfl,lp⟩:tv=true/\da n=true:=by simpa using Lt
    rw[lp]at sX;have hE:=HE.o;rw[aX Lt]at hE;have rA:=ab hE;clear hE Lt lp;have pp204:=();exact pm204
   ·have hE:=HE.o;rw[aD Lt]at hE;have rA:=ab hE;clear hE;exact pm204):G:=h
theorem pm154(h:G:=by
 have Qj:=ab Kj;have Sv:¬((m3:Int)=(ni:Int)):=by omega
 have V7:((m3:Int) == (ni:Int))=false:=by simp;omega
 have HK9:=ab Al;clear lO Al Tp XD XE Kj;go_wp2;go_ret;exact StepPost.bad Qj.o (by decide) HK9.o):G:=h
theorem pm155(h:G:=by
 have pp292c:=();exact pm292):G:=h
theorem pm156(h:G:=by
 go_wp2_with (go_at_call 91;refine HC.o.mono ?_;rintro e w4 ⟨⟨⟨p0,p1,p2,p3,p4,p5,p6,p7⟩,rfl,hp⟩,aP⟩;have H4:=ab aP;clear hp aP;simp only[Option.isSome]);go_ret
 first
 |clear pp156;exact StepPost.bad HE.o (by decide) (Kp.below ((H3.o.1.tr H4.o).alloc (H3.o.1.tr H4.o).size _))
 |exact StepPost.bad HE.o (by decide) (Kp.below ((H2.o.2.1.tr H4.o).alloc (H2.o.2.1.tr H4.o).size _))):G:=h
theorem pm157(h:G:=by
 go_wp2;go_loopw [8] (fun i wr=>∃k:Nat,k<=k0/\i=.int .i64 k/\Below w.heap.size w wr/\∀ t∈l.take k,pr t=false) (fun i _=>k0 - (intOf i).toNat)
 case atStart=>exact ⟨0,bc _,rfl,ak _ _,by simp⟩
 first
 |clear pp157
  case round=>
   obtain ⟨k,hk,rfl,ar,fZ⟩:=hrel
   by_cases hlt:k<k0
   ·have br:=ct HK.o hlt;obtain ⟨b,off,⟨xv,xn,xa,xl,xc⟩,rfl,hok,hx,c0,c1,c2⟩:=HV.o.get br;simp only at c0 c1 c2;obtain ⟨d0,d1,d2⟩:=kB ar c0 c1 c2;have CB:=HP.o l[k] (az br) _ wr ⟨xv,xn,xa,xl,xc⟩ (S9.o.tr ar) (hx.later ar);simp only[TQ.val]at CB;have DZ:(k:Int)<(k0:Int):=by omega
    cases hq:pr l[k] with
    | true=>
     rw[hq]at CB;have HC:=ab CB;have HE:=ab (show l.any pr=true from List.any_eq_true.2 ⟨_,az br,hq⟩);have pp173:=();exact pm173
    | false=>
     rw[hq]at CB;have HC:=ab CB;have zF:=ab (show ∀ t∈l.take (k+1),pr t=false by
      intro t hm;rw[List.take_add_one,gy br]at hm;rcases List.mem_append.1 hm with h | h
      ·exact fZ t h
      ·obtain rfl:t=l[k]:=by simpa using h
       exact hq)
     exact pm173
   ·obtain rfl:k=k0:=by omega
    have HE:=ab (show l.any pr=false by
     rw[HK.o,cO]at fZ;rw[List.any_eq_false];intro t ht;rw[fZ t ht];simp)
    have HB:=ab ar;clear ar fZ;go_wp2;go_ret;exact ⟨⟨_,rfl,by rw[HE.o];simp⟩,HB.o⟩
 |case round=>
   obtain ⟨k,hk,rfl,ar,fZ⟩:=hrel
   by_cases hlt:k<k0
   ·have br:=ct HK.o hlt;obtain ⟨b,off,rfl,hok,c0⟩:=HV.o.get br;have d0:=aa ar c0;have CB:=HP.o l[k] wr (az br) ar;have DZ:(k:Int)<(k0:Int):=by omega
    cases hq:pr l[k] with
    | true=>
     rw[hq]at CB;have HC:=ab CB;have HE:=bE hq fZ (gy br);have pp241:=();exact pm241
    | false=>
     rw[hq]at CB;have HC:=ab CB;have zF:=ab (Xm br fZ hq);exact pm241
   ·obtain rfl:k=k0:=by omega
    have HE:=ab (show ∀ x∈l,pr x=false by
     rw[HK.o,cO]at fZ;exact fZ)
    have HB:=ab ar;clear ar fZ;go_wp2;go_ret;exact ⟨.inl ⟨rfl,HE.o⟩,HB.o⟩):G:=h
theorem pm158(h:G:=by
 have ht:a.take m0=a:=by rw[ib.o];exact cO
 rw[ht]at hj;have HH:=aC hj bj;clear hj bj ht
 first
 |clear pp158;gi_wp2;go_ret;exact ⟨rfl,HH.o.1,HH.o.2⟩
 |go_wp2;go_ret;exact ⟨rfl,HH.o.1,HH.o.2⟩):G:=h
theorem pm159(h:G:=by
 obtain ⟨pY,hi,yF,vX,yX⟩:=info_parts gN;obtain ⟨Lm,hj,ic,BC,Uq⟩:=info_parts kC
 first
 |clear pp159a;intro t
  induction t using Fm.ind with
  | h o n a s ih=>
   intro aA ok w q hq;have hp:bC (.mk o n a s)=.mk o n (a.map aM) (s.map bC):=by simp[bC,kU,wW]
   rw[hp];clear hp;have pp22a:=();exact pm22
 |clear pp159b;have Di:=aC lJ iF;clear lJ iF;intro f
  induction f using Fm.ind with
  | h o n a s ih=>
  intro aA L ins hL Ph vL ok w fq hsc cV hq;obtain ⟨qo,qn,qa,ql,qc,qb,qm,qe⟩:=fq;obtain ⟨s1,s2,hs,bO,ek⟩:=aW.1 hq;unfold FQ.val at hs;simp only[cA,Array.mk.injEq,cr,and_true,Value.int.injEq,true_and,Value.string.injEq]at hs;obtain ⟨rfl,rfl,rfl,rfl⟩:=hs;obtain rfl:=bO.len;obtain rfl:=ek.len;have cf:=aA.args.len;have en:=aA.subs.len;have lG:=aA.name;have sW:nodesF (.mk qo n a s)=nodesTs a+nodesFs s+1:=by unfold nodesF;rfl
  have hLs:∀ t∈s,L.length+1+nodesF t<=2000000:=fun t ht=>by have:=l7 s t ht;omega
  obtain ⟨ea,fP,F6,yY,fd,JC,oH⟩:=VQ bO ek aA.args aA.subs ih hsc cV;have JE:=bE Ph hLs (show L.length<=2000000 by omega);obtain ⟨k0,cg⟩:=ao a.length;obtain ⟨m0,el⟩:=ao s.length;obtain ⟨RS,Eo⟩:=ao (kv ps.reverse ins (.mk qo n a s));rw[<-cg]at cf;rw[<-el]at en;obtain ⟨dJ,ib⟩:=aZ cg el;obtain ⟨rN,hi'⟩:∃rN:List Str,rN=(if bD qo then n :: ins else ins):=⟨_,rfl⟩;have zD:Hd ((g9 ps.reverse ins a=none->RS=none)/\(jn ps.reverse rN s=none->RS=none)/\∀ a' s',g9 ps.reverse ins a=some a'->jn ps.reverse rN s=some s'->RS=some (.mk qo n a' s')):=ab (by
   rw[Eo,hi'];unfold kv;refine ⟨fun h=>by rw[h],fun h=>by rw[h];cases g9 ps.reverse ins a <;> rfl,fun a' s' h1 h2=>by rw[h1,h2]⟩)
  have HI':=ab hi';obtain ⟨W3,ec⟩:=ao (((w.alloc (.cells q.cells 89)).alloc (.cells #[.int .u8 qo,.string ⟨n.toArray⟩,.slice qa k0 qc,.slice qb m0 qe] 36)).alloc (.cells #[.int .u8 0,.string ⟨#[]⟩,.slice none 0 0,.slice none 0 0] 36));have aJ:=xW ec;have xp:=yN ec;have xt:=rW ec;have x1:=qd ec;have nE:=IX ec;rw[<-Eo];have bM:=aC aJ nE;have yi:=ab ec;have pp73a:=();exact pm73
 |clear pp159c;intro W0 f nx z aA Bm UM hqo qi sJ hfz hnz ok MV w q zq hT hq hz;obtain ⟨o,n,a,s⟩:=f;have wh:∀ t∈s,nodesF t<=100000/\lL t=true/\qone t=true/\depthF t<=kk:=fun t ht=>by
   simp only[lL,ae]at UM;have zeI:=hqo;simp only[qone,ae]at hqo;have h1:=l7 s t ht;have h2:=kF s t ht;simp only[nodesF]at Bm;simp only[depthF]at qi;exact ⟨by omega,(j_ s).1 UM.2 t ht,(iL s).1 hqo.2 t ht,by omega⟩
  have tF:bD o=true->a=[]/\∃g,s=[g]:=fun h=>mW h hqo;obtain ⟨HQs,HS4,fd,Ly⟩:=eR tF wh IH sJ;have Py:=aC hfz hnz;obtain ⟨HZ,Pz⟩:=aZ hz hT;have Zo:=aC aA hq;obtain ⟨zv,zn,za,zl,zc⟩:=zq;simp only[TQ.val]at HZ ⊢;have ih:=trivial;have pp22d:=();exact pm22
 |intro c L ok w vL q cK hL Ta Qg hq;obtain ⟨so,sn,sa,sl,sc,sb,sm,se⟩:=q;obtain ⟨v1,v2,h1,gI,lh⟩:=aW.1 hq;have pp32k:=();exact pm32):G:=h
theorem pm160(h:G:=by
 have HZ:=ab (Si wV (tG.o.2.1.trans bj) FO fL dV DJ uQ);have QJ:=aC rP qw;have HN8:=ab hl;clear wV bj FO fL dV DJ uQ rP qw gt ob hu XS;gi_wp2;refine RoundEnd.mk ?hT ?hr ?hm
 case hT=>kernel_rfl
 first
 |clear pp160
  case hr=>exact ⟨0+1,by omega,by kernel_rfl,HZ.o.1,HZ.o.2.1,HZ.o.2.2.1,HZ.o.2.2.2.1,kj,Nz,NA,HZ.o.2.2.2.2.1,by have:=QJ.o.1;have:=QC.o.2.1;have:=HN8.o;omega,by have:=QJ.o.2;have:=QC.o.2.2;have:=HN8.o;omega,HZ.o.2.2.2.2.2.1,fun h=>absurd h (by decide),fun _=>by have:=BO.o.1 (by simp);rw[this]at HZ;exact HZ.o.2.2.2.2.2.2,fun h=>absurd h (by decide)⟩
  case hm=>
   refine (show 2 - (intOf (Value.int IntKind.i64 (1:Int))).toNat<2 - (intOf (Value.int IntKind.i64 (0:Int))).toNat from ?_);simp[intOf]
 |case hr=>exact ⟨1+1,by omega,by kernel_rfl,HZ.o.1,HZ.o.2.1,HZ.o.2.2.1,HZ.o.2.2.2.1,kj,Nz,NA,HZ.o.2.2.2.2.1,by have:=QJ.o.1;have:=QC.o.2.1;have:=HN8.o;omega,by have:=QJ.o.2;have:=QC.o.2.2;have:=HN8.o;omega,HZ.o.2.2.2.2.2.1,fun h=>absurd h (by decide),fun h=>absurd h (by decide),fun _=>⟨k,BO.o.2.1 (by simp),HZ.o.2.2.2.2.2.2⟩⟩
  case hm=>
   refine (show 2 - (intOf (Value.int IntKind.i64 (2:Int))).toNat<2 - (intOf (Value.int IntKind.i64 (1:Int))).toNat from ?_);simp[intOf]):G:=h
theorem pm161(h:G:=by
 have On:(la=none/\l0=0/\lc=0)\/∃b off,la=some ⟨b,off,none⟩:=by
  rcases r' with ⟨h1,h2,h3⟩ | ⟨b,off,h1,_⟩
  ·exact .inl ⟨h2,by rw[vD,h1];rfl,h3⟩
  ·exact .inr ⟨b,off,h1⟩
 first
 |clear pp161;subst MM;have hold:((.slice la l0 l0:Value)=.slice none 0 0/\l0=0/\L.map encStr=[])\/∃b,(.slice la l0 l0:Value)=.slice (some b) l0 l0/\(L.map encStr).length=l0 * 1/\∀ j u,(L.map encStr)[j]?=some u->(wq.alloc (.cells #[.string ⟨n.toArray⟩] 9)).drew.cell? (b.add j)=some u:=by
   rcases r' with ⟨h1,h2,h3⟩ | ⟨b,off,h1,h4⟩
   ·refine .inl ⟨?_,by rw[vD,h1];rfl,by rw[h1];rfl⟩;rw[h2,vD,h1];rfl
   ·refine .inr ⟨⟨b,off,none⟩,by rw[h1],by rw[List.length_map,vD];omega,fun j u hu=>?_⟩;rw[List.getElem?_map]at hu
    by_cases hj:j<L.length
    ·rw[gy hj]at hu;rw[we];refine (aa (((ak wq.heap.size wq).alloc (aF _) _).drew) (h4 j hj)).trans ?_;rw[<-hu];rfl
    ·rw[List.getElem?_eq_none (by omega)]at hu;cases hu
  obtain ⟨Pq,HSh,HL0⟩:=cD hold On vD;obtain ⟨S,hS⟩:∃S:World->Prop,S=fun V=>Below wq.heap.size wq V:=⟨_,rfl⟩;have f0:∀ V,S V->V.cell? ⟨w.heap.size+1,1,none⟩=some (.string ⟨n.toArray⟩):=fun V h=>by rw[hS]at h;exact aa h (ah Wp.o 1)
  have dW:S wq.drew:=by rw[hS];exact (ak _ _).drew
  obtain ⟨du,zcz⟩:=aZ hS tY;clear hS hold On vD r' tY p9;go_wp2;refine (wpIn_wide (n:=3)).1 ?_;refine lV S 9 dW fun jO bW=>?_;refine bL 0 48 (.slice la l0 lc) rfl bW fun cF=>?_;simp only[ag];refine bL 1 49 (.slice la l0 lc) rfl cF fun fI=>?_;simp only[ag];refine bL 2 50 (.int .i64 (l0:Int)) rfl fI fun gO=>?_;simp only[ag];refine bL 3 51 (.slice la l0 lc) rfl gO fun iX=>?_;simp only[ag];refine bL 4 52 (.int .i64 (l0:Int)) rfl iX fun jQ=>?_;simp only[ag];refine dm 5 53 (.slice la l0 l0) rfl (fun V hX=>by rcases HSh.o with ⟨rfl,rfl,rfl⟩ | ⟨b,off,rfl⟩ <;> go_simp) jQ fun kf=>?_;simp only[ag];refine bL 6 54 (.pointer (some ⟨w.heap.size+1,1,none⟩)) rfl kf fun mK=>?_;simp only[ag];refine dm 7 55 (.string ⟨n.toArray⟩) rfl (fun V hX=>by have g0:=f0 V hX;go_simp) mK fun sg=>?_;simp only[ag];refine ce 8 rfl fun K hK=>?_;go_simp;have pQ:Below wq.heap.size wq (wq.alloc (.cells #[.string ⟨n.toArray⟩] 9)).drew:=((ak _ wq).alloc (aF _) _).drew;refine hK _ _ (fun _=>by rw[du.o];exact pQ) (fun _=>?_);clear hK K;refine ce 9 rfl fun K hK=>?_;refine iN (.tmp 53) (.tmp 56) 66 rfl 9 i0s (.string ByteArray.empty) 1 16 Tryz.underlying66 SE zcv zcw zcx rfl (by decide) (.slice la l0 l0) l0 (L.map encStr) rfl Pq.o ⟨wq.heap.size,0,none⟩ 1 1 [.string ⟨n.toArray⟩] rfl rfl (dj (cs:=#[.string ⟨n.toArray⟩]) (t:=9) (fr:=(0,0)) (fO wq _)) (by simp[Value.oneCell']) (by decide) (by unfold maxLen;omega) (by omega) ?_;intro g cap X5 au ap;have zI:Below wq.heap.size wq X5:=⟨ap.os.trans pQ.os,ap.tape.trans pQ.tape,ap.output.trans pQ.output,aQ pQ.size ap.size,fun b hb=>(ap.block b (bN hb pQ.size) (by simp)).trans (pQ.block b hb)⟩;have hmp:L.map encStr ++ [.string ⟨n.toArray⟩]=(L ++ [n]).map encStr:=by rw[List.map_append];rfl
  rw[hmp]at au;have rq:=StrsN.own au;have vE:(wq.alloc (.cells #[.string ⟨n.toArray⟩] 9)).drew.heap.size<=g/\g<X5.heap.size:=au.lt g rfl;have hzz:(wq.alloc (.cells #[.string ⟨n.toArray⟩] 9)).drew.heap.size=wq.heap.size+1:=by show (wq.alloc _).heap.size=_;simp
  have hgb:wq.heap.size<g/\g<X5.heap.size:=⟨by have:=vE.1;rw[hzz]at this;omega,vE.2⟩;have JG:=ab (And.intro rq (show ∀ b,(Value.slice (some ⟨g,0,none⟩) (l0+1) cap).ownBlock=some b->b≠w.heap.size+1+1+1/\b<X5.heap.size from fun b hb=>by
   obtain rfl:g=b:=by simpa[Value.ownBlock] using hb
   have:=Pk.o.1;have:=dO.o.2;exact ⟨by omega,hgb.2⟩))
  have Pm:=aC (GA.o.tr zI) (aQ Pk.o.1 zI.size);have Pn:=ab (bT zI zau.o);have Wq:=ab (bT zI Wp.o);have Po:=ab (bT zI zav.o);have Wr:=ab (bT zI zaw.o);have JF:=ab (UG.o.below zI);have zax:Hd (∀ y,(L ++ [n]).contains y=(n :: ins).contains y):=ab (fun y=>by
   have:=JE.o.1 y;rw[gA]at this ⊢;simp only[List.contains_iff_mem,List.mem_append,dw,List.not_mem_nil,or_false]at this ⊢;rw[this];exact or_comm)
  clear au ap pQ zI hmp rq vE hgb hzz;refine eS hK ?_;clear hK K;refine ce 10 rfl fun K hK=>?_;go_simp;refine eS hK ?_;clear hK K;refine le ?_;have tY:=zcz.o;have JH:=zD.o.2;rw[tY]at JH;have Pp:=aC zD.o.1 JH;clear zD JH;have Ws:=ab (Fills.start (R:=w.heap.size+1+1+1) (mk:=fun rr=>#[.int .u8 qo,.string ⟨n.toArray⟩,.slice fJ k1 fK,rr]) (Row:=fun r W=>RowF X5.heap.size r ([]:List Fm) W) Wr.o (RowF.nil _ _));have p3:X5.cell? ⟨w.heap.size+1,3,none⟩=some (.slice qb m0 qe):=ah Wq.o 3;clear tY;go_wp2;clear p3;go_loopw [61] (fun i wr=>∃k:Nat,k<=m0/\i=.int .i64 k/\∃row us,Fills 36 (w.heap.size+1+1+1) X5.heap.size (fun rr=>#[.int .u8 qo,.string ⟨n.toArray⟩,.slice fJ k1 fK,rr]) (fun r W=>RowF X5.heap.size r us W) X5 wr row/\jn ps.reverse (n :: ins) (s.take k)=some us/\us.length=k) (fun i _=>m0 - (intOf i).toNat)
  case atStart=>exact ⟨0,bc _,rfl,_,[],Ws.o,by simp[jn],rfl⟩
  case round=>
   exact pm219
 |have HSh:=ab On;have zdn:=ab (show ¬lc<l0 by rw[vD];omega);have HL0:=ab vD;have HG:=fA (hg.later rM.o) (aa rM.o c0) (aa rM.o c1) (aa rM.o c2) (aa rM.o c3);have HQq:=ab p9;clear hg c0 c1 c2 c3 r' On vD p9 x0 x1 x2;gi_wp2_with fail;obtain ⟨Φ,iZ⟩:∃Φ:Nat->Value->Bx->World->Prop,Φ=fun k=>(match k with
   | 0=>fun v _ _=>v=.pointer (some ⟨kb,0,none⟩)
   | 1=>fun v _ _=>v=.pointer (some ⟨w.heap.size,3,none⟩)
   | 2=>fun v _ _=>v=.slice (some ⟨b,off,none⟩) 1 se
   | 3=>fun v _ _=>v=.pointer (some ⟨b,off,none⟩)
   | 4=>fun v _ _=>v=.agg #[.int .u8 go,.string gn,.slice ga gl gc,.slice gb gm ge]
   | 5=>fun v _ _=>v=.slice la l0 lc
   | 6=>fun v _ _=>v=.slice la l0 lc
   | 7=>fun v _ _=>v=.int .i64 (l0:Int)
   | 8=>fun v _ _=>v=.slice la l0 lc
   | 9=>fun v _ _=>v=.int .i64 (l0:Int)
   | 10=>fun v _ _=>v=.slice la l0 l0
   | 11=>fun v _ _=>v=.pointer (some ⟨w.heap.size,1,none⟩)
   | 12=>fun v _ _=>v=.string ⟨n.toArray⟩
   | 13=>RowG (W1.heap.size<=·) #[.string ⟨n.toArray⟩] 9 1
   | 14=>NamesG (L ++ [n])
   | 15=>FormG (W1.heap.size<=·) (cH kd (n :: c) g)
   | 16=>BoxG #[.int .u8 0,.string ⟨#[]⟩,.slice none 0 0,.slice none 0 0] 36
   | 17=>fun _ γ w=>SetG (fun cs γ w=>∃q:FQ,cs=#[.int .u8 q.o,.string q.n,.slice q.a q.l q.c,.slice q.b q.m q.e]/\FormV (okB (W1.heap.size<=·) γ w) w q.val (cH kd (n :: c) g)) 36 γ w
   | _=>fun _ _ _=>True):=⟨_,rfl⟩
  have cV:∀ k v γ w dY w',Gr γ w dY w'->Φ k v γ w->Φ k v dY w':=by
   intro k v γ wz dY wz' hG;rw[iZ]
   match k with
   | 0=>exact id
   | 1=>exact id
   | 2=>exact id
   | 3=>exact id
   | 4=>exact id
   | 5=>exact id
   | 6=>exact id
   | 7=>exact id
   | 8=>exact id
   | 9=>exact id
   | 10=>exact id
   | 11=>exact id
   | 12=>exact id
   | 13=>exact RowG.step hG
   | 14=>exact NamesG.step hG
   | 15=>exact FormG.step hG
   | 16=>exact BoxG.step hG
   | 17=>exact SetG.step (fun cs ⟨q,e,h⟩=>⟨q,e,h.move hG.holds⟩) hG
   | k+18=>exact id
  refine lj Φ (PsB 16 17) (IG (fun _=>False) jg.drew) Gr (none,false) (by kernel_rfl) rfl (by kernel_rfl) ⟨Kp.refl _,(fun _ h=>by cases h),fun _ h=>h.elim⟩ (fun k _=>⟨fun _=>rfl,fun _=>rfl⟩) (fun _ _ _ _ hG h=>h.step hG) cV ?steps ?fin
  case steps=>
   intro k hk
   match k,hk with
   | 0,_=>
    refine dx rfl rfl jH rfl (fun a γ wz aO=>⟨rfl,.pointer (some ⟨kb,0,none⟩),γ,wz,?_,Gr.refl,fun _ _ h=>h,?_⟩)
    ·have e0:a.tmps.getD 0 undef=.pointer (some ⟨kb,0,none⟩):=aG ((aO.ou 0 rfl).trans rfl);go_simp
    ·rw[iZ];exact rfl
   | 1,_=>
    refine dx rfl rfl jH rfl (fun a γ wz aO=>⟨rfl,.pointer (some ⟨w.heap.size,3,none⟩),γ,wz,?_,Gr.refl,fun _ _ h=>h,?_⟩)
    ·have e4:a.tmps.getD 4 undef=.pointer (some ⟨w.heap.size,0,none⟩):=aG ((aO.ou 4 rfl).trans rfl);go_simp
    ·rw[iZ];exact rfl
   | 2,_=>
    refine dx rfl rfl jH rfl (fun a γ wz aO=>⟨rfl,.slice (some ⟨b,off,none⟩) 1 se,γ,wz,?_,Gr.refl,fun _ _ h=>h,?_⟩)
    ·obtain ⟨v83,t83,f83⟩:=aO.val 1 _ 83 rfl rfl (by kernel_rfl);rw[iZ]at f83;obtain rfl:=f83;have e83:=aG t83;have c:=aO.inv.1.cell (fun h=>h) (show jg.drew.cell? ⟨w.heap.size,3,none⟩=_ from ah SM.o 3);go_simp
    ·rw[iZ];exact rfl
   | 3,_=>
    refine dx rfl rfl jH rfl (fun a γ wz aO=>⟨rfl,.pointer (some ⟨b,off,none⟩),γ,wz,?_,Gr.refl,fun _ _ h=>h,?_⟩)
    ·obtain ⟨v84,t84,f84⟩:=aO.val 2 _ 84 rfl rfl (by kernel_rfl);rw[iZ]at f84;obtain rfl:=f84;have e84:=aG t84;go_simp
    ·rw[iZ];exact rfl
   | 4,_=>
    refine dx rfl rfl jH rfl (fun a γ wz aO=>⟨rfl,.agg #[.int .u8 go,.string gn,.slice ga gl gc,.slice gb gm ge],γ,wz,?_,Gr.refl,fun _ _ h=>h,?_⟩)
    ·obtain ⟨v85,t85,f85⟩:=aO.val 3 _ 85 rfl rfl (by kernel_rfl);rw[iZ]at f85;obtain rfl:=f85;have e85:=aG t85;have c0:=aO.inv.1.cell (fun h=>h) (show jg.drew.cell? _=_ from HG.o.2.1);have c1:=aO.inv.1.cell (fun h=>h) (show jg.drew.cell? _=_ from HG.o.2.2.1);have c2:=aO.inv.1.cell (fun h=>h) (show jg.drew.cell? _=_ from HG.o.2.2.2.1);have c3:=aO.inv.1.cell (fun h=>h) (show jg.drew.cell? _=_ from HG.o.2.2.2.2);go_simp
    ·rw[iZ];exact rfl
   | 5,_=>
    exact pm95
   | 6,_=>
    exact pm95
   | 7,_=>
    refine dx rfl rfl jH rfl (fun a γ wz aO=>⟨rfl,.int .i64 (l0:Int),γ,wz,?_,Gr.refl,fun _ _ h=>h,?_⟩)
    ·obtain ⟨v88,t88,f88⟩:=aO.val 6 _ 88 rfl rfl (by kernel_rfl);rw[iZ]at f88;obtain rfl:=f88;have e88:=aG t88;go_simp
    ·rw[iZ];exact rfl
   | 8,_=>
    exact pm95
   | 9,_=>
    refine dx rfl rfl jH rfl (fun a γ wz aO=>⟨rfl,.int .i64 (l0:Int),γ,wz,?_,Gr.refl,fun _ _ h=>h,?_⟩)
    ·obtain ⟨v90,t90,f90⟩:=aO.val 8 _ 90 rfl rfl (by kernel_rfl);rw[iZ]at f90;obtain rfl:=f90;have e90:=aG t90;go_simp
    ·rw[iZ];exact rfl
   | 10,_=>
    refine dx rfl rfl jH rfl (fun a γ wz aO=>⟨rfl,.slice la l0 l0,γ,wz,?_,Gr.refl,fun _ _ h=>h,?_⟩)
    ·obtain ⟨v87,t87,f87⟩:=aO.val 5 _ 87 rfl rfl (by kernel_rfl);rw[iZ]at f87;obtain rfl:=f87;have e87:=aG t87;obtain ⟨v89,t89,f89⟩:=aO.val 7 _ 89 rfl rfl (by kernel_rfl);rw[iZ]at f89;obtain rfl:=f89;have e89:=aG t89;obtain ⟨v91,t91,f91⟩:=aO.val 9 _ 91 rfl rfl (by kernel_rfl);rw[iZ]at f91;obtain rfl:=f91;have e91:=aG t91;have Jt:=zdn.o;rcases HSh.o with ⟨rfl,rfl,rfl⟩ | ⟨b,off,rfl⟩ <;> go_simp
    ·rw[iZ];exact rfl
   | 11,_=>
    refine dx rfl rfl jH rfl (fun a γ wz aO=>⟨rfl,.pointer (some ⟨w.heap.size,1,none⟩),γ,wz,?_,Gr.refl,fun _ _ h=>h,?_⟩)
    ·have e4:a.tmps.getD 4 undef=.pointer (some ⟨w.heap.size,0,none⟩):=aG ((aO.ou 4 rfl).trans rfl);go_simp
    ·rw[iZ];exact rfl
   | 12,_=>
    refine dx rfl rfl jH rfl (fun a γ wz aO=>⟨rfl,.string ⟨n.toArray⟩,γ,wz,?_,Gr.refl,fun _ _ h=>h,?_⟩)
    ·obtain ⟨v93,t93,f93⟩:=aO.val 11 _ 93 rfl rfl (by kernel_rfl);rw[iZ]at f93;obtain rfl:=f93;have e93:=aG t93;have c:=aO.inv.1.cell (fun h=>h) (show jg.drew.cell? ⟨w.heap.size,1,none⟩=_ from ah SM.o 1);go_simp
    ·rw[iZ];exact rfl
   | 13,_=>
    refine dx rfl rfl jH rfl (fun a γ wz aO=>⟨rfl,.slice (some ⟨wz.heap.size,0,none⟩) 1 1,γ,wz.alloc (.cells #[.string ⟨n.toArray⟩] 9),?_,Gr.keep cQ,fun _ _ h=>h,?_⟩)
    ·obtain ⟨v94,t94,f94⟩:=aO.val 12 _ 94 rfl rfl (by kernel_rfl);rw[iZ]at f94;obtain rfl:=f94;have e94:=aG t94;go_simp
    ·rw[iZ];exact RowG.new aO.inv (fun b hb=>aQ (aQ yb.o aO.inv.1.size) hb) _ _ _
   | 14,_=>
    refine dx rfl rfl jH rfl (fun a γ wz aO=>?_);obtain ⟨v92,t92,f92⟩:=aO.val 10 _ 92 rfl rfl (by kernel_rfl);rw[iZ]at f92;obtain rfl:=f92;have e92:=aG t92;obtain ⟨v95,t95,f95⟩:=aO.val 13 _ 95 rfl rfl (by kernel_rfl);rw[iZ]at f95;obtain ⟨rb,rfl,hrb,hrc⟩:=f95;have e95:=aG t95;obtain ⟨v',w',hr,Es,Tt,hlo⟩:=wJ wz n rb hrc la l0 lc L HL0.o (by have:=HL.o.2.1;omega) (HL.o.1.later (rM.o.tr ((ak _ _).drew.tr aO.inv.1.empty))) 66;refine ⟨rfl,v',γ,w',?_,Gr.keep Tt,fun _ _ h=>h,?_⟩
    ·simp[execOp,resolve,invoke,builtin,Act.eval,e92,e95,hr,Result.andThen]
    ·rw[iZ];exact ⟨Es,fun b hb=>(okB.new (L:=fun _=>True) aO.inv (fun _ _=>trivial) b (hlo b hb).1 (hlo b hb).2).1⟩
   | 15,_=>
    refine CZ rfl rfl jH rfl rfl (fun a γ wz aO=>?_);obtain ⟨v82,t82,f82⟩:=aO.val 0 _ 82 rfl rfl (by kernel_rfl);rw[iZ]at f82;obtain rfl:=f82;have e82:=aG t82;obtain ⟨v86,t86,f86⟩:=aO.val 4 _ 86 rfl rfl (by kernel_rfl);rw[iZ]at f86;obtain rfl:=f86;have e86:=aG t86;obtain ⟨v96,t96,f96⟩:=aO.val 14 _ 96 rfl rfl (by kernel_rfl);rw[iZ]at f96;have e96:=aG t96;have TM:=(ak jg.heap.size jg).drew.tr aO.inv.1.empty;refine ⟨rfl,72,#[.pointer (some ⟨kb,0,none⟩),.agg #[.int .u8 go,.string gn,.slice ga gl gc,.slice gb gm ge],v96],?_,?_⟩
    ·go_simp
    ·refine aL.2 ((fd.o g (by simp) (n :: c) (L ++ [n]) _ wz v96 ⟨go,gn,ga,gl,gc,gb,gm,ge⟩ (HL.o.2.2.2.tr (rM.o.tr TM)) f96.1 (by have:=HL.o.2.1;simp only[di,fF,List.length_nil];simp only[nodesF,nodesFs]at this;omega) (fun y=>by
      have:=HL.o.2.2.1 y;rw[List.contains_cons,<-this,gA];simp only[List.contains_iff_mem,List.mem_append,dw,List.not_mem_nil,or_false,Bool.or_eq_true,fY];exact Or.comm) (HG.o.1.later TM)).mono ?_)
     rintro e w' ⟨⟨q,rfl,hq⟩,Uv⟩;exact ⟨q.val,rfl,γ,Gr.keep Uv,fun _ _ h=>h,by rw[iZ];exact FormG.new aO.inv (fun b hb=>aQ (aQ yb.o aO.inv.1.size) hb) hq⟩
   | 16,_=>
    refine dx rfl rfl jH rfl (fun a γ wz aO=>⟨rfl,.pointer (some ⟨wz.heap.size,0,none⟩),(some wz.heap.size,false),wz.alloc (.cells #[.int .u8 0,.string ⟨#[]⟩,.slice none 0 0,.slice none 0 0] 36),?_,uj _ (aO.psi.1 rfl),rv,?_⟩)
    ·go_simp
    ·rw[iZ];exact uk
   | 17,_=>
    refine jE rfl jH rfl (fun a γ wz aO=>?_);obtain ⟨v97,t97,f97⟩:=aO.val 15 _ 97 rfl rfl (by kernel_rfl);rw[iZ]at f97;obtain ⟨q,rfl,hq⟩:=f97;have e97:=aG t97;obtain ⟨v13,JN,f13⟩:=aO.val 16 _ 13 rfl rfl (by kernel_rfl);rw[iZ]at f13;obtain ⟨bb,rfl,hb1,bF,aJ⟩:=f13;have e13:=aG JN;obtain ⟨LY,Kr⟩:=γ;obtain rfl:Kr=false:=aO.psi.2 rfl;simp only at hb1;subst hb1;have x:=aJ rfl;obtain ⟨c0,c1,c2,c3,z0,z1,z2,z3⟩:=dh x;have k6:=dI (W:=wz) (b:=bb) (v0:=.int .u8 q.o) (v1:=.string q.n) (v2:=.slice q.a q.l q.c) (v3:=.slice q.b q.m q.e);have x6:=lm (v0:=.int .u8 q.o) (v1:=.string q.n) (v2:=.slice q.a q.l q.c) (v3:=.slice q.b q.m q.e) x;refine ⟨rfl,(some bb,true),_,?_,fM k6,kX,?_⟩
    ·simp only[FQ.val]at e97;go_simp
    ·rw[iZ];exact ⟨bb,_,rfl,x6,q,rfl,hq.move (fM k6).holds⟩
   | k+18,hk=>exact absurd hk (by simp)
  case fin=>
   intro a γ wz h;obtain ⟨v82,t82,f82⟩:=h.get 0 _ 82 rfl rfl;rw[iZ]at f82;obtain rfl:=f82;obtain ⟨v83,t83,f83⟩:=h.get 1 _ 83 rfl rfl;rw[iZ]at f83;obtain rfl:=f83;obtain ⟨v84,t84,f84⟩:=h.get 2 _ 84 rfl rfl;rw[iZ]at f84;obtain rfl:=f84;obtain ⟨v85,t85,f85⟩:=h.get 3 _ 85 rfl rfl;rw[iZ]at f85;obtain rfl:=f85;obtain ⟨v86,t86,f86⟩:=h.get 4 _ 86 rfl rfl;rw[iZ]at f86;obtain rfl:=f86;obtain ⟨v87,t87,f87⟩:=h.get 5 _ 87 rfl rfl;rw[iZ]at f87;obtain rfl:=f87;obtain ⟨v88,t88,f88⟩:=h.get 6 _ 88 rfl rfl;rw[iZ]at f88;obtain rfl:=f88;obtain ⟨v89,t89,f89⟩:=h.get 7 _ 89 rfl rfl;rw[iZ]at f89;obtain rfl:=f89;obtain ⟨v90,t90,f90⟩:=h.get 8 _ 90 rfl rfl;rw[iZ]at f90;obtain rfl:=f90;obtain ⟨v91,t91,f91⟩:=h.get 9 _ 91 rfl rfl;rw[iZ]at f91;obtain rfl:=f91;obtain ⟨v92,t92,f92⟩:=h.get 10 _ 92 rfl rfl;rw[iZ]at f92;obtain rfl:=f92;obtain ⟨v93,t93,f93⟩:=h.get 11 _ 93 rfl rfl;rw[iZ]at f93;obtain rfl:=f93;obtain ⟨v94,t94,f94⟩:=h.get 12 _ 94 rfl rfl;rw[iZ]at f94;obtain rfl:=f94;obtain ⟨v95,t95,f95⟩:=h.get 13 _ 95 rfl rfl;rw[iZ]at f95;obtain ⟨v96,t96,f96⟩:=h.get 14 _ 96 rfl rfl;rw[iZ]at f96;obtain ⟨v97,t97,f97⟩:=h.get 15 _ 97 rfl rfl;rw[iZ]at f97;obtain ⟨v13,JN,f13⟩:=h.get 16 _ 13 rfl rfl;rw[iZ]at f13;have fs:=h.did 17 _ rfl rfl;rw[iZ]at fs;obtain ⟨bb,cs,hγ,xh,q,rfl,hq⟩:=fs;obtain ⟨b2,rfl,hb1,_,_⟩:=f13;rw[hγ]at hb1;cases hb1;subst hγ;have ha:=h.act [(82,_),(83,_),(84,_),(85,_),(86,_),(87,_),(88,_),(89,_),(90,_),(91,_),(92,_),(93,_),(94,_),(95,_),(96,_),(97,_),(13,_)] rfl (by simp only[dw,List.not_mem_nil,or_false,forall_eq_or_imp,forall_eq];exact ⟨t82,t83,t84,t85,t86,t87,t88,t89,t90,t91,t92,t93,t94,t95,t96,t97,JN⟩);rw[ha];have zbg:=h.inv.1.empty;have h0b:=h.inv.2.1;clear ha h cV t82 t83 t84 t85 t86 t87 t88 t89 t90 t91 t92 t93 t94 t95 t96 t97 JN;simp only[List.foldl_cons,List.foldl_nil,List.setIfInBounds_toArray,List.set_cons_zero,List.set_cons_succ];obtain ⟨G,TN⟩:=ao (cH kd (n :: c) g);have hgk:=(mx DK.o.1 DK.o.2 HP.o.2.2.1).2;have Qx:qT kd [g]<=1000:=by have:=HP.o.2.2.2.1;unfold uN at this;omega
   have MC:cG true [g]=true:=by have:=HP.o.1;simp only[okF,ae]at this;exact this.2.2.2.2
   have hbd:=mY HP.o.2.2.2.2.1 HP.o.2.2.2.2.2 [g] (n :: c) MC hgk Qx;have UM:=qS HP.o.2.2.2.2.1 [g] (n :: c) MC hgk;simp only[eu,nodesFs,nmFs,Bool.and_true,gG,ep,<-TN]at hbd UM;rw[<-TN]at hq;have zbh:RS=na so n [] G:=by rw[UN.o,TK DK.o.1 DK.o.2 HQq.o,<-TN]
   have TM:Below jg.heap.size jg wz:=(ak _ _).drew.tr zbg;have hGn:nodesF G<=1000:=by omega
   have x0:=bT TM SM.o;have x1:=bT TM MB.o;have x2:=bT TM zdm.o;have cK:jg.heap.size<=bb:=(h0b bb rfl).1.resolve_right (fun h=>h);have CF2:=ut G ⟨by omega,hbd.2⟩ (by omega) _ wz q hq;have nH:=cC hGn hbd.2 UM.1 UM.2;have Zo:=ab (hq.move (ok':=(W1.heap.size<=·)) (fun b hb _=>⟨hb.1,rfl⟩));have Oq:=cC x0 x1 x2 xh;have Pm:=bE (rM.o.tr TM) cK (aQ yb.o TM.size);have HRq:=ab zbh;simp only[FQ.val]at CF2;have FL:=ab CF2;obtain ⟨e0,e1,e2,e3,_,_,_,_⟩:=dh xh;clear hgk Qx MC hbd UM hq zbh TM hGn x0 x1 x2 cK xh CF2 zbg h0b TN fd;gi_wp2_with fail;refine aL.2 (FL.o.mono ?_);rintro e wf ⟨⟨vf,rfl,hvf⟩,tD⟩;clear e0 e1 e2 e3;have Ul:=eO (a_ [] G);have ug:=gH G [];have CT:=fk (cm (a_ [] G)) (by have:=nH.o.1;omega) n _ wf vf hvf.strs;rw[lN]at CT;have x0:=bT tD Oq.o.1;have x1:=bT tD Oq.o.2.1;have x2:=bT tD Oq.o.2.2.1;have x3:=bT tD Oq.o.2.2.2;have n1:=ah x0 1;have Gz:=ab CT;have HXf:=cC x0 x1 x2 x3;have HBf:=bE (Pm.o.1.tr tD) (aQ Pm.o.2.2 tD.size) (Zo.o.later tD);have R3:=bE hvf Ul ug;clear CT x0 x1 x2 x3 tD hvf Ul ug;gi_wp2_with fail;refine aL.2 (Gz.o.mono ?_);rintro e wt ⟨rfl,rfl⟩
   cases xg:(a_ [] G).contains n with
   | false=>
    have HRm:=ab (show RS=.mk so n [] [iD (cM n) (am n) G] by rw[HRq.o];unfold na;rw[xg];rfl);have HM:=ab (show n.length<=2000000 by have:=R7.o.2.1;omega);obtain ⟨wq,LD⟩:=ao wt;subst LD;obtain ⟨Hr,GA⟩:=aZ HXf.o HBf.o;clear xg n1;gi_wp2_with fail;have pp88:=();exact pm88
   | true=>
    obtain ⟨m,hm⟩:=ao (dN (a_ [] G));have HRm:=ab (show RS=.mk so m [] [iD (cM n) (am m) G] by rw[HRq.o,hm];unfold na;rw[xg];rfl);have HM:=ab (show m.length<=2000000 by rw[hm];exact oT (by have:=R3.o.2.2;have:=nH.o.1;omega));have WJ:=De WB wt (Pz.o.next HBf.o.1) (cm (a_ [] G)) (by have:=R3.o.2;have:=nH.o.1;omega) (fun x hx=>oV G [] nH.o.2.1 x ((dL x _).1 hx)) _ vf R3.o.1.strs;rw[show dN (cm (a_ [] G))=m from (Dd (by have:=R3.o.2;have:=nH.o.1;omega) (by have:=R3.o.2;have:=nH.o.1;omega) (fun x=>dL x _)).trans hm.symm]at WJ;have WK:=ab WJ;clear xg n1 hm WJ;gi_wp2_with fail;refine aL.2 (WK.o.mono ?_);rintro e w8 ⟨rfl,gS⟩;have x0:=bT gS HXf.o.1;have x1:=bT gS HXf.o.2.1;have x2:=bT gS HXf.o.2.2.1;have x3:=bT gS HXf.o.2.2.2;have r1:=ah x2 1;have rz:=ac x2 1;obtain ⟨wq,LD⟩:=ao (w8.setCell ⟨w.heap.size+1+1,1,none⟩ (.string ⟨m.toArray⟩));have kq:Kp (fun b=>b=w.heap.size+1+1) w8 wq:=by rw[LD];exact ⟨rfl,rfl,rfl,by simp,fun c _ hc=>d9 _ _ _ _ (by simpa using hc)⟩
    have x2q:wq.heap[w.heap.size+1+1]?=some (.cells #[.int .u8 so,.string ⟨m.toArray⟩,.slice fJ 0 fK,.slice none 0 0] 36 (0,0)):=by rw[LD];exact (bm (F:=1) x2 (.string ⟨m.toArray⟩)).trans rfl
    have SG:=x_.o;have zds:=Pm.o.2.1;have Hr:=cC ((kq.same _ (bn x0) (by omega)).trans x0) ((kq.same _ (bn x1) (by omega)).trans x1) x2q ((kq.same _ (bn x3) (by have:=yb.o;omega)).trans x3);have GA:=bE (Below.kp1 (HBf.o.1.tr gS) kq (by omega)) (aQ HBf.o.2.1 (aQ gS.size kq.size)) ((HBf.o.2.2.later gS).move (fun b hb hlt=>⟨hb,kq.same b hlt (by have h:W1.heap.size<=b:=hb;omega)⟩));have Hwq:=ab LD;clear x0 x1 x2 x3 kq x2q gS SG zds LD;gi_wp2_with fail
    try rw[<-Hwq.o]
    exact pm88):G:=h
theorem pm162(h:G:=by
 go_wp2;go_loopw [5] (fun i wr=>∃k:Nat,k<=k0/\i=.int .i64 k/\Below w.heap.size w wr/\l.take k=m.take k) (fun i _=>k0 - (intOf i).toNat)
 case atStart=>exact ⟨0,bc _,rfl,ak _ _,by simp⟩
 first
 |clear pp162
  case round=>
   have pp288d:=();exact pm288
 |case round=>
   exact pm288):G:=h
theorem pm163(h:G:=by
 rintro X Y hn ⟨k',xx,uC,h1,h2,h3,h4,h5,h6,h7,h8⟩;have:=ix.o;have:=lx.o.1;have:=lx.o.2.1;exact ⟨k',xx,uC,h1,h2.nw hn (by omega) (by omega),h3,h4,h5,hn.cells h6,hn.cells h7,nu h8 hn⟩):G:=h
theorem pm164(h:G:=by
 have hz:=R1.o;exact ⟨hk.os.trans dO.o.os,hk.tape.trans dO.o.tape,hk.output.trans dO.o.output,aQ dO.o.size hk.size,fun b hb=>(hk.same b (by omega) (by omega)).trans (dO.o.block b hb)⟩):G:=h
theorem pm165(h:G:=by
 rw[show (j+1) * 4=j * 4+1+1+1+1 by omega,show j * 4+1+1+1+1+1=(j * 4+1)+1+1+1+1 by omega,show j * 4+1+1+1+1+2=(j * 4+2)+1+1+1+1 by omega,show j * 4+1+1+1+1+3=(j * 4+3)+1+1+1+1 by omega]
 first
 |clear pp165;simpa using this
 |simpa[BT,TQ.cells] using this):G:=h
theorem pm166(h:G:=by
 intro t
 induction t using Tm.ind with
 | h v n a ih=>
 first
 |clear pp166a;intro aA ok w tq hsc cV hq;obtain ⟨qv,qn,qa,ql,qc⟩:=tq;obtain ⟨s,hs,bO⟩:=aV.1 hq;have pp38f:=();exact pm38
 |clear pp166b;intro ky dK im Zw W nF nT k tq uq dV qw iF pT huv;obtain ⟨v',n',a'⟩:=im;obtain ⟨s1,h1,gI⟩:=aV.1 pT;obtain ⟨s2,h2,EA⟩:=aV.1 huv;obtain ⟨tv,tn,ta,tl,tc⟩:=tq;obtain ⟨uv,un,ua,ul,uc⟩:=uq;have pp76d:=();exact pm76
 |clear pp166c;intro ky ok w q hb hq;have pp75a:=();exact pm75
 |clear pp166d;intro hn;simp only[jN,ae,bw]at hn;unfold nP;simp only[nodesT];split
  ·have:=hk n hn.1;omega
  ·have h2:dQ k a<=nodesTs a * 1000:=by
    have lq:=e_.1 hn.2;clear hn
    induction a with
    | nil=>simp[dQ]
    | cons u a Xh=>
     have h1:=ih u (ij ..) (lq u (ij ..));have h3:=Xh (fun t ht=>ih t (iU _ ht)) (fun t ht=>lq t (iU _ ht));simp only[dQ,nodesTs];omega
   omega
 |clear pp166e;intro ky ok w q hb hq;have pp75b:=();exact pm75
 |clear pp166f;intro hn;simp only[jN,ae,bw]at hn;unfold jx;simp only[nodesT];split
  ·have h1:=hk n hn.1;have h2:=mo (termOf k n);have h3:=eO (aN (termOf k n));have h4:=List.length_filter_le dZ (cm (aN (termOf k n)));omega
  ·have h2:(dE k a).length<=nodesTs a * 1000:=by
    have lq:=e_.1 hn.2;clear hn
    induction a with
    | nil=>simp[dE]
    | cons u a Xh=>
     have h1:=ih u (ij ..) (lq u (ij ..));have h3:=Xh (fun t ht=>ih t (iU _ ht)) (fun t ht=>lq t (iU _ ht));simp only[dE,nodesTs,di];omega
   omega
 |clear pp166g;intro ky JL ok w q hb hq;simp only[nodesT]at JL;exact pm75
 |intro h;unfold nN
  by_cases hv:(v && n == x)=true
  ·rw[aX hv];rfl
  ·rw[aD hv];simp only[D3,hv,bZ,↓reduceIte,Nat.zero_add]at h;clear hv;generalize 0=i
   induction a generalizing i with
   | nil=>simp[fG]at h
   | cons u a Xh=>
    simp only[fG]at h;unfold eC
    cases hp:nN x u with
    | some p=>rfl
    | none=>
     simp only;refine Xh (fun t ht=>ih t (iU _ ht)) ?_ _;intro h0;have:=ih u (ij ..) (by omega);rw[hp]at this;cases this):G:=h
theorem pm167(h:G:=by
 exact pm277):G:=h
theorem pm168(h:G:=by
 obtain ⟨hl,h | ⟨g',cap,cur,hv,_,hg,hn,_,_,hx⟩⟩:=h
 ·obtain ⟨h,_⟩:=h;injection h with h;cases h
 first
 |clear pp168a
  ·have ks:n=l.length:=by simp[sS]at hl;omega
   have pp213:=();exact pm213
 |clear pp168b
  ·have ks:n=ps.length:=by rw[iM]at hl;omega
   exact pm213
 |·injection hv with _ _ hc;omega):G:=h
theorem pm169(h:G:=by
 simp only[gG,ep,Bool.and_true,aT]at hw hq1 hd;rw[mt hq]
 by_cases h1:(n == x || !(a_ [] g).contains x)=true
 first
 |clear pp169a
  ·rw[aX h1];exact ⟨lH,oy,rfl,rfl⟩
  ·rw[aD h1]
   by_cases h2:(aN (am y)).contains n=true
   ·rw[aX h2];generalize dN (a_ [] g ++ aN (am y))=m;have pp229c:=();exact pm229
   ·rw[aD h2];obtain ⟨b1,b2,b3,b4⟩:=gR k g x y hw.2 hq1.2 (by omega);simp only[lL,gG,qone,ep,depthF,aT,nodesF,nodesFs,dF,List.map_nil,fR,b1,b2,b3,b4,hq];simp
 |clear pp169b
  ·rw[aX h1];exact Nat.le_mul_of_pos_right _ hu
  ·rw[aD h1]
   by_cases h2:(aN u).contains n=true
   ·rw[aX h2];generalize dN (a_ [] g ++ aN u)=m;have pp229d:=();exact pm229
   ·rw[aD h2];have b1:=uE k g x u hw.2 hq1.2 (by omega);simp only[nodesF,nodesFs,dF,List.map_nil,nodesTs,Nat.add_mul];omega
 |·rw[aX h1];exact ⟨lH,oy⟩
  ·rw[aD h1]
   by_cases h2:(aN u).contains n=true
   ·rw[aX h2];generalize dN (a_ [] g ++ aN u)=m;exact pm229
   ·rw[aD h2];obtain ⟨b1,b2⟩:=uL hu k g x hw.2 hq1.2 (by omega);simp[lL,gG,qone,ep,dF,fR,b1,b2]):G:=h
theorem pm170(h:G:=by
 go_enter Tryz.func246,Tryz.ntmps246
 first
 |clear pp170a;go_wp2_with (go_at_call 244;refine HC.o.mono ?_;rintro e w4 ⟨⟨rfl,_⟩ | ⟨k,x,hk,_⟩,aP⟩;rotate_left;(exact absurd hk (by simp));have H4:=ab aP;clear aP);go_ret;exact ⟨⟨_,rfl,OwnS.nil _ _⟩,Kp.below H4.o⟩
 |clear pp170b;go_wp2_with (go_at_call 244;refine HC.o.mono ?_;rintro e w4 ⟨rfl,aP⟩;have H4:=ab aP;clear aP);go_ret;exact ⟨⟨_,rfl,by rw[HE.o];exact HR.o.later H4.o⟩,Kp.below H4.o⟩
 |go_upto_region 2 with (go_at_call 244;refine HC.o.mono ?_;rintro e w4 ⟨⟨k,x,hk,rfl,hkx,fZ⟩,aP⟩;have dV:k<n:=(by rw[HN.o];exact (List.getElem?_eq_some_iff.1 hk).1);have H4:=cC aP hk hkx fZ;have Sv:((k:Int) == -1)=false:=beq_eq_false_iff_ne.2 (by omega);have IP:IntKind.i64.wrap ((k:Int)+1)=((k+1:Nat):Int):=(by rw[ik _ (by omega)];simp);clear aP hkx fZ hk);have cV:=(((DelR.start (keep:=fun x=>!pr x) HB.o.1 HB.o.2.1 HB.o.2.2 (by rw[<-HN.o];exact dV) (fun x hx=>by rw[H4.o.2.2.2 x hx];rfl)).drop (by rw[<-HN.o];exact dV) (by
   obtain ⟨br,he⟩:=List.getElem?_eq_some_iff.1 H4.o.2.1;rw[he,H4.o.2.2.1];rfl)).later H4.o.1)
  have Zu:=ab cV;clear cV;go_wp2;clear Sv IP;go_loopw [5,6,7] (fun s5 s6 _ wr=>∃i j:Nat,s5=.int .i64 i/\s6=.int .i64 j/\i<j/\j<=n/\DelR (fun x=>!pr x) l b cap i j wr/\Kp (fun c=>lo<=c/\some b=some c) w wr) (fun _ s6 _ _=>n - (intOf s6).toNat)
  case atStart=>exact ⟨k,k+1,rfl,by go_num,by omega,by omega,Zu.o,Kp.below H4.o.1⟩
  case round=>
   obtain ⟨i,j,rfl,rfl,Zd,Zs,hD,hK⟩:=hrel
   by_cases hlt:j<n
   ·have lC:=ct HN.o hlt;have CB:=HP.o l[j] wr (az lC) hK;have Va:=fun W h=>DelR.keep (W:=W) (keep:=fun x=>!pr x) (l:=l) (b:=b) (cap:=cap) (i:=i) h lC (by rw[<-HN.o];exact hc) (by omega);have Vb:=fun W=>DelR.drop (W:=W) (keep:=fun x=>!pr x) (l:=l) (b:=b) (cap:=cap) (i:=i) (j:=j);obtain ⟨cu,g1,g2,g3,g4,g5⟩:=hD;have cj:wr.cell? ⟨b,j,none⟩=some (.string ⟨l[j].toArray⟩):=(aH g1 j).trans (g5 j lC (aF _));have HD:=ab (show DelR (fun x=>!pr x) l b cap i j wr from ⟨cu,g1,g2,g3,g4,g5⟩);have hlz:(j:Int)<(n:Int):=by omega
    have hwj:IntKind.i64.wrap ((j:Int)+1)=((j+1:Nat):Int):=(by rw[ik _ (by omega)];simp);have hwi:IntKind.i64.wrap ((i:Int)+1)=((i+1:Nat):Int):=(by rw[ik _ (by omega)];simp);have HK:=ab hK;have HKD:=aC Va Vb;obtain ⟨u,hu⟩:=ao (l[j]);rw[<-hu]at CB cj;have HU:=ab hu;clear Va Vb g1 g2 g3 g4 g5 hK hu
    cases hq:pr u with
    | true=>
     rw[hq]at CB;obtain ⟨BK,HQ⟩:=aZ CB hq;clear CB hq;go_wp2_with (go_at_fn g;refine BK.o.mono ?_;rintro e w5 ⟨rfl,bi⟩;have H5:=ab bi;clear bi);go_roundw
     case rel=>exact ⟨i,j+1,rfl,by go_num,by omega,by omega,(HKD.o.2 wr HD.o lC (by rw[<-HU.o,HQ.o];rfl)).later H5.o,HK.o.trans (Kp.below H5.o)⟩
     case measure=>simp[intOf];omega
    | false=>
     rw[hq]at CB;obtain ⟨BK,HQ⟩:=aZ CB hq;clear CB hq;go_wp2_with (go_at_fn g;refine BK.o.mono ?_;rintro e w5 ⟨rfl,bi⟩;have hD5:=HD.o.later bi;have H5:=aC bi hD5;obtain ⟨cu,g1,g2,g3,g4,g5⟩:=hD5;have ci:w5.cell? ⟨b,i,none⟩=some cu[i]!:=((aH g1 i).trans (by rw[getElem!_pos cu i (by omega)];exact Array.getElem?_eq_getElem (by omega)));have fi:=ac g1 i;clear bi g1 g2 g3 g4 g5);go_roundw
     case rel=>
      refine ⟨i+1,j+1,by go_num,by go_num,by omega,by omega,?_,(HK.o.trans (Kp.below H5.o.1)).trans ⟨rfl,rfl,rfl,by simp,fun c _ hc=>d9 _ _ _ _ (by intro e;obtain rfl:c=b:=e;exact hc ⟨hlo,rfl⟩)⟩⟩;have:=HKD.o.1 w5 H5.o.2 (by rw[<-HU.o,HQ.o];rfl);rw[<-HU.o]at this;exact this
     case measure=>simp[intOf];omega
   ·obtain rfl:j=n:=by omega
    have hcl:∀ ty,(Builtin.clear_ #[66] ty #[.slice (some ⟨b,i,none⟩) (j - i) (cap - i)]).run Tryz.prog wr=.ok (.tuple #[]) (wr.setCells b i (List.replicate (j - i) (.string ⟨#[]⟩))):=fun ty=>by
     obtain ⟨cu,g1,g2,_⟩:=hD;refine Lib.run_clear_slice wr _ _ ty _ Tryz.underlying66 (fun W=>Tryz.zeroValue9 W) rfl rfl b i _ _ (by omega) (fun t ht=>?_) (fun t ht=>ac g1 _);rw[(aH g1 (i+t)).trans (Array.getElem?_eq_getElem (by omega))];rfl
    obtain ⟨HD,HK⟩:=aZ hD hK;have yX:i<=j:=by omega
    clear hD hK;go_upto_region 11 with fail;go_wp2_with fail;go_ret;have hD:=HD.o;rw[HN.o]at hD;refine ⟨⟨_,rfl,hD.done hlo (by rw[<-HN.o];exact hc) (by rw[<-HN.o];omega) sX.o.1 _⟩,?_⟩;exact HK.o.trans ((xz b _ i wr).mono fun c _ e=>⟨by rw[e];exact hlo,by rw[e]⟩)):G:=h
theorem pm171(h:G:=by
 obtain ⟨qv,qn,qa,ql,qc⟩:=q;obtain ⟨s,hs,bO⟩:=aV.1 hq
 first
 |clear pp171a;have pp38a:=();exact pm38
 |clear pp171b;have pp38b:=();exact pm38
 |clear pp171c;have pp38c:=();exact pm38
 |clear pp171d;have pp38e:=();exact pm38
 |clear pp171e;have pp38h:=();exact pm38
 |exact pm38):G:=h
theorem pm172(h:G:=by
 have HB:=ab ar;clear CB ar fZ hp hq c0 c1 hcs iF br;go_wp2_with (go_at_call 228;refine HC.o.mono ?_;rintro e w4 ⟨rfl,aP⟩;have H4:=ab aP;clear aP)
 first
 |clear pp172;go_ret;exact ⟨⟨_,rfl,by rw[HE.o];simp,by omega,by omega⟩,HB.o.tr H4.o⟩
 |go_roundw
  case rel=>exact ⟨k+1,by omega,by go_num,HB.o.tr H4.o,zF.o⟩
  case measure=>simp[intOf];omega):G:=h
theorem pm173(h:G:=by
 have HB:=ab ar;clear CB ar fZ hq c0 c1 c2 hx hok;go_wp2_with (go_at_call 193;refine HC.o.mono ?_;rintro e w4 ⟨rfl,aP⟩;have H4:=ab aP;clear aP)
 first
 |clear pp173;go_ret;exact ⟨⟨_,rfl,by rw[HE.o];simp⟩,HB.o.tr H4.o⟩
 |go_roundw
  case rel=>exact ⟨k+1,by omega,by go_num,HB.o.tr H4.o,zF.o⟩
  case measure=>simp[intOf];omega):G:=h
theorem pm174(h:G:=by
 have e1:decide ((nodesF t:Int)<=400)=decide (nodesF t<=400):=by rw[gA];simp;omega
 have e2:decide (1+(depthF t:Int)<=40+1)=decide (depthF t<=40):=by rw[gA];simp;omega
 rw[e1,e2];rfl):G:=h
theorem pm175(h:G:=by
 have t1:(nx == ny)=false:=by simpa using mm
 have t2:(nx != ny)=true:=by simpa using mm
 have HZ:=ab (zF.o fun h=>by subst h;exact mm (congrArg Prod.fst (HX.o.1.trans HX.o.2.symm)))
 first
 |clear pp175;have pp103b:=();exact pm103
 |go_wp2;refine (wpIn_wide (n:=3)).1 ?_;refine lV S 31 dW fun jO bW=>?_;refine bL 0 66 (.pointer (some ⟨w.heap.size,1,none⟩)) rfl bW fun cF=>?_;simp only[ag];have pp53:=();exact pm53):G:=h
theorem pm176(h:G:=by
 have he:l=m:=by
  have h1:l.take k=l:=by rw[dJ.o];exact cO
  have h2:m.take k=m:=by rw[dJ.o,WH.o];exact cO
  rw[<-h1,ht,h2]
 obtain ⟨HE,HB⟩:=aZ he ar;clear he ar ht;go_wp2;go_ret
 first
 |clear pp176;exact ⟨aK (by rw[HE.o,oN]),HB.o⟩
 |exact ⟨aK (by rw[HE.o];exact ((nX _ _).2 rfl).symm),HB.o⟩):G:=h
theorem pm177(h:G:=by
 obtain ⟨b,off,u,rfl,_,hu,c0,c1,c2⟩:=HL.o.get br;have hf:=HF.o.mem (az br);have qB:=fd.o l[k] (az br)
 first
 |clear pp177a;rw[Gv br]at ht;obtain ⟨⟨xv,xn,xa⟩,hx⟩:∃y,l[k]=y:=⟨_,rfl⟩;rw[hx]at hu hf qB ht;obtain ⟨s1,h2,fL⟩:=aV.1 hu;obtain ⟨uv,un,ua,ul,uc⟩:=u;have pp113b:=();exact pm113
 |clear pp177b;have jb:=yq x br;have hb1:=qO x (l.take (k+1));have bF:=ju l (k+1);obtain ⟨⟨xv,xn,xa⟩,hx⟩:∃x,l[k]=x:=⟨_,rfl⟩;rw[hx]at hu hf qB jb;obtain ⟨s1,h1,fL⟩:=aV.1 hu;obtain ⟨uv,un,ua,ul,uc⟩:=u;have pp153a:=();exact pm153
 |have VE:l.drop k=l[k] :: l.drop (k+1):=fN br;rw[VE]at hcut;obtain ⟨⟨xv,xn,xa⟩,hx⟩:∃x,l[k]=x:=⟨_,rfl⟩;rw[hx]at hu hf qB hcut;obtain ⟨s1,h2,fL⟩:=aV.1 hu;obtain ⟨uv,un,ua,ul,uc⟩:=u;have pp113c:=();exact pm113):G:=h
theorem pm178(h:G:=by
 rcases eM ho with ⟨rfl,h0⟩ | ⟨g,cap,rfl,hg,_⟩
 ·obtain rfl:=jj h0;exact ⟨none,0,fun _=>⟨0,⟨#[]⟩,none,0,0,none,0,0⟩,rfl,aF _,.inl rfl,fun j hj=>by simp at hj⟩
 first
 |clear pp178
  ·refine ⟨_,cap,fun j=>if h:j<es.length then es[j].2 else ⟨0,⟨#[]⟩,none,0,0,none,0,0⟩,rfl,Aj ho,.inr ⟨g,0,rfl,hg,fun j hj=>?_⟩,fun j hj=>?_⟩
   ·have pD:j<es.length:=by omega
    exact pm104
   ·have pD:j<es.length:=by omega
    simp only[dif_pos pD];exact (ht j pD hj).2.move (fun b hok _=>⟨hok.1,rfl⟩)
 |·refine ⟨_,cap,fun j=>if h:j<es.length then es[j].2 else ⟨0,⟨#[]⟩,none,0,0,none,0,0⟩,rfl,Aj ho,.inr ⟨g,0,rfl,hb g rfl,fun j hj=>?_⟩,fun j hj=>?_⟩
   ·have pD:j<es.length:=by omega
    exact pm104
   ·have pD:j<es.length:=by omega
    simp only[dif_pos pD];exact (ht j pD hj).2):G:=h
theorem pm179(h:G:=by
 rw[eh.o,List.take_append_getElem dG]at h4;exact ⟨k+1,by omega,by go_num,h4,((dy.o.trans (cv.mono Px)).alloc (by omega) _).grown ap (by simp;omega) (fun c hc=>(au.lt c hc).1)⟩):G:=h
theorem pm180(h:G:=by
 simp only[dif_pos pD,Nat.zero_add];have d0:=ho.cells (g:=g) rfl _ _ c0;have d1:=ho.cells (g:=g) rfl _ _ c1;have d2:=ho.cells (g:=g) rfl _ _ c2;have d3:=ho.cells (g:=g) rfl _ _ c3
 first
 |clear pp180;rw[lX]at d0 d1 d2 d3;rw[(ht j pD hj).1]at d0;exact ⟨d0,d1,d2,d3⟩
 |have d4:=ho.cells (g:=g) rfl _ _ c4;rw[lX]at d0 d1 d2 d3 d4;rw[(ht j pD hj).1]at d0;exact ⟨d0,d1,d2,d3,d4⟩):G:=h
theorem pm181(h:G:=by
 obtain ⟨d0,d1,d2,d3⟩:=nb ar c0 c1 c2 c3;have hW:Below wr.heap.size wr (wr.alloc (.cells #[.int .u8 u.o,.string u.n,.slice u.a u.l u.c,.slice u.b u.m u.e] 36)):=cQ
 first
 |clear pp181;have CC:=ab (fd.o s[k] (az br) ok _ u ((hu.later ar).later hW));obtain ⟨N,hN⟩:=ao (A+jT x (s.take k));obtain ⟨M,hM⟩:=ao (iC x s[k]);have zeO:M<=nodesFs s:=by rw[hM];exact aQ (o6 x _) (e9 (az br))
  have zeP:N<=10000000:=by have:=uH x (s.take k);have:=bS s k;omega
  rw[<-hM]at CC jb;rw[<-hN];have HS:=ab (show A+jT x (s.take (k+1))=N+M by omega);obtain ⟨cJ,HW⟩:=aZ ar hW;clear hu ar hW jb hN hM c0 c1 c2 c3 hb1 bF;go_wp2_with (go_at_call 97;refine CC.o.mono ?_;rintro e w2 ⟨rfl,bF⟩;have bM:=ab bF;clear bF);go_roundw
  case rel=>exact ⟨k+1,by omega,by go_num,cJ.o.trans ((HW.o.trans (bM.o.mono HW.o.size)).mono cJ.o.size),by rw[HS.o];simp⟩
  case measure=>simp[intOf];omega
 |have FE:(k:Int)<(k0:Int):=by omega
  have C2:=qB x ok _ u hf ((hu.later ar).later hW);unfold FQ.val at C2;have Wj:=fun r=>uh (x:=x) xs[k] r;have qh:=hf.1;obtain ⟨T,hT⟩:=ao (lu x xs[k]);rw[<-hT]at ht C2 Wj;obtain ⟨BK,HT⟩:=aZ C2 ht;have HB:=ab (ar.trans (hW.mono ar.size));have eh:=aC Wj qh;clear ar hW hu hf qB ht c0 c1 c2 c3 C2 Wj qh hT
  cases T with
  | none=>
   go_wp2_with (go_at_call 165;refine BK.o.mono ?_;rintro e w4 ⟨⟨v1,v2,rfl,Lw,jS⟩,aP⟩;obtain ⟨a3,c3,rfl⟩:=jS.slice;simp only[Option.map,Option.getD,List.length_nil]at Lw jS ⊢;have eL:=ab (HB.o.trans (aP.mono HB.o.size));clear aP Lw jS);go_roundw
   case rel=>exact ⟨k+1,by omega,by go_num,eL.o,HT.o⟩
   case measure=>simp[intOf];omega
  | some r=>
   obtain ⟨p,q⟩:=r;have hok:=eh.o.1 (p,q) rfl;have qh:=eh.o.2;obtain ⟨q0,Ec⟩:=ao q.length;have nj:0<q0:=by rw[Ec];exact ie.2 hok.1
   have O9:(0:Int)<(q0:Int):=by omega
   have BN:p.length<=2000000:=by have:=hok.2.1;simp only at this;omega
   obtain ⟨zcr,HQ0⟩:=aZ BN Ec;clear Ec hok eh BN qh;go_wp2_with (first | (go_at_call 165;refine BK.o.mono ?_;rintro e w4 ⟨⟨v1,v2,rfl,Lw,jS⟩,aP⟩;obtain ⟨a3,c3,rfl⟩:=jS.slice;simp only[Option.map,Option.getD]at Lw jS ⊢;rw[<-HQ0.o];have Jq:=ab Lw;have Gx:=ab jS;have eL:=ab (HB.o.trans (aP.mono HB.o.size));clear aP Lw jS) | (at_builtin;refine sT rfl _ _ rfl w4.heap.size k (aj rfl) p _ rfl rfl (Jq.o.later cQ) zcr.o ?_;intro v5 w5 hv5 ap;have HG:=aC hv5 ap;clear hv5 ap));have HE:=ab (show R=some (k :: p,q) by rw[HT.o]);have bi:Below w4.heap.size w4 w5:=by
    have hg:=HG.o.2;have hs:=hg.size;exact ⟨hg.os,hg.tape,hg.output,by simp at hs;omega,fun b hb=>(hg.block b (by simp;omega) (fun h=>by injection h with h;omega)).trans (bK _ _ _ hb)⟩
   refine bI (v:=.tuple #[v5,.slice a3 q0 c3]) (by simp[results,Tryz.results165,go_sem]) rfl ⟨⟨_,_,rfl,?_,?_⟩,eL.o.trans (bi.mono eL.o.size)⟩
   ·rw[HE.o];exact HG.o.1
   ·rw[HE.o,HQ0.o];exact Gx.o.later bi):G:=h
theorem pm182(h:G:=by
 rcases eM ho with ⟨rfl,h0⟩ | ⟨g,cap,rfl,_⟩
 ·exact ⟨none,0,by rw[h0]⟩
 ·exact ⟨_,_,rfl⟩):G:=h
theorem pm183(h:G:=by
 refine wpOpIn_step ho (fun K' D1=>?_);rw[aX hw];refine ⟨fun f _=>qh f,?_⟩;rw[hr,Oper.semAt_none,m7]
 first
 |clear pp183a;exact D1 _ _ (hK v dY w' (fun h0=>by rw[hd]at h0;cases h0) hG Mt iZ)
 |clear pp183b;exact D1 _ _ (hK undef dY w' (fun _=>rfl) hG Mt iZ)
 |refine ⟨fun h0=>(by rw[qi]at h0;cases h0),hc.mono ?_⟩
  rintro e w' ⟨v,rfl,dY,hG,Mt,iZ⟩;exact D1 _ _ (hK v dY w' (fun h0=>by rw[hd]at h0;cases h0) hG Mt iZ)):G:=h
theorem pm184(h:G:=by
 intro o' OL a γ w aO K hK;obtain rfl:o'=o:=Option.some.inj (OL.symm.trans ho)
 first
 |clear pp184a;obtain ⟨hw,v,dY,w',m7,hG,Mt,iZ⟩:=h a γ w aO;have pp183a:=();exact pm183
 |clear pp184b;obtain ⟨hw,dY,w',m7,hG,Mt,iZ⟩:=h a γ w aO;have pp183b:=();exact pm183
 |clear pp184c;obtain ⟨hw,f,args,m7,hc⟩:=h a γ w aO;exact pm183
 |obtain ⟨v,h1,rfl⟩:=hd a γ w aO;have hw:Region.wanted o' (yielded ops a.tmps)=false:=by simp[Region.wanted,hg,yielded,hj,Fz,h1];exact NV hx
  refine wpOpIn_step ho (fun K' D1=>?_);rw[aD (by rw[hw];exact Bool.false_ne_true)];exact ⟨fun _ _=>trivial,D1 _ _ (hK undef γ w (fun _=>rfl) Gr.refl (fun _ _ h=>h) (by rcases hp with h | h <;> rw[h] <;> trivial))⟩):G:=h
theorem pm185(h:G:=by
 obtain ⟨b,off,⟨go,gn,ga,gl,gc,gb,gm,ge⟩,rfl,_,hg,c0,c1,c2,c3⟩:=fP.o.get (j:=0) (by simp);simp only[Nat.zero_mul,Nat.add_zero,List.getElem_cons_zero]at hg c0 c1 c2 c3
 first
 |clear pp185;obtain ⟨Et,SN,SO,vC⟩:=HS4.o g (by simp);have PB:=yY.o.mem (List.mem_singleton.2 rfl);have hpb:PutB w (.cells #[.int .u8 qo,.string ⟨n.toArray⟩,.slice qa 0 qc,.slice (some ⟨b,off,none⟩) 1 qe] 36 (0,0)) (.cells #[.bool zv,.string zn,.slice za zl zc] 43 (0,0)) (.cells #[.int .u8 0,.string ⟨#[]⟩,.slice none 0 0,.slice none 0 0] 36 (0,0)) (.cells #[.int .u8 qo,.string ⟨n.toArray⟩,.slice fJ 0 fK,.slice none 0 0] 36 (0,0)) jg:=⟨rM.o,x0,xu,x1,x2⟩;have CF:=ut g PB (by omega) ok jg ⟨go,gn,ga,gl,gc,gb,gm,ge⟩ (hg.later rM.o);simp only[FQ.val]at CF;obtain ⟨FL,HG⟩:=aZ CF hg;have nH:=fA Et SN SO vC PB;have HC:=cC c0 c1 c2 c3;obtain ⟨d0,d1,d2,d3⟩:=nb rM.o c0 c1 c2 c3;have p3:=ah x0 3;have HPB:=ab hpb;clear CF hg Et SN SO vC PB c0 c1 c2 c3 x0 x1 xu x2 hpb;gi_wp2_with fail;refine aL.2 (FL.o.mono ?_);rintro e wf ⟨⟨vf,rfl,hvf⟩,tD⟩;clear d0 d1 d2 d3 p3;have GF:=ab (HPB.o.later tD);obtain ⟨zcD,R3⟩:=aZ tD.size hvf;clear tD hvf;have p0:wf.cell? ⟨w.heap.size,0,none⟩=some (.int .u8 qo):=ah GF.o.b0 0;have p1:wf.cell? ⟨w.heap.size,1,none⟩=some (.string ⟨n.toArray⟩):=ah GF.o.b0 1;have p2:wf.cell? ⟨w.heap.size,2,none⟩=some (.slice qa 0 qc):=ah GF.o.b0 2;have p3:wf.cell? ⟨w.heap.size,3,none⟩=some (.slice (some ⟨b,off,none⟩) 1 qe):=ah GF.o.b0 3
  by_cases hn:n=nx
  ·subst hn;have wk:Hd (RS=.mk qo n [] [g]):=ab (by rw[UN.o,mt p9,aX (by simp)]);have CC:=oe (.mk qo n [] [g]) Zo.o.1 ok wf ⟨qo,⟨n.toArray⟩,qa,0,qc,some ⟨b,off,none⟩,1,qe⟩ (Zo.o.2.later GF.o.below);simp only[FQ.val]at CC;exact pm17
  ·have hnb:(n == nx)=false:=by simpa using hn
   cases xg:(a_ [] g).contains nx with
   | false=>
    have wk:Hd (RS=.mk qo n [] [g]):=ab (by rw[UN.o,mt p9,xg];simp);have pp231:=();exact pm231
   | true=>
    exact pm231
 |obtain ⟨la,lc,hLv,Qg,r'⟩:=HL.o.1;obtain ⟨l0,vD⟩:=ao L.length;rw[<-vD]at hLv;subst hLv;exact pm161):G:=h
theorem pm186(h:G:=by
 have x6:=lm (v0:=.int .u8 0) (v1:=.string ⟨#[]⟩) (v2:=.slice none 0 0) (v3:=.slice none 0 0) Kn.o
 first
 |clear pp186a;have k6:=dI (W:=w9) (b:=w.heap.size+1+1) (v0:=.int .u8 0) (v1:=.string ⟨#[]⟩) (v2:=.slice none 0 0) (v3:=.slice none 0 0);obtain ⟨W6,cP⟩:=ao ((((w9.setCell ⟨w.heap.size+1+1,0,none⟩ (.int .u8 0)).setCell ⟨w.heap.size+1+1,1,none⟩ (.string ⟨#[]⟩)).setCell ⟨w.heap.size+1+1,2,none⟩ (.slice none 0 0)).setCell ⟨w.heap.size+1+1,3,none⟩ (.slice none 0 0));rw[<-cP]at x6 k6 ⊢;clear cP;obtain ⟨g0,g1,g2,g3,_,_,_,_⟩:=dh x6;refine bI (v:=.tuple #[FQ.val ⟨0,⟨#[]⟩,none,0,0,none,0,0⟩,.int .i64 3]) (by simp[FQ.val,results,Tryz.results32,go_sem,g0,g1,g2,g3]) rfl ⟨⟨⟨0,⟨#[]⟩,none,0,0,none,0,0⟩,(by rw[HE.o];try rfl),?_⟩,Below.kp1 (H8.o.1.tr H9.o) k6 (by omega)⟩;rw[HE.o];exact l_
 |clear pp186b;have k6:=dI (W:=w6) (b:=w.heap.size+1+1) (v0:=.int .u8 0) (v1:=.string ⟨#[]⟩) (v2:=.slice none 0 0) (v3:=.slice none 0 0);obtain ⟨W6,cP⟩:=ao ((((w6.setCell ⟨w.heap.size+1+1,0,none⟩ (.int .u8 0)).setCell ⟨w.heap.size+1+1,1,none⟩ (.string ⟨#[]⟩)).setCell ⟨w.heap.size+1+1,2,none⟩ (.slice none 0 0)).setCell ⟨w.heap.size+1+1,3,none⟩ (.slice none 0 0));rw[<-cP]at x6 k6 ⊢;clear cP;obtain ⟨g0,g1,g2,g3,_,_,_,_⟩:=dh x6;refine bI (v:=.tuple #[FQ.val ⟨0,⟨#[]⟩,none,0,0,none,0,0⟩,.int .i64 er]) (by simp[FQ.val,results,Tryz.results32,go_sem,g0,g1,g2,g3]) rfl ⟨⟨⟨0,⟨#[]⟩,none,0,0,none,0,0⟩,(by rw[HE.o];try rfl),?_⟩,Below.kp1 (HB.o.1.tr (H5.o.1.tr H6.o)) k6 (by omega)⟩;rw[HE.o];exact l_
 |have k6:=dI (W:=w4) (b:=w.heap.size+1+1) (v0:=.int .u8 0) (v1:=.string ⟨#[]⟩) (v2:=.slice none 0 0) (v3:=.slice none 0 0);obtain ⟨W6,cP⟩:=ao ((((w4.setCell ⟨w.heap.size+1+1,0,none⟩ (.int .u8 0)).setCell ⟨w.heap.size+1+1,1,none⟩ (.string ⟨#[]⟩)).setCell ⟨w.heap.size+1+1,2,none⟩ (.slice none 0 0)).setCell ⟨w.heap.size+1+1,3,none⟩ (.slice none 0 0));rw[<-cP]at x6 k6 ⊢;clear cP;obtain ⟨g0,g1,g2,g3,_,_,_,_⟩:=dh x6;refine bI (v:=.tuple #[FQ.val ⟨0,⟨#[]⟩,none,0,0,none,0,0⟩,.int .i64 2]) (by simp[FQ.val,results,Tryz.results32,go_sem,g0,g1,g2,g3]) rfl ⟨⟨⟨0,⟨#[]⟩,none,0,0,none,0,0⟩,(by rw[HE.o];try rfl),?_⟩,Below.kp1 (HB.o.1.tr H4.o) k6 (by omega)⟩;rw[HE.o];exact l_):G:=h
theorem pm187(h:G:=by
 have cb:((a.map (bY kd.ts sc)).take k).length=k:=by rw[dX];have:=dJ.o;simp;omega
 have j4:(a.map (bY kd.ts sc)).take k=(a.map (bY kd.ts sc)):=ii (by have:=dJ.o;simp;omega)
 first
 |clear pp187;have pp15e:=();exact pm15
 |have pp15d:=();exact pm15):G:=h
theorem pm188(h:G:=by
 have dW:S wz.drew:=by rw[hS];exact ar.drew
 have d0:=aa ar g0;have HX:=ab (hx.later (iW.o.1.tr ar));obtain ⟨HB,HR,du,HM,HNf⟩:=vK ar hR hS hm sW;have Tu:M<=40:=by omega
 first
 |clear pp188;clear hS hR ar hx g0 c0 c1 c2 c3 c4 hm sW YL;go_wp2;refine (wpIn_wide (n:=3)).1 ?_;have jH:=eU;refine lV S 17 dW fun jO bW=>?_;refine bL 0 23 (.slice ra M rc) rfl bW fun cF=>?_;simp only[ag];refine bL 1 24 (.pointer (some ⟨w.heap.size,0,none⟩)) rfl bW fun cF=>?_;simp only[ag];refine dm 2 25 (.slice (some ⟨b,off,none⟩) n1 qc) rfl (fun V hX=>by have g:=f0 V hX;go_simp) bW fun cF=>?_;simp only[ag];refine bL 3 26 (.int .i64 k) rfl bW fun cF=>?_;simp only[ag];refine bL 4 27 (.pointer (some ⟨b,off+k * 5,none⟩)) rfl bW fun cF=>?_;simp only[ag];refine bL 5 28 (.pointer (some ⟨b,off+k * 5+1,none⟩)) rfl bW fun cF=>?_;simp only[ag];refine dm 6 29 (.agg #[.int .u8 x.o,.string x.n,.slice x.a x.l x.c,.slice x.b x.m x.e]) rfl (fun V hX=>by obtain ⟨_,g0,g1,g2,g3⟩:=ff V hX;go_simp) bW fun cF=>?_;simp only[ag];refine bL 7 30 (.pointer (some ⟨w.heap.size,0,none⟩)) rfl bW fun cF=>?_;simp only[ag];refine dm 8 31 (.slice (some ⟨b,off,none⟩) n1 qc) rfl (fun V hX=>by have g:=f0 V hX;go_simp) bW fun cF=>?_;simp only[ag];refine bL 9 32 (.int .i64 k) rfl bW fun cF=>?_;simp only[ag];refine bL 10 33 (.pointer (some ⟨b,off+k * 5,none⟩)) rfl bW fun cF=>?_;simp only[ag];refine bL 11 34 (.pointer (some ⟨b,off+k * 5,none⟩)) rfl bW fun cF=>?_;simp only[ag];refine dm 12 35 (.string ⟨nm.toArray⟩) rfl (fun V hX=>by obtain ⟨g0,_⟩:=ff V hX;go_simp) bW fun cF=>?_;simp only[ag];refine ce 13 rfl fun K hK=>?_;go_simp;refine aL.2 ((Er ⟨nm.toArray⟩ none 0 0 _).mono ?_);rintro _ A ⟨rfl,hA⟩;have GX:Below W1.heap.size W1 A:=HB.o.drew.tr hA;have YM:Below wz.heap.size wz A:=((ak wz.heap.size wz).drew).trans hA;refine hK _ _ (fun _=>by rw[du.o];exact GX) (fun _=>?_);clear hK K;refine ce 14 rfl fun K hK=>?_;go_simp;refine hK _ _ (fun _=>by rw[du.o];exact GX.alloc GX.size _) (fun _=>?_);clear hK K;refine ce 15 rfl fun K hK=>?_;refine sr (.tmp 23) (.tmp 37) rfl W1.heap.size ra M rc (kn (bd.fs.take k)) [fm,.mk 1 nm [] []] [x,⟨1,⟨nm.toArray⟩,none,0,0,none,0,0⟩] wz A _ HR.o HM.o YM HB.o.size rfl (by simp) (fun j h1 h2=>?_) rfl rfl rfl (by simp;omega) (fun g eG w4 dp Om=>?_)
  ·rcases j with _ | _ | j
   ·exact HX.o.move (show gC (fun b=>b<w.heap.size) (fun b=>(Value.slice ra M rc).ownBlock≠some b) wz A from fun c hc hlt=>⟨fun e=>by obtain ⟨_,_,ho,_⟩:=HR.o;have:=(ho.lt c e).1;have:=iW.o.1.size;omega,YM.block c hlt⟩)
   ·exact aW.2 ⟨_,_,rfl,b_,fB⟩
   ·simp only[fF,List.length_nil]at h1;omega
  have cb:=NW br;rw[<-HNf.o]at cb;simp only at cb;rw[<-cb]at dp;have wb:=ab dp;have eL:=ab (Om W1 GX (aF _));clear dp Om GX YM hA cb;refine hK _ _ (fun _=>by rw[du.o];exact eL.o) (fun _=>?_);clear hK K;refine ce 16 rfl fun K hK=>?_;go_simp;refine hK _ _ (fun _=>by rw[du.o];exact eL.o) (fun _=>?_);clear hK K;refine le ?_;go_wp2;go_roundw
  case rel=>exact ⟨k+1,by omega,by go_num,wb.o,eL.o⟩
  case measure=>simp[intOf];omega
 |clear hS hR ar hx g0 c0 c1 c2 c3 hm sW YL;go_wp2;refine (wpIn_wide (n:=3)).1 ?_;have jH:=eU;refine lV S 18 dW fun jO bW=>?_;refine bL 0 46 (.slice ra M rc) rfl bW fun cF=>?_;simp only[ag];refine bL 1 47 (.pointer (some ⟨w.heap.size,1,none⟩)) rfl bW fun cF=>?_;simp only[ag];refine dm 2 48 (.slice (some ⟨b,off,none⟩) n2 qe) rfl (fun V hX=>by have g:=f0 V hX;go_simp) bW fun cF=>?_;simp only[ag];refine bL 3 49 (.int .i64 j) rfl bW fun cF=>?_;simp only[ag];refine bL 4 50 (.pointer (some ⟨b,off+j * 4,none⟩)) rfl bW fun cF=>?_;simp only[ag];refine bL 5 51 (.pointer (some ⟨b,off+j * 4,none⟩)) rfl bW fun cF=>?_;simp only[ag];refine dm 6 52 (.string ⟨nm.toArray⟩) rfl (fun V hX=>by obtain ⟨g0,_⟩:=ff V hX;go_simp) bW fun cF=>?_;simp only[ag];refine bL 7 53 (.pointer (some ⟨w.heap.size,1,none⟩)) rfl bW fun cF=>?_;simp only[ag];refine dm 8 54 (.slice (some ⟨b,off,none⟩) n2 qe) rfl (fun V hX=>by have g:=f0 V hX;go_simp) bW fun cF=>?_;simp only[ag];refine bL 9 55 (.int .i64 j) rfl bW fun cF=>?_;simp only[ag];refine bL 10 56 (.pointer (some ⟨b,off+j * 4,none⟩)) rfl bW fun cF=>?_;simp only[ag];refine bL 11 57 (.pointer (some ⟨b,off+j * 4+1,none⟩)) rfl bW fun cF=>?_;simp only[ag];refine dm 12 58 (.agg #[.bool x.v,.string x.n,.slice x.a x.l x.c]) rfl (fun V hX=>by obtain ⟨_,g0,g1,g2⟩:=ff V hX;go_simp) bW fun cF=>?_;simp only[ag];refine ce 13 rfl fun K hK=>?_;go_simp;have R9:Below W1.heap.size W1 (wz.drew.alloc (.cells #[.bool x.v,.string x.n,.slice x.a x.l x.c] 43)):=HB.o.drew.alloc HB.o.size _;refine hK _ _ (fun _=>by rw[du.o];exact R9) (fun _=>?_);clear hK K;refine ce 14 rfl fun K hK=>?_;go_simp;refine aL.2 ((Er ⟨nm.toArray⟩ (some ⟨wz.heap.size,0,none⟩) 1 1 _).mono ?_);rintro _ A ⟨rfl,hA⟩;have GX:Below W1.heap.size W1 A:=R9.tr hA;have hw0:Below wz.heap.size wz (wz.drew.alloc (.cells #[.bool x.v,.string x.n,.slice x.a x.l x.c] 43)):=((ak wz.heap.size wz).drew).alloc (aF _) _;have YM:Below wz.heap.size wz A:=hw0.tr hA;have UP:A.heap[wz.heap.size]?=some (.cells #[.bool x.v,.string x.n,.slice x.a x.l x.c] 43 (0,0)):=(hA.block wz.heap.size (by simp)).trans (aj (by simp));refine hK _ _ (fun _=>by rw[du.o];exact GX) (fun _=>?_);clear hK K;refine ce 15 rfl fun K hK=>?_;go_simp;refine hK _ _ (fun _=>by rw[du.o];exact GX.alloc GX.size _) (fun _=>?_);clear hK K;refine ce 16 rfl fun K hK=>?_;refine sr (.tmp 46) (.tmp 61) rfl W1.heap.size ra M rc (kn bd.fs ++ ld (bd.ts.take j)) [.mk 1 nm [tm] []] [⟨1,⟨nm.toArray⟩,some ⟨wz.heap.size,0,none⟩,1,1,none,0,0⟩] wz A _ HR.o HM.o YM HB.o.size rfl (by simp) (fun j h1 h2=>?_) rfl rfl rfl (by simp;omega) (fun g eG w4 dp Om=>?_)
  ·rcases j with _ | j
   ·have au:∀ c,(Value.slice ra M rc).ownBlock=some c->W1.heap.size<=c/\c<wz.heap.size:=fun c e=>by obtain ⟨_,_,ho,_⟩:=HR.o;exact ho.lt c e
    refine aW.2 ⟨_,_,rfl,⟨_,1,fun _=>TQ.val x,rfl,.inr ⟨wz.heap.size,0,rfl,fun e=>by have:=au _ e;omega,fun j hj=>?_⟩,fun j hj=>?_⟩,fB⟩
    ·obtain rfl:j=0:=by simpa using hj
     exact ⟨_,_,_,rfl,lE UP⟩
    ·obtain rfl:j=0:=by simpa using hj
     exact HX.o.move (show gC (fun b=>b<w.heap.size) (fun b=>(Value.slice ra M rc).ownBlock≠some b) wz A from fun c hc eJ=>⟨fun e=>by have:=(au c e).1;have:=iW.o.1.size;omega,YM.block c eJ⟩)
   ·simp only[fF,List.length_nil]at h1;omega
  have cb:=NX br;rw[<-HNf.o]at cb;simp only at cb;rw[List.append_assoc,<-cb]at dp;have wb:=ab dp;have eL:=ab (Om W1 GX (aF _));clear dp Om GX YM hA cb R9 hw0 UP;refine hK _ _ (fun _=>by rw[du.o];exact eL.o) (fun _=>?_);clear hK K;refine ce 17 rfl fun K hK=>?_;go_simp;refine hK _ _ (fun _=>by rw[du.o];exact eL.o) (fun _=>?_);clear hK K;refine le ?_;go_wp2;go_roundw
  case rel=>exact ⟨j+1,by omega,by go_num,wb.o,eL.o⟩
  case measure=>simp[intOf];omega):G:=h
theorem pm189(h:G:=by
 have h1:DataW.trod enc Tryz.prog W 0 gM held n 9 [c1]=some x1:=hf 1 _ rfl;have h2:DataW.trod enc Tryz.prog W 0 gM held n 33 [c2]=some x2:=hf 2 _ rfl
 first
 |clear pp189;obtain ⟨v,hv,rfl⟩:=DataW.trod_bool Tryz.underlying4 h0;simp only[cr,and_true]at hv;subst hv;obtain ⟨s,rfl,hs,_⟩:=m6 h1;obtain ⟨l,hl,hln,hlm⟩:=su h2 (fun m hm=>ih m (by omega));refine ⟨.mk v s l,aV.2 ⟨_,rfl,hl⟩,?_,?_⟩
  ·simp only[nodesT,cU,List.map_nil,Rows.uptoBulk,Rows.uptoBulkAll];omega
  ·simp only[jN,cU,List.map_nil,Rows.uptoBulk,Rows.uptoBulkAll,ae,bw];exact ⟨by omega,dS (by omega) _ hlm⟩
 |have h3:DataW.trod enc Tryz.prog W 0 gM held n 34 [c3]=some x3:=hf 3 _ rfl;obtain ⟨o,hv,rfl,ho⟩:=DataW.trod_int Tryz.underlying5 h0;simp only[cr,and_true]at hv;subst hv;have ho:0<=o/\o<=255:=by
   simp[Lit.wf,IntKind.min,IntKind.max,IntKind.signed,IntKind.bits]at ho;omega
  obtain ⟨s,rfl,hs,_⟩:=m6 h1;obtain ⟨l,hl,hln,hlm⟩:=su h2 (fun m _=>vq m);obtain ⟨k,hk,dV,nk⟩:=Cy h3 (fun m hm=>ih m (by omega));refine ⟨.mk o s l k,aW.2 ⟨_,_,rfl,hl,hk⟩,?_,?_⟩
  ·simp only[nodesF,cU,List.map_nil,Rows.uptoBulk,Rows.uptoBulkAll];omega
  ·simp only[kT,cU,List.map_nil,Rows.uptoBulk,Rows.uptoBulkAll,ae,bw];exact ⟨ho,by omega,dS (by omega) _ hlm,iG (by omega) _ nk⟩):G:=h
theorem pm190(h:G:=by
 obtain ⟨ra,rc,rfl⟩:=hF.row.slice;rw[cb]at hF;have HR:=ab (j4 ▸ hF.row)
 first
 |clear pp190a;have x2:=hF.box;have x1:=hF.other (by omega) jI.o;obtain ⟨c0,c1,c2⟩:=lE x2;obtain ⟨e0,e1,e2⟩:=lE x1;have z0:=ac x1 0;have z1:=ac x1 1;have z2:=ac x1 2;obtain ⟨mj,dy⟩:=aZ x1 ar;clear j4 cb hF x1 x2 ar;gi_wp2
  first
  |clear pp15a;have x6:=qt (v0:=.bool qv) (v1:=.string ⟨n.toArray⟩) (v2:=.slice ra k rc) mj.o;have k6:=eF (W:=wr) (b:=w.heap.size+1) (v0:=.bool qv) (v1:=.string ⟨n.toArray⟩) (v2:=.slice ra k rc);obtain ⟨W6,cP⟩:=ao (((wr.setCell ⟨w.heap.size+1,0,none⟩ (.bool qv)).setCell ⟨w.heap.size+1,1,none⟩ (.string ⟨n.toArray⟩)).setCell ⟨w.heap.size+1,2,none⟩ (.slice ra k rc));rw[<-cP]at x6 k6 ⊢;clear cP;have g0:W6.cell? ⟨w.heap.size+1,0,none⟩=some (.bool qv):=ah x6 0;have g1:W6.cell? ⟨w.heap.size+1,1,none⟩=some (.string ⟨n.toArray⟩):=ah x6 1;have g2:W6.cell? ⟨w.heap.size+1,2,none⟩=some (.slice ra k rc):=ah x6 2;have hz:=(bn jI.o);have h6:TermV (w.heap.size<=·) W6 (TQ.val ⟨qv,⟨n.toArray⟩,ra,k,rc⟩) (.mk qv n a):=(HR.o.kp1 k6 (by omega)).term dO.o.size;refine bI (v:=TQ.val ⟨qv,⟨n.toArray⟩,ra,k,rc⟩) (by simp[TQ.val,results,Tryz.results53,go_sem,g0,g1,g2]) rfl ⟨⟨qv,⟨n.toArray⟩,ra,k,rc⟩,rfl,h6,Below.kp1 dy.o k6 (by omega)⟩
  |clear pp15b;have x6:=qt (v0:=.bool false) (v1:=.string ⟨n.toArray⟩) (v2:=.slice ra k rc) mj.o;have k6:=eF (W:=wr) (b:=w.heap.size+1) (v0:=.bool false) (v1:=.string ⟨n.toArray⟩) (v2:=.slice ra k rc);obtain ⟨W6,cP⟩:=ao (((wr.setCell ⟨w.heap.size+1,0,none⟩ (.bool false)).setCell ⟨w.heap.size+1,1,none⟩ (.string ⟨n.toArray⟩)).setCell ⟨w.heap.size+1,2,none⟩ (.slice ra k rc));rw[<-cP]at x6 k6 ⊢;clear cP;have g0:W6.cell? ⟨w.heap.size+1,0,none⟩=some (.bool false):=ah x6 0;have g1:W6.cell? ⟨w.heap.size+1,1,none⟩=some (.string ⟨n.toArray⟩):=ah x6 1;have g2:W6.cell? ⟨w.heap.size+1,2,none⟩=some (.slice ra k rc):=ah x6 2;have hz:=(bn jI.o);have h6:TermV (w.heap.size<=·) W6 (TQ.val ⟨false,⟨n.toArray⟩,ra,k,rc⟩) (.mk false n (a.map (eT f))):=(HR.o.kp1 k6 (by omega)).term dO.o.size;refine bI (v:=TQ.val ⟨false,⟨n.toArray⟩,ra,k,rc⟩) (by simp[TQ.val,results,Tryz.results154,go_sem,g0,g1,g2]) rfl (⟨⟨⟨false,⟨n.toArray⟩,ra,k,rc⟩,rfl,h6⟩,Below.kp1 dy.o k6 (by omega)⟩)
  |clear pp15c;have x6:=qt (v0:=.bool true) (v1:=.string ⟨n.toArray⟩) (v2:=.slice ra k rc) mj.o;have k6:=eF (W:=wr) (b:=w.heap.size+1) (v0:=.bool true) (v1:=.string ⟨n.toArray⟩) (v2:=.slice ra k rc);obtain ⟨W6,cP⟩:=ao (((wr.setCell ⟨w.heap.size+1,0,none⟩ (.bool true)).setCell ⟨w.heap.size+1,1,none⟩ (.string ⟨n.toArray⟩)).setCell ⟨w.heap.size+1,2,none⟩ (.slice ra k rc));rw[<-cP]at x6 k6 ⊢;clear cP;have g0:W6.cell? ⟨w.heap.size+1,0,none⟩=some (.bool true):=ah x6 0;have g1:W6.cell? ⟨w.heap.size+1,1,none⟩=some (.string ⟨n.toArray⟩):=ah x6 1;have g2:W6.cell? ⟨w.heap.size+1,2,none⟩=some (.slice ra k rc):=ah x6 2;have hz:=(bn jI.o);have h6:TermV (w.heap.size<=·) W6 (TQ.val ⟨true,⟨n.toArray⟩,ra,k,rc⟩) (.mk true n (a.map (eT f))):=(HR.o.kp1 k6 (by omega)).term dO.o.size;refine bI (v:=TQ.val ⟨true,⟨n.toArray⟩,ra,k,rc⟩) (by simp[TQ.val,results,Tryz.results154,go_sem,g0,g1,g2]) rfl (⟨⟨⟨true,⟨n.toArray⟩,ra,k,rc⟩,rfl,h6⟩,Below.kp1 dy.o k6 (by omega)⟩)
  |clear pp15d;have x6:=qt (v0:=.bool false) (v1:=.string ⟨n.toArray⟩) (v2:=.slice ra k rc) mj.o;have k6:=eF (W:=wr) (b:=w.heap.size+1) (v0:=.bool false) (v1:=.string ⟨n.toArray⟩) (v2:=.slice ra k rc);obtain ⟨W6,cP⟩:=ao (((wr.setCell ⟨w.heap.size+1,0,none⟩ (.bool false)).setCell ⟨w.heap.size+1,1,none⟩ (.string ⟨n.toArray⟩)).setCell ⟨w.heap.size+1,2,none⟩ (.slice ra k rc));rw[<-cP]at x6 k6 ⊢;clear cP;have g0:W6.cell? ⟨w.heap.size+1,0,none⟩=some (.bool false):=ah x6 0;have g1:W6.cell? ⟨w.heap.size+1,1,none⟩=some (.string ⟨n.toArray⟩):=ah x6 1;have g2:W6.cell? ⟨w.heap.size+1,2,none⟩=some (.slice ra k rc):=ah x6 2;have hz:=(bn jI.o);have h6:TermV (w.heap.size<=·) W6 (TQ.val ⟨false,⟨n.toArray⟩,ra,k,rc⟩) (.mk false n (a.map (bY kd.ts sc))):=(HR.o.kp1 k6 (by omega)).term dO.o.size;refine bI (v:=TQ.val ⟨false,⟨n.toArray⟩,ra,k,rc⟩) (by simp[TQ.val,results,Tryz.results127,go_sem,g0,g1,g2]) rfl (⟨⟨⟨false,⟨n.toArray⟩,ra,k,rc⟩,rfl,h6⟩,Below.kp1 dy.o k6 (by omega)⟩)
  |clear pp15e;have x6:=qt (v0:=.bool true) (v1:=.string ⟨n.toArray⟩) (v2:=.slice ra k rc) mj.o;have k6:=eF (W:=wr) (b:=w.heap.size+1) (v0:=.bool true) (v1:=.string ⟨n.toArray⟩) (v2:=.slice ra k rc);obtain ⟨W6,cP⟩:=ao (((wr.setCell ⟨w.heap.size+1,0,none⟩ (.bool true)).setCell ⟨w.heap.size+1,1,none⟩ (.string ⟨n.toArray⟩)).setCell ⟨w.heap.size+1,2,none⟩ (.slice ra k rc));rw[<-cP]at x6 k6 ⊢;clear cP;have g0:W6.cell? ⟨w.heap.size+1,0,none⟩=some (.bool true):=ah x6 0;have g1:W6.cell? ⟨w.heap.size+1,1,none⟩=some (.string ⟨n.toArray⟩):=ah x6 1;have g2:W6.cell? ⟨w.heap.size+1,2,none⟩=some (.slice ra k rc):=ah x6 2;have hz:=(bn jI.o);have h6:TermV (w.heap.size<=·) W6 (TQ.val ⟨true,⟨n.toArray⟩,ra,k,rc⟩) (.mk true n (a.map (bY kd.ts sc))):=(HR.o.kp1 k6 (by omega)).term dO.o.size;refine bI (v:=TQ.val ⟨true,⟨n.toArray⟩,ra,k,rc⟩) (by simp[TQ.val,results,Tryz.results127,go_sem,g0,g1,g2]) rfl (⟨⟨⟨true,⟨n.toArray⟩,ra,k,rc⟩,rfl,h6⟩,Below.kp1 dy.o k6 (by omega)⟩)
  |clear pp15f;have x6:=qt (v0:=.bool false) (v1:=.string ⟨n.toArray⟩) (v2:=.slice ra k rc) mj.o;have k6:=eF (W:=wr) (b:=w.heap.size+1) (v0:=.bool false) (v1:=.string ⟨n.toArray⟩) (v2:=.slice ra k rc);obtain ⟨W6,cP⟩:=ao (((wr.setCell ⟨w.heap.size+1,0,none⟩ (.bool false)).setCell ⟨w.heap.size+1,1,none⟩ (.string ⟨n.toArray⟩)).setCell ⟨w.heap.size+1,2,none⟩ (.slice ra k rc));rw[<-cP]at x6 k6 ⊢;clear cP;have g0:W6.cell? ⟨w.heap.size+1,0,none⟩=some (.bool false):=ah x6 0;have g1:W6.cell? ⟨w.heap.size+1,1,none⟩=some (.string ⟨n.toArray⟩):=ah x6 1;have g2:W6.cell? ⟨w.heap.size+1,2,none⟩=some (.slice ra k rc):=ah x6 2;have hz:=(bn jI.o);have h6:TermV (w.heap.size<=·) W6 (TQ.val ⟨false,⟨n.toArray⟩,ra,k,rc⟩) (.mk false n (a.map aM)):=(HR.o.kp1 k6 (by omega)).term dO.o.size;refine bI (v:=TQ.val ⟨false,⟨n.toArray⟩,ra,k,rc⟩) (by simp[TQ.val,results,Tryz.results69,go_sem,g0,g1,g2]) rfl (⟨⟨false,⟨n.toArray⟩,ra,k,rc⟩,rfl,h6,Below.kp1 dy.o k6 (by omega)⟩)
  |have x6:=qt (v0:=.bool true) (v1:=.string ⟨n.toArray⟩) (v2:=.slice ra k rc) mj.o;have k6:=eF (W:=wr) (b:=w.heap.size+1) (v0:=.bool true) (v1:=.string ⟨n.toArray⟩) (v2:=.slice ra k rc);obtain ⟨W6,cP⟩:=ao (((wr.setCell ⟨w.heap.size+1,0,none⟩ (.bool true)).setCell ⟨w.heap.size+1,1,none⟩ (.string ⟨n.toArray⟩)).setCell ⟨w.heap.size+1,2,none⟩ (.slice ra k rc));rw[<-cP]at x6 k6 ⊢;clear cP;have g0:W6.cell? ⟨w.heap.size+1,0,none⟩=some (.bool true):=ah x6 0;have g1:W6.cell? ⟨w.heap.size+1,1,none⟩=some (.string ⟨n.toArray⟩):=ah x6 1;have g2:W6.cell? ⟨w.heap.size+1,2,none⟩=some (.slice ra k rc):=ah x6 2;have hz:=(bn jI.o);have h6:TermV (w.heap.size<=·) W6 (TQ.val ⟨true,⟨n.toArray⟩,ra,k,rc⟩) (.mk true n (a.map aM)):=(HR.o.kp1 k6 (by omega)).term dO.o.size;refine bI (v:=TQ.val ⟨true,⟨n.toArray⟩,ra,k,rc⟩) (by simp[TQ.val,results,Tryz.results69,go_sem,g0,g1,g2]) rfl (⟨⟨true,⟨n.toArray⟩,ra,k,rc⟩,rfl,h6,Below.kp1 dy.o k6 (by omega)⟩)
 |clear pp190b;have pp87:=();exact pm87
 |clear pp190c;exact pm87
 |have x2:=hF.box;have x1:=hF.other (by omega) MB.o;obtain ⟨c0,c1,c2,c3⟩:=mi x2;obtain ⟨e0,e1,e2,e3,z0,z1,z2,z3⟩:=dh x1;have mj:=ab x1;have OR:=ab (V0.o.kp1 hF.kp (by have:=x_.o;omega));have dy:=ab ar;clear j4 cb hF x1 x2 ar;gi_wp2;have x6:=lm (v0:=.int .u8 so) (v1:=.string ⟨n.toArray⟩) (v2:=.slice fJ k1 fK) (v3:=.slice ra k rc) mj.o;have k6:=dI (W:=wr) (b:=w.heap.size+1) (v0:=.int .u8 so) (v1:=.string ⟨n.toArray⟩) (v2:=.slice fJ k1 fK) (v3:=.slice ra k rc);obtain ⟨W6,cP⟩:=ao ((((wr.setCell ⟨w.heap.size+1,0,none⟩ (.int .u8 so)).setCell ⟨w.heap.size+1,1,none⟩ (.string ⟨n.toArray⟩)).setCell ⟨w.heap.size+1,2,none⟩ (.slice fJ k1 fK)).setCell ⟨w.heap.size+1,3,none⟩ (.slice ra k rc));rw[<-cP]at x6 k6 ⊢;clear cP;have g0:W6.cell? ⟨w.heap.size+1,0,none⟩=some (.int .u8 so):=ah x6 0;have g1:W6.cell? ⟨w.heap.size+1,1,none⟩=some (.string ⟨n.toArray⟩):=ah x6 1;have g2:W6.cell? ⟨w.heap.size+1,2,none⟩=some (.slice fJ k1 fK):=ah x6 2;have g3:W6.cell? ⟨w.heap.size+1,3,none⟩=some (.slice ra k rc):=ah x6 3;have hz:=x_.o;have h6:FormV (w.heap.size<=·) W6 (FQ.val ⟨so,⟨n.toArray⟩,fJ,k1,fK,ra,k,rc⟩) (.mk so n (a.map (bY kd.ts c)) (ss.map (cH kd c))):=RowF.form (OR.o.kp1 k6 (by omega)) (HR.o.kp1 k6 (by have:=yb.o;omega)) dO.o.size (by have:=yb.o;have:=dO.o.size;omega);refine bI (v:=FQ.val ⟨so,⟨n.toArray⟩,fJ,k1,fK,ra,k,rc⟩) (by simp[FQ.val,results,Tryz.results72,go_sem,g0,g1,g2,g3]) rfl (⟨⟨⟨so,⟨n.toArray⟩,fJ,k1,fK,ra,k,rc⟩,rfl,wk.o ▸ h6⟩,Below.kp1 dy.o k6 (by omega)⟩)):G:=h
theorem pm191(h:G:=by
 rcases HPn.o with ⟨rfl,rfl,rfl⟩ | ⟨b,off,rfl⟩
 ·exact .inl ⟨rfl,rfl,by rw[jj FF.o.symm];rfl⟩
 ·exact .inr ⟨_,rfl,by rw[iM,<-FF.o],(Bq.o.later pQ).olds⟩):G:=h
theorem pm192(h:G:=by
 simp only[FQ.val,cA,Array.mk.injEq,cr,and_true,Value.int.injEq,true_and,Value.string.injEq]at h1 h2;obtain ⟨rfl,rfl,rfl,rfl⟩:=h1;obtain ⟨rfl,rfl,rfl,rfl⟩:=h2
 first
 |clear pp192;obtain rfl:=Pg.len;obtain rfl:=hfs.len;simp only at iF;obtain rfl:=iF.1.len;obtain ⟨X,hX⟩:∃X:Pl,X=⟨.mk SV sn LE ss,.mk fo' fn UY fs,ps.reverse⟩:=⟨_,rfl⟩;obtain ⟨yp,hc2⟩:∃yp:Sco,yp=(if bD SV then (sn,fn) :: ps.reverse else ps.reverse):=⟨_,rfl⟩;have lZ:bJ ps.reverse (.mk SV sn LE ss) (.mk fo' fn UY fs)=[X] ++ aU yp ss fs:=by rw[hX,hc2];unfold bJ;rfl
  rw[lZ]at dt ⊢;have en:=PK.subs.len;have sW:nodesF (.mk SV sn LE ss)=nodesTs LE+nodesFs ss+1:=by unfold nodesF;rfl
  have ox:∀ t∈ss,ps.length+1+nodesF t<=1000000:=fun t ht=>by have:=l7 ss t ht;omega
  obtain ⟨m0,el⟩:=ao (min ss.length fs.length);obtain ⟨sm,JL⟩:=ao ss.length;obtain ⟨fm,Ca⟩:=ao fs.length;obtain ⟨cl,hcl⟩:=ao ps.length;have zcO:ss.length<=1000000:=by have:=qk ss;omega
  simp only[PlQ.val,PlQ.cells];rw[<-hcl]at iF;rw[<-JL]at Pg zcO tF;rw[<-Ca]at hfs en B_;rw[<-JL,<-Ca]at el;rw[<-JL,<-Ca,<-hcl];obtain ⟨W1,bR⟩:=ao (W.alloc (.cells #[.int .u8 SV,.string ⟨sn.toArray⟩,.slice sa sl sc,.slice sb sm se,.int .u8 fo',.string ⟨fn.toArray⟩,.slice fa fl fc,.slice fb fm fe,.slice ca cl cc] 89));have iJ:=cX bR;have IJ:J pre W1:=hJ pre _ _ (Nw.below iJ) hj;have tP:=bX bR;have hWM:W.heap.size<W1.heap.size/\¬M W.heap.size:=⟨by rw[bR];simp,fun h=>by have:=hM _ h;omega⟩;have tC:=hY pre #[PlQ.val ⟨⟨SV,⟨sn.toArray⟩,sa,sl,sc,sb,sm,se⟩,⟨fo',⟨fn.toArray⟩,fa,fl,fc,fb,fm,fe⟩,ca,cl,cc⟩] X W1 IJ (Kp.below iJ) ⟨_,ps,rfl,by rw[hX],by omega,by rw[hX];exact tF.kp (Kp.below iJ),by rw[hX];exact B_.kp (Kp.below iJ),iF.kp (Kp.below iJ)⟩ (jJ dt);simp only[PlQ.val,PlQ.cells]at tC;obtain ⟨fd,UZ⟩:=aZ ih PK.subs;have tR:=bE lJ ox hcl;have Bl:=aC hM hl;have HJ:=aC hJ hJx;obtain ⟨HY,HSs,Zv,HP⟩:=eR hY Pg hfs iF;have Jt:=iF.1.cap;have nS:=ab dt;have ib:=bE el JL Ca;obtain ⟨jI,dO,HWM,zaO,iW⟩:=vK tP iJ hWM hc2 bR;have HPp:=ab (show (pre ++ [X]) <+: xs from jJ dt);obtain ⟨yfn,tmps,assign,body,hy,Ga⟩:=jG 2 tC;rw[bR]at hy Ga;clear tF B_ iF hsa FH Pg hfs PK ih el JL Ca hcl hj iJ IJ tC hJ hJx hM hl hY dt lZ hX hc2 tP hWM bR ox sW lJ;refine mM Tryz.func103 ?_;simp only[Tryz.ntmps103,Nat.reduceAdd,Nat.reduceSub,li];have jH:=eU;gi_wp2;refine Ga.mono ?_;rintro e W2 (⟨rfl,sH,fW⟩ | ⟨rfl,zaP,fW⟩)
  ·rw[<-iW.o]at fW;have oL:=(fW.same _ HWM.o.1 HWM.o.2).trans jI.o;obtain ⟨P0,P1,P2,P3,P4,P5,P6,P7,P8⟩:=ir (q:=⟨⟨SV,⟨sn.toArray⟩,sa,sl,sc,sb,sm,se⟩,⟨fo',⟨fn.toArray⟩,fa,fl,fc,fb,fm,fe⟩,ca,cl,cc⟩) oL;have CQ:=eN ⟨SV,⟨sn.toArray⟩,sa,sl,sc,sb,sm,se⟩ W2;simp only[FQ.val]at CQ;have IM:=ab CQ;have H2:=bE sH ((Kp.below dO.o).trans fW) oL;simp only at P0 P1 P2 P3 P4 P5 P6 P7 P8;clear sH fW oL CQ Ga hy;gi_wp2_with fail;refine aL.2 (IM.o.mono ?_);rintro e W3 ⟨rfl,aJ⟩;clear P0 P1 P2 P3 P4 P5 P6 P7 P8;have vG:=aC (HJ.o.1 _ _ _ ((Nw.below aJ)) (show J (pre ++ [X]) W2 from H2.o.1)) (H2.o.2.1.trans (Kp.below aJ));have gj:=ab (bT aJ H2.o.2.2)
   cases p9:bD SV with
   | false=>
    have BK:=ab (show ps.reverse=yp by rw[zaO.o,p9];rfl);have zR:=vG;have Oq:=gj;have HPz:=ab (HP.o.kp vG.o.2);have p3:=ah gj.o 3;have p7:=ah gj.o 7;clear aJ p9;gi_wp2;clear p3 p7;gi_loopw [40] (fun i wr=>∃k:Nat,k<=m0/\i=.int .i64 k/\J (pre ++ ([X] ++ aU yp (ss.take k) (fs.take k))) wr/\Kp M W3 wr) (fun i _=>m0 - (intOf i).toNat)
    case atStart=>exact ⟨0,bc _,rfl,by simpa[aU] using zR.o.1,Kp.refl _⟩
    case round=>
     have pp199f:=();exact pm199
   | true=>
    have BK:=ab (show (ps ++ [(sn,fn)]).reverse=yp by rw[zaO.o,p9];simp);have On:=(HP.o.kp vG.o.2).1.cases;have HSh:=ab On;have hold:((.slice ca cl cl:Value)=.slice none 0 0/\cl=0/\hZ ps=[])\/∃b,(.slice ca cl cl:Value)=.slice (some b) cl cl/\(hZ ps).length=cl * 2/\∀ j u,(hZ ps)[j]?=some u->(W3.alloc (.cells #[.string ⟨sn.toArray⟩,.string ⟨fn.toArray⟩] 213)).drew.cell? (b.add j)=some u:=by
     rcases On with ⟨rfl,rfl,rfl⟩ | ⟨b,off,rfl⟩
     ·exact .inl ⟨rfl,rfl,by rw[jj tR.o.2.2.symm];rfl⟩
     ·exact .inr ⟨_,rfl,by rw[iM,<-tR.o.2.2],((HP.o.kp vG.o.2).1.later (((ak W3.heap.size W3).alloc (aF _) _).drew)).olds⟩
    have Pq:=ab hold;have zeM:cl<=1000000:=by have:=tR.o.1;have:=tR.o.2.2;omega
    obtain ⟨S,hS⟩:∃S:World->Prop,S=fun V=>Below W3.heap.size W3 V:=⟨_,rfl⟩;have f1:∀ V,S V->V.cell? ⟨W.heap.size,1,none⟩=some (.string ⟨sn.toArray⟩):=fun V h=>by rw[hS]at h;exact aa h (ah gj.o 1)
    have f5:∀ V,S V->V.cell? ⟨W.heap.size,5,none⟩=some (.string ⟨fn.toArray⟩):=fun V h=>by rw[hS]at h;exact aa h (ah gj.o 5)
    have dW:S W3.drew:=by rw[hS];exact (ak _ _).drew
    have du:=ab hS;clear hS hold On p9 aJ;gi_wp2;refine lV S 14 dW fun jO bW=>?_;refine bL 0 16 (.slice ca cl cc) rfl bW fun cF=>?_;simp only[ag];refine bL 1 17 (.slice ca cl cc) rfl cF fun fI=>?_;simp only[ag];refine bL 2 18 (.int .i64 (cl:Int)) rfl fI fun gO=>?_;simp only[ag];refine bL 3 19 (.slice ca cl cc) rfl gO fun iX=>?_;simp only[ag];refine bL 4 20 (.int .i64 (cl:Int)) rfl iX fun jQ=>?_;simp only[ag];refine dm 5 21 (.slice ca cl cl) rfl (fun V hX=>by rcases HSh.o with ⟨rfl,rfl,rfl⟩ | ⟨b,off,rfl⟩ <;> go_simp) jQ fun kf=>?_;simp only[ag];refine bL 6 22 (.pointer (some ⟨W.heap.size,0,none⟩)) rfl kf fun mK=>?_;simp only[ag];refine bL 7 23 (.pointer (some ⟨W.heap.size,1,none⟩)) rfl mK fun sg=>?_;simp only[ag];refine dm 8 24 (.string ⟨sn.toArray⟩) rfl (fun V hX=>by have g0:=f1 V hX;go_simp) sg fun JT=>?_;simp only[ag];refine bL 9 25 (.pointer (some ⟨W.heap.size,4,none⟩)) rfl JT fun Cb=>?_;simp only[ag];refine bL 10 26 (.pointer (some ⟨W.heap.size,5,none⟩)) rfl Cb fun JU=>?_;simp only[ag];refine dm 11 27 (.string ⟨fn.toArray⟩) rfl (fun V hX=>by have g0:=f5 V hX;go_simp) JU fun PL=>?_;simp only[ag];refine bL 12 28 (.agg #[.string ⟨sn.toArray⟩,.string ⟨fn.toArray⟩]) rfl PL fun SW=>?_;simp only[ag];refine ce 13 rfl fun K hK=>?_;go_simp;have pQ:Below W3.heap.size W3 (W3.alloc (.cells #[.string ⟨sn.toArray⟩,.string ⟨fn.toArray⟩] 213)).drew:=((ak _ W3).alloc (aF _) _).drew;refine hK _ _ (fun _=>by rw[du.o];exact pQ) (fun _=>?_);clear hK K;refine ce 14 rfl fun K hK=>?_;refine iN (.tmp 21) (.tmp 29) 87 rfl 213 i0 (.agg #[.string ByteArray.empty,.string ByteArray.empty]) 2 32 Tryz.underlying87 hi pF iq gV rfl (by decide) (.slice ca cl cl) cl (hZ ps) rfl Pq.o ⟨W3.heap.size,0,none⟩ 1 1 [.string ⟨sn.toArray⟩,.string ⟨fn.toArray⟩] rfl rfl (dj (cs:=#[.string ⟨sn.toArray⟩,.string ⟨fn.toArray⟩]) (t:=213) (fr:=(0,0)) (fO W3 _)) (by simp[Value.oneCell']) (by decide) (by unfold maxLen;omega) (by omega) ?_;intro g cap X5 au ap;have zI:Below W3.heap.size W3 X5:=⟨ap.os.trans pQ.os,ap.tape.trans pQ.tape,ap.output.trans pQ.output,aQ pQ.size ap.size,fun b hb=>(ap.block b (bN hb pQ.size) (by simp)).trans (pQ.block b hb)⟩;rw[<-lM (sn,fn) ps]at au;have vE:(W3.alloc (.cells #[.string ⟨sn.toArray⟩,.string ⟨fn.toArray⟩] 213)).drew.heap.size<=g/\g<X5.heap.size:=au.lt g rfl;have hzz:(W3.alloc (.cells #[.string ⟨sn.toArray⟩,.string ⟨fn.toArray⟩] 213)).drew.heap.size=W3.heap.size+1:=by show (W3.alloc _).heap.size=_;simp
    have HPz:=ab (show PairsN M X5 (.slice (some ⟨g,0,none⟩) (cl+1) cap) (ps ++ [(sn,fn)]) from ⟨PairsV.own au,fun b hb hm=>by
     obtain rfl:g=b:=by simpa[Value.ownBlock] using hb
     have:=Bl.o.1 g hm;have:=vG.o.2.size;omega⟩)
    have zR:=aC (HJ.o.1 _ _ _ ((Nw.below zI).mono vG.o.2.size) vG.o.1) (vG.o.2.trans (Kp.below zI));have Oq:=ab (bT zI gj.o);clear au ap pQ zI vE hzz;refine eS hK ?_;clear hK K;refine ce 15 rfl fun K hK=>?_;go_simp;refine eS hK ?_;clear hK K;refine le ?_;have p3:=ah Oq.o 3;have p7:=ah Oq.o 7;clear f1 f5 dW du bW jO;gi_wp2;clear p3 p7;gi_loopw [40] (fun i wr=>∃k:Nat,k<=m0/\i=.int .i64 k/\J (pre ++ ([X] ++ aU yp (ss.take k) (fs.take k))) wr/\Kp M X5 wr) (fun i _=>m0 - (intOf i).toNat)
    case atStart=>exact ⟨0,bc _,rfl,by simpa[aU] using zR.o.1,Kp.refl _⟩
    case round=>
     exact pm199
  ·have HH:=aC zaP fW;clear zaP fW Ga hy;gi_wp2;go_ret;refine .inr ⟨rfl,_,HPp.o,HH.o.1,?_⟩;have h:=HH.o.2;rw[<-iW.o]at h;exact ((Kp.below dO.o).from _).trans h
 |obtain rfl:=fL.len;obtain rfl:=Jv.len;obtain rfl:=FG.len;obtain rfl:=hys.len;obtain ⟨pa,pl,pc,rfl⟩:∃pa pl pc,v=.slice pa pl pc:=by obtain ⟨a,c,h,_⟩:=hp;exact ⟨_,_,_,h⟩
  obtain rfl:=hp.len;have FH:=hf.args;have hfs:=hf.subs;have cf:=FH.len;have en:=hfs.len;have Jt:=hp.cap;have hm:=M_ ps.reverse uo vo xn yn xa ya xs ys;obtain ⟨R,hR⟩:=ao (eB ps.reverse (.mk uo xn xa xs) (.mk vo yn ya ys));rw[<-hR]at hm ⊢;have S6:=EF uo xn xa xs;obtain ⟨D,hD⟩:=ao (gJ (.mk uo xn xa xs));rw[<-hD]at S6 iF;obtain ⟨k0,cg⟩:=ao xa.length;obtain ⟨m0,el⟩:=ao ya.length;obtain ⟨k1,ej⟩:=ao xs.length;obtain ⟨m1,jh⟩:=ao ys.length;obtain ⟨p0,nD⟩:=ao ps.length;have WX:ps.length<=1000000000:=by omega
  have hp9:p0<=1000000000:=by omega
  rw[<-cg,<-el,<-ej,<-jh]at hm;rw[<-cg]at cf;rw[<-ej]at en;rw[<-nD]at Jt;rw[<-cg]at fL;rw[<-el]at Jv;rw[<-ej]at FG;rw[<-jh]at hys;rw[<-nD]at hp;rw[<-cg,<-el,<-ej,<-jh,<-nD];obtain ⟨dJ,ib,PV,IS,FF,UF,Zk,Uy,HYs,HP⟩:=OG cg el ej jh nD fL Jv FG hys hp;obtain ⟨fd,U3,Zv⟩:=cD ih FH hfs;clear hR cg el ej jh nD fL Jv FG hys hp ih hf FH hfs hq oy hD;obtain ⟨W2,bl⟩:=ao ((w.alloc (.cells #[.int .u8 uo,.string ⟨xn.toArray⟩,.slice ua k0 uc,.slice ub k1 ue] 36)).alloc (.cells #[.int .u8 vo,.string ⟨yn.toArray⟩,.slice va m0 vc,.slice vb m1 ve] 36));have bF:=lB bl;have HX:Hd (W2.heap[w.heap.size]?=some (.cells #[.int .u8 uo,.string ⟨xn.toArray⟩,.slice ua k0 uc,.slice ub k1 ue] 36 (0,0))):=ab (by rw[bl];exact (bK _ _ _ (by simp)).trans (aj rfl));have HY:Hd (W2.heap[w.heap.size+1]?=some (.cells #[.int .u8 vo,.string ⟨yn.toArray⟩,.slice va m0 vc,.slice vb m1 ve] 36 (0,0))):=ab (by rw[bl];exact aj (by simp));obtain ⟨cJ,gF⟩:=aZ bF bl;have U4:=ab (fun (W:World)=>eN ⟨uo,⟨xn.toArray⟩,ua,k0,uc,ub,k1,ue⟩ W);unfold FQ.val at U4;simp only at U4;clear bF bl;unfold FQ.val
  by_cases MM:uo=vo/\k0=m0/\k1=m1
  ·obtain ⟨rfl,rfl,rfl⟩:=MM;simp only[beq_self_eq_true,Bool.and_self,dP]at hm;have e0:(uo == uo)=true:=by simp
   have e1:(uo != uo)=false:=by simp
   have e2:((k0:Int) != (k0:Int))=false:=by simp
   have e3:((k1:Int) != (k1:Int))=false:=by simp
   obtain ⟨qb,Ot⟩:=ao (bD uo);rw[<-Ot]at hm U4
   by_cases WY:((xn == yn) || qb)=true
   ·simp only[WY,dP]at hm;clear Ot;have pp283a:=();exact pm283
   ·have Pf:R=false:=by rw[hm];rw[Bool.not_eq_true]at WY;rw[WY];simp
    simp at WY;obtain ⟨dK,rfl⟩:=WY;have gx:(xn == yn)=false:=by simpa using dK
    have lg:(!(xn == yn))=true:=by simpa using dK
    have HE:=ab Pf;clear hm Pf dK Ot;have pp283b:=();exact pm283
  ·have Pf:R=false:=by
    rw[hm]
    by_cases h1:uo=vo
    ·by_cases h2:k0=m0
     ·have h3:¬k1=m1:=fun h=>MM ⟨h1,h2,h⟩;simp[h3]
     ·simp[h2]
    ·simp[h1]
   have HE:=ab Pf;clear hm Pf;exact pm283):G:=h
theorem pm193(h:G:=by
 obtain ⟨es,hD,V_,_⟩:=au.entries (Maps.string_keyed Tryz.underlying9);obtain ⟨Sz,O3,Wc⟩:=au.keysOf;obtain rfl:es=Sz:=by rw[hD]at O3;simpa using O3
 first
 |clear pp193;have nD:(cm xs).Perm (strKeys D0):=by
   rw[hD];refine perm_strKeys V_ (fun p hp=>by obtain ⟨v,hv⟩:=Wc p hp;obtain ⟨x,_,hx,_⟩:=Maps.keyOf_str Tryz.underlying9 hv;exact ⟨x,hx⟩) (j9 (sL xs)) (fun x=>?_);rw[dL,<-hD,oM]
  refine (aL.1 cS).mono ?_;rintro e w' ⟨v,ss,rfl,hS,dp,O4,hb⟩;have lZ:ss.Perm (cm xs):=hS.trans nD.symm;have jo:ss.length=(cm xs).length:=lZ.length_eq;refine ⟨v,rfl,⟨?_,?_⟩,((ak _ W).alloc (aF _) _).trans (hb.mono (by simp))⟩
  ·rw[zk lZ,jo]at dp;exact ownsRow_base_a dp (by simp)
  ·rw[O4];constructor
   ·intro h;rw[h]at jo;exact jj jo.symm
   ·intro h;rw[h]at jo;exact jj jo
 |have oM:∀ x:Str,Maps.has D0 (.string x)=true ↔ x∈l.map (·.1):=fun x=>by
   cases hg:getB l x with
   | none=>rw[(hx x).1 hg];simp only[bZ,false_iff];exact (gQ l x).1 hg
   | some a=>
    have h1:x∈l.map (·.1):=by
     by_cases h:x∈l.map (·.1)
     ·exact h
     ·rw[(gQ l x).2 h]at hg;cases hg
    exact ⟨fun _=>h1,fun _=>((hx x).2 a hg).1⟩
  have nD:(cm (l.map (·.1))).Perm (strKeys D0):=by
   rw[hD];refine perm_strKeys V_ (fun p hp=>by obtain ⟨v,hv⟩:=Wc p hp;obtain ⟨x,_,hx,_⟩:=Maps.keyOf_str Tryz.underlying9 hv;exact ⟨x,hx⟩) (j9 (sL _)) (fun x=>?_);rw[dL,<-hD,oM]
  refine (aL.1 cS).mono ?_;rintro e w' ⟨v,ss,rfl,hS,dp,O4,hb⟩;have lZ:ss.Perm (cm (l.map (·.1))):=hS.trans nD.symm;have jo:ss.length=(cm (l.map (·.1))).length:=lZ.length_eq;have hu:=EX hup;refine ⟨v,rfl,⟨?_,?_⟩,((ak _ W).alloc (aF _) _).trans (hb.mono (by simp))⟩
  ·rw[zk lZ,jo,hu]at dp;exact ownsRow_base_a dp (by simp)
  ·rw[O4];rw[hu]at jo;constructor
   ·intro h;rw[h]at jo;exact jj jo.symm
   ·intro h;rw[h]at jo;exact jj jo):G:=h
theorem pm194(h:G:=by
 have hr:r.length<=1000000000:=by simp at hn;omega
 have hs:=g_ (63 :: r);have hx:=jz 63 r;simp at hs hx;have h1:((1:Int)<=((63 :: r).length:Int)):=by simp;omega
 first
 |clear pp194;clear h hp;go_enter Tryz.func123,Tryz.ntmps123;go_wp2_with (first | (go_at_call 191;refine (CP.o _).mono ?_;rintro e w' ⟨rfl,rfl⟩) | (go_at_call 152;refine (iI r _ hr).mono ?_;rintro e w' ⟨rfl,hb⟩));go_ret;exact ⟨rfl,hb⟩
 |clear h
  first
  |clear pp107;go_enter Tryz.func65,Tryz.ntmps65;go_wp2_with (first | (go_at_call 119;refine (C1.o _).mono ?_;rintro e w' ⟨rfl,hb⟩) | (go_at_call 120;refine (nc r _ hr).mono ?_;rintro e OJ ⟨rfl,bF⟩));go_ret;exact ⟨by simp,hb.trans (bF.mono hb.size)⟩
  |go_enter Tryz.func67,Tryz.ntmps67;go_wp2_with (first | (go_at_call 119;refine (C1.o _).mono ?_;rintro e w' ⟨rfl,hb⟩) | (go_at_call 121;refine (lF r _ hr).mono ?_;rintro e OJ ⟨rfl,bF⟩));go_ret;exact ⟨by simp,hb.trans (bF.mono hb.size)⟩):G:=h
theorem pm195(h:G:=by
 clear hS xb k0 r0 mlt hlk oZ GW hg LS dK jf hF cb ar Qq ck Qr hbk;have jH:=eU;go_wp2;clear dk;refine (wpIn_wide (n:=3)).1 ?_;refine lV S 12 dW fun jO bW=>?_
 first
 |clear pp195;refine bL 0 19 (.pointer (some ⟨w.heap.size+1,0,none⟩)) rfl bW fun cF=>?_
  simp only[ag];refine dm 1 20 (.slice ra j rc) rfl (fun V hX=>by obtain ⟨h0,h1,h2⟩:=ff V hX;go_simp) cF fun fI=>?_;simp only[ag];refine bL 2 21 (.string ⟨nm.toArray⟩) rfl fI fun gO=>?_;simp only[ag];refine bL 3 22 (.pointer (some ⟨kb,0,none⟩)) rfl gO fun iX=>?_;simp only[ag];refine bL 4 23 (.pointer (some ⟨kb,0,none⟩)) rfl iX fun jQ=>?_;simp only[ag];refine bL 5 24 (.pointer (some ⟨kb,0,none⟩)) rfl jQ fun kf=>?_;simp only[ag];refine dm 6 25 (.map (some mF)) rfl (fun V hX=>by obtain ⟨h0,h1,h2⟩:=ff V hX;go_simp) kf fun mK=>?_;simp only[ag];refine bL 7 26 (.string ⟨nm.toArray⟩) rfl mK fun sg=>?_;simp only[ag];refine dm 8 27 (.agg #[.int .u8 g0,.string g1,.slice g2 g3 g4,.slice g5 g6 g7]) rfl (fun V hX=>by obtain ⟨h0,h1,h2⟩:=ff V hX;go_simp) sg fun JT=>?_;simp only[ag];refine ce 9 rfl fun K hK=>?_;go_simp;refine aL.2 ((HC.o _ (by have h:=bW;rw[du.o]at h;exact h)).mono ?_);rintro _ A ⟨⟨p0,p1,p2,p3,p4,p5,p6,p7⟩,rfl,hp,hA⟩;have pp85:=();exact pm85
 |refine bL 0 45 (.pointer (some ⟨w.heap.size+1,1,none⟩)) rfl bW fun cF=>?_
  simp only[ag];refine dm 1 46 (.slice ra j rc) rfl (fun V hX=>by obtain ⟨h0,h1,h2⟩:=ff V hX;go_simp) cF fun fI=>?_;simp only[ag];refine bL 2 47 (.string ⟨nm.toArray⟩) rfl fI fun gO=>?_;simp only[ag];refine bL 3 48 (.pointer (some ⟨kb,0,none⟩)) rfl gO fun iX=>?_;simp only[ag];refine bL 4 49 (.pointer (some ⟨kb,0,none⟩)) rfl iX fun jQ=>?_;simp only[ag];refine bL 5 50 (.pointer (some ⟨kb,1,none⟩)) rfl jQ fun kf=>?_;simp only[ag];refine dm 6 51 (.map (some mT)) rfl (fun V hX=>by obtain ⟨h0,h1,h2⟩:=ff V hX;go_simp) kf fun mK=>?_;simp only[ag];refine bL 7 52 (.string ⟨nm.toArray⟩) rfl mK fun sg=>?_;simp only[ag];refine dm 8 53 (.agg #[.bool g0,.string g1,.slice g2 g3 g4]) rfl (fun V hX=>by obtain ⟨h0,h1,h2⟩:=ff V hX;go_simp) sg fun JT=>?_;simp only[ag];refine ce 9 rfl fun K hK=>?_;go_simp;refine aL.2 ((HC.o _ (by have h:=bW;rw[du.o]at h;exact h)).mono ?_);rintro _ A ⟨⟨p0,p1,p2,p3,p4⟩,rfl,hp,hA⟩;exact pm85):G:=h
theorem pm196(h:G:=by
 have l2:=(hlk (W1.alloc (.cells #[.int .u8 0,.string ⟨#[]⟩,.slice none 0 0,.slice none 0 0] 36)).drew (bK _ _ _ (by have:=td.fs.lt;omega))).1
 first
 |clear pp196;obtain ⟨W2,bl⟩:=ao (W1.alloc (.cells #[.int .u8 0,.string ⟨#[]⟩,.slice none 0 0,.slice none 0 0] 36)).drew;have HE:=ab (show R=(k,71) by rw[HR.o];simp only[hg]);have cJ:=ab (show Below W.heap.size W W2 by rw[bl];exact hb1.tr om.drew);clear qI hR hp R5 R4 R6 Xa Xb hs hf gI lh hc dV dT jh rP qw hl iF bR hb1 iq aA lq qh z6 ry FM td hlk hg om fL IU ES aO xy GZ Ou x1;have pp146a:=();exact pm146
 |obtain ⟨W2,bl⟩:=ao (W1.alloc (.cells #[.int .u8 EG,.string EH,.slice EI EJ EK,.slice EL EM EN] 36)).drew;have bF:Below W1.heap.size W1 W2:=by rw[bl];exact cQ.drew
  have wD:=hb1.tr bF;have x2:W2.heap[W1.heap.size]?=some (.cells #[.int .u8 EG,.string EH,.slice EI EJ EK,.slice EL EM EN] 36 (0,0)):=by rw[bl];exact aj rfl
  have xp:=bT bF x1;obtain ⟨I,hI⟩:=ao (kv ps.reverse [] F);have J2:=HR.o;rw[hg,<-hI]at J2;simp only at J2;have CI:=Dj ⟨⟨16,⟨n.toArray⟩,sa,n1,sc,sb,m1,se⟩,⟨fo,fn,fa,fl,fc,fb,fm,fe⟩,ca,cl,cc⟩ ps hl iF F aA [] [] (by have:=aA.1;simp;omega) (fun _=>rfl) (.slice none 0 0) (fun b=>¬M b) W2 ⟨fo,fn,fa,fl,fc,fb,fm,fe⟩ (hc.1.later wD) (Dx _) (hf.later wD);rw[<-hI]at CI;simp only[PlQ.val,PlQ.cells,FQ.val]at CI;have HC:=ab CI;have gV:W1.heap.size<W2.heap.size:=(bn x2);have SU:gC (fun b=>¬M b) (fun b=>¬M b/\b≠W1.heap.size) W1 W2:=fun b hb hlt=>⟨⟨hb,by omega⟩,bF.block b hlt⟩
  have yt:=aC GW (oZ.move SU);have x_:=fA td.ltb td.fs.lt td.ts.lt gV iq;have Nv:=ab z6;have H2:=cC bF wD x2 xp;have HK2:=ab (td.move SU (bF.block _ td.ltb) (bF.block _ td.fs.lt) (bF.block _ td.ts.lt));have UT:=ab (show ∀ im,I=some im->goodF im from fun im h=>GO HP.o (by rw[<-hI];exact h));have Kh:=ab J2;clear qI hR hp R5 R4 R6 Xa Xb hs hf gI lh hc dV dT jh rP qw hl iF bR hb1 iq aA lq qh z6 ry FM td hlk hg om fL IU ES aO xy GZ Ou x1 CI J2 hI oZ GW bF wD x2 xp gV SU;have pp146b:=();exact pm146):G:=h
theorem pm197(h:G:=by
 have l2:=(hlk (W5.alloc (.cells #[.int .u8 0,.string ⟨#[]⟩,.slice none 0 0,.slice none 0 0] 36)).drew (bK _ _ _ (by have:=jA.fs.lt;omega))).1
 first
 |clear pp197;obtain ⟨W6,cP⟩:=ao (W5.alloc (.cells #[.int .u8 0,.string ⟨#[]⟩,.slice none 0 0,.slice none 0 0] 36)).drew;have kH:Below W5.heap.size W5 W6:=by rw[cP];exact bi.drew
  have Cf:Below W6.heap.size W6 W6.drew:=(ak _ _).drew;have PR:=(jA.later kH).later Cf;obtain ⟨w7,cV,zU,oh,Nb⟩:=PR.storeF (fun h=>h HG.o.1) (by have:=HB.o.1;omega) (x:=n) (by have:=HF.o.2.2.1;omega) ((GV.later kH).later Cf) UT.o (l':=iE n im k.fs) (fun y=>zT hg y);have zaS:Kp (N2 mF mT) W6.drew w7:=oh.mono (fun b _ h=>.inl h);have r0:=aa kH g0;have r1:=aa Cf r0;have r2:=aa kH g2;have r3:=aa Cf r2;obtain ⟨q0,q1,q2,q3,_,_,_,_⟩:=dh x7;have r4:=aa kH q0;have r5:=aa Cf r4;have r6:=aa kH q1;have r7:=aa Cf r6;have r8:=aa kH q2;have r9:=aa Cf r8;have r10:=aa kH q3;have r11:=aa Cf r10;have HE:=ab (show R=({ k with fs:=iE n im k.fs },0) by rw[J2];simp only[hg]);have U6:=aC zU ((Kp.below (((H3.o.1.tr nq).tr kH).tr Cf)).trans zaS);unfold FQ.val at cV;clear jA hlk PR zU oh zaS Nb hg nq pU bi kH Cf x7 GV J2 eK Jr;go_region
  all_goals
   rw[<-cP];clear cP;go_wp2;go_region;go_wp2;go_ret;exact StepPost.good (nF+1) nT HE.o U6.o.2 (by omega) (by omega) U6.o.1
 |obtain ⟨W6,cP⟩:=ao (W5.alloc (.cells #[.int .u8 EG,.string EH,.slice EI EJ EK,.slice EL EM EN] 36)).drew;have kH:Below W5.heap.size W5 W6:=by rw[cP];exact cQ.drew
  have x6:W6.heap[W5.heap.size]?=some (.cells #[.int .u8 EG,.string EH,.slice EI EJ EK,.slice EL EM EN] 36 (0,0)):=by rw[cP];exact aj rfl
  obtain ⟨q0,q1,q2,q3,_,_,_,_⟩:=dh x7;obtain ⟨r0,r1,r2,r3⟩:=nb kH q0 q1 q2 q3;obtain ⟨r4,r5,r6,r7,_,_,_,_⟩:=dh x6;have CA:=uG g im [] (.slice none 0 0) _ _ W6 ⟨EG,EH,EI,EJ,EK,EL,EM,EN⟩ ⟨p0,p1,p2,p3,p4,p5,p6,p7⟩ (by have:=GW.nodes;simp[gJ];omega) GW.fit (oZ.later kH) (GV.later kH) (PairsV.nil W6);simp only[FQ.val,List.reverse_nil]at CA;have HE:=ab (show R=if eB [] g im then (k,0) else (k,70) by rw[J2];simp only[hg]);obtain ⟨bb,cK⟩:=ao (eB [] g im);rw[<-cK]at HE CA;have EO:=ab CA;have Cd:=aC (jA.later kH) ((H3.o.1.tr nq).tr kH);clear jA hlk hg nq pU bi kH x7 x6 GV J2 eK Jr CA cK oZ GW;go_region
  all_goals
   rw[<-cP];clear cP;cases bb
   ·go_wp2_with (go_at_call 92;refine EO.o.mono ?_;rintro e w7 ⟨rfl,fD⟩;have H7:=ab fD;clear fD);go_ret;exact StepPost.bad HE.o (by decide) (Kp.below (Cd.o.2.tr H7.o))
   ·go_wp2_with (go_at_call 92;refine EO.o.mono ?_;rintro e w7 ⟨rfl,fD⟩;have H7:=ab fD;clear fD);go_ret;exact StepPost.good nF nT HE.o (Kp.below (Cd.o.2.tr H7.o)) (by omega) (by omega) (Cd.o.1.later H7.o)):G:=h
theorem pm198(h:G:=by
 obtain ⟨b1,o1,⟨xv,xn,xa,xl,xc⟩,rfl,hok,hx,c0,c1,c2⟩:=Xj.o.get ic
 first
 |clear pp198a;simp only at c0 c1 c2;obtain ⟨d0,d1,d2⟩:=kB ar c0 c1 c2;have pp99a:=();exact pm99
 |clear pp198b;have ws:=ar;simp only at c0 c1 c2;obtain ⟨d0,d1,d2⟩:=kB ws c0 c1 c2;have pp99b:=();exact pm99
 |clear pp198c;have ws:=H2.o.1.tr ar;simp only at c0 c1 c2;obtain ⟨d0,d1,d2⟩:=kB ws c0 c1 c2;have pp99c:=();exact pm99
 |have ws:=H2.o.1.tr ar;simp only at c0 c1 c2;obtain ⟨d0,d1,d2⟩:=kB ws c0 c1 c2;have pp99d:=();exact pm99):G:=h
theorem pm199(h:G:=by
 obtain ⟨k,hk,rfl,hj,bj⟩:=hrel
 by_cases hlt:k<m0
 first
 |clear pp199a
  ·have br:=ct ib.o hlt;obtain ⟨b,off,u,rfl,ja,hu,c0,c1,c2,c3⟩:=fP.o.get br;have pp280b:=();exact pm280
  ·obtain rfl:k=m0:=by omega
   have ht:s.take k=s:=by rw[ib.o];exact cO
   rw[ht]at hj;have HH:=aC hj bj;clear hj bj ht;gi_wp2;go_ret;exact ⟨rfl,HH.o.1,HH.o.2⟩
 |clear pp199b
  ·have br:=ct ib.o hlt;have pp27a:=();exact pm27
  ·obtain rfl:m0=k:=by omega
   have pp158:=();exact pm158
 |clear pp199c
  ·have br:=ct ib.o hlt;have pp27b:=();exact pm27
  ·obtain rfl:m0=k:=by omega
   have pp158:=();exact pm158
 |clear pp199d
  ·have br:=ct ib.o hlt;have pp27c:=();exact pm27
  ·obtain rfl:m0=k:=by omega
   exact pm158
 |clear pp199e
  ·have br:=ct ib.o hlt;exact pm27
  ·obtain rfl:m0=k:=by omega
   exact pm158
 |clear pp199f
  ·have wQ:k<ss.length:=by have:=ib.o;omega
   have pp96:=();exact pm96
  ·obtain rfl:k=m0:=by omega
   exact pm122
 |·have wQ:k<ss.length:=by have:=ib.o;omega
   exact pm96
  ·obtain rfl:k=m0:=by omega
   exact pm122):G:=h
theorem pm200(h:G:=by
 go_enter Tryz.func14,Tryz.ntmps14;go_wp2;go_ret;exact ⟨by rw[HE.o];rfl,by rw[<-HWW.o];exact iW.o.1⟩):G:=h
theorem pm201(h:G:=by
 have HF:=ab hf;have CR:=ab (fun w:World=>hr ▸ eE s w)
 first
 |clear pp201a;have CF:=ab (fun w:World=>hf ▸ Lh s[0].toNat w);clear hr hf;have pp44a:=();exact pm44
 |clear pp201b;have CF:=ab (fun w:World=>hf ▸ Lh s[0].toNat w);clear hr hf;have pp44b:=();exact pm44
 |clear pp201c;have CF:=ab (fun w:World=>hf ▸ F2 s[0].toNat w);clear hr hf;have pp44e:=();exact pm44
 |clear pp201d;have CF:=ab (fun w:World=>hf ▸ F2 s[0].toNat w);clear hr hf;have pp44f:=();exact pm44
 |clear pp201e;have CF:=ab (fun w:World=>hf ▸ yU s[0].toNat w);clear hr hf;have pp44g:=();exact pm44
 |have CF:=ab (fun w:World=>hf ▸ yU s[0].toNat w);clear hr hf;exact pm44):G:=h
theorem pm202(h:G:=by
 go_loopw [67] (fun i wr=>∃k:Nat,k<=k0/\i=.int .i64 k/\Below W2.heap.size W2 wr/\R=dH ps.reverse (xa.drop k) (ya.drop k)) (fun i _=>k0 - (intOf i).toNat)
 first
 |clear pp202
  case atStart=>exact ⟨0,bc _,rfl,(ak _ _),by simpa using HMt.o⟩
  case round=>
   exact pm10
 |case atStart=>exact ⟨0,bc _,rfl,Zl.o,by simpa using HMt.o⟩
  case round=>
   exact pm10):G:=h
theorem pm203(h:G:=by
 obtain ⟨a,cap,qs,hv,hc,hs,hf⟩:=h;refine ⟨a,cap,qs,hv,hc,?_,fun j hj=>(hf j hj).move hb⟩;rcases hs with hs | ⟨b,off,ha,hok,hcl⟩
 ·exact .inl hs
 first
 |clear pp203
  ·by_cases h0:l=[]
   ·exact .inl h0
   ·have hk:=hb b hok (World.block_lt_of_cell? W _ (hcl 0 (ie.2 h0)).1);refine .inr ⟨b,off,ha,hk.1,fun j hj=>?_⟩;obtain ⟨h0,h1,h2,h3,h4⟩:=hcl j hj;exact ⟨de hk.2 h0,de hk.2 h1,de hk.2 h2,de hk.2 h3,de hk.2 h4⟩
 |·by_cases h0:l=[]
   ·exact .inl h0
   ·have hk:=hb b hok (World.block_lt_of_cell? W _ (hcl 0 (ie.2 h0)).1);refine .inr ⟨b,off,ha,hk.1,fun j hj=>?_⟩;obtain ⟨h0,h1,h2,h3⟩:=hcl j hj;exact ⟨de hk.2 h0,de hk.2 h1,de hk.2 h2,de hk.2 h3⟩):G:=h
theorem pm204(h:G:=by
 obtain ⟨e0,e1,e2,_⟩:=fX H1.o.2.1;simp only[TQ.val];go_enter Tryz.func248,Tryz.ntmps248
 first
 |clear pp204;exact pm140
 |go_upto_region 1 with fail;rw[<-iW.o];exact pm59):G:=h
theorem pm205(h:G:=by
 obtain ⟨g,hg⟩:=Classical.axiomOfChoice hC;refine ⟨a0,cap,g,rfl,hlc,?_,fun j hj=>(hg j hj).2⟩;rcases hs with hs | ⟨b,off,ha,hc⟩
 ·exact .inl hs
 first
 |clear pp205
  ·refine .inr ⟨b,off,ha,trivial,fun j hj=>?_⟩;have c:=fun k hk=>hc j hj k hk;rw[(hg j hj).1]at c;exact ⟨c 0 (by omega),c 1 (by omega),c 2 (by omega),c 3 (by omega),c 4 (by omega)⟩
 |·refine .inr ⟨b,off,ha,trivial,fun j hj=>?_⟩
   have c:=fun k hk=>hc j hj k hk;rw[(hg j hj).1]at c;exact ⟨c 0 (by omega),c 1 (by omega),c 2 (by omega),c 3 (by omega)⟩):G:=h
theorem pm206(h:G:=by
 go_enter Tryz.func21,Tryz.ntmps21;go_wp2;go_ret;exact ⟨by rw[HZ.o];rfl,by rw[<-gF.o];exact HE.o.1⟩):G:=h
theorem pm207(h:G:=by
 have HX:=bE AC kl h3;clear h2 h3 h4 hd dt AC kl hD;gi_wp2_with fail;refine ei (B:=w.heap.size) HX.o.2.1 (fun w' hn=>?_);have h0:=hn.cell (ah HX.o.2.2 0)
 first
 |clear pp207;exact ⟨.int .i64 72,by simp[results,Tryz.results71,go_sem,h0],by rw[HE.o],jp HX.o.1 hn⟩
 |exact ⟨.int .i64 6,by simp[results,Tryz.results71,go_sem,h0],by rw[HE.o],jp HX.o.1 hn⟩):G:=h
theorem pm208(h:G:=by
 obtain ⟨a,cap,qs,hv,hc,hs,hf⟩:=h;refine ⟨a,cap,qs,hv,hc,?_,fun j hj=>(hf j hj).nw hn⟩;rcases hs with hs | ⟨b,off,ha,hok,hcl⟩
 ·exact .inl hs
 first
 |clear pp208
  ·refine .inr ⟨b,off,ha,hok,fun j hj=>?_⟩;obtain ⟨h0,h1,h2,h3,h4⟩:=hcl j hj;exact ⟨hn.cell h0,hn.cell h1,hn.cell h2,hn.cell h3,hn.cell h4⟩
 |·refine .inr ⟨b,off,ha,hok,fun j hj=>?_⟩
   obtain ⟨h0,h1,h2,h3⟩:=hcl j hj;exact ⟨hn.cell h0,hn.cell h1,hn.cell h2,hn.cell h3⟩):G:=h
theorem pm209(h:G:=by
 obtain ⟨e0,e1,e2,_⟩:=fX H1.o.2.1;simp only[TQ.val];go_enter Tryz.func197,Tryz.ntmps197
 first
 |clear pp209;have pp140:=();exact pm140
 |go_upto_region 1 with fail;rw[<-iW.o];have pp59:=();exact pm59):G:=h
theorem pm210(h:G:=by
 intro l J Jx W hk hM hl Zi hJ _ hY hj;have RZ:=(bn hX);have yd:=(hk.same X RZ IK).trans hX
 first
 |clear pp210a;have c0:W.cell? ⟨X,0,none⟩=some (.bool q.v):=ah yd 0;have c1:W.cell? ⟨X,1,none⟩=some (.string q.n):=ah yd 1;have c2:W.cell? ⟨X,2,none⟩=some (.slice q.a q.l q.c):=ah yd 2;have OX:∀ b,M b->b<W.heap.size:=fun b hb=>bN (hM b hb) hk.size;have CC:=BE t aA M B l J (aN t) [] W q OX hJ (fun pre vs x W1 h1 h2 h3 h4=>by
   obtain ⟨fn,tmps,assign,body,hy,hR⟩:=hY pre vs x W1 h1 h2 h3 h4;refine ⟨fn,tmps,assign,body,hy,hR.mono ?_⟩;rintro e W' (h | ⟨h,_⟩)
   ·exact h
   ·exact h.elim) (hq.kp hk) (by simp) hj
  have HC:=ab CC;clear CC hY hJ hj hX yd hq OX;unfold TQ.val at HC;go_enter Tryz.func270,Tryz.ntmps270;go_wp2_with (go_at_call 214;refine HC.o.mono ?_;rintro e W2 ⟨rfl,sH,fW⟩);exact ⟨rfl,.tuple #[],by simp[results,Tryz.results270,go_sem],⟨_,rfl⟩,.inl ⟨by simpa using sH,fW⟩⟩
 |clear pp210b;have pp79a:=();exact pm79
 |have pp79b:=();exact pm79):G:=h
theorem pm211(h:G:=by
 obtain ⟨es,hk,ho,ht⟩:=h;exact ⟨es,hk,bh ho hb,fun j h1 h2=>⟨(ht j h1 h2).1,(ht j h1 h2).2.move (fun b hok hlt=>⟨hok,hb b hok.1 hlt⟩)⟩⟩):G:=h
theorem pm212(h:G:=by
 simp only[rY,ae,bw]at h;have h1:=h.2.2.1.1;have:(c == 63)=false:=by
  rw[Bool.eq_false_iff];intro h2;rw[fY]at h2;subst h2;exact absurd h1 (by decide)
 first
 |clear pp212;simp[dZ,this]
 |simp[da,dA,cW,this]):G:=h
theorem pm213(h:G:=by
 subst ks;injection hv with hv _ hc;injection hv with hv;injection hv with hv;subst hv;subst hc;refine ⟨_,_,rfl,hn,.inr ⟨g,0,rfl,fun j hj=>?_⟩⟩
 first
 |clear pp213;have hf:(sS l)[j]?=some (.int .i64 (l[j]:Nat)):=by simp[sS,hj]
  rw[<-hx]at hf;have k0:(cur.toList.take (l.length * 1))[j]?=cur[j]?:=by rw[List.getElem?_take,aX (by omega)];simp
  rw[k0]at hf;rw[Nat.zero_add];exact (aH hg _).trans hf
 |have hf:=wg ps j hj;rw[<-hx]at hf;have k0:(cur.toList.take (ps.length * 2))[j * 2]?=cur[j * 2]?:=by rw[List.getElem?_take,aX (by omega)];simp
  have k1:(cur.toList.take (ps.length * 2))[j * 2+1]?=cur[j * 2+1]?:=by rw[List.getElem?_take,aX (by omega)];simp
  rw[k0,k1]at hf;exact ⟨by rw[Nat.zero_add];exact (aH hg _).trans hf.1,by rw[Nat.zero_add];exact (aH hg _).trans hf.2⟩):G:=h
theorem pm214(h:G:=by
 have cb:((a.map (eT f)).take k).length=k:=by rw[dX];have:=dJ.o;simp;omega
 have j4:(a.map (eT f)).take k=(a.map (eT f)):=ii (by have:=dJ.o;simp;omega)
 first
 |clear pp214;have pp15c:=();exact pm15
 |have pp15b:=();exact pm15):G:=h
theorem pm215(h:G:=by
 obtain ⟨yv,yn,ya⟩:=u;obtain ⟨s1,h1,fL⟩:=aV.1 hq;obtain ⟨s2,h2,Jv⟩:=aV.1 oy;obtain ⟨uv,un,ua,ul,uc⟩:=q;obtain ⟨vv,vn,va,vl,vc⟩:=q'
 first
 |clear pp215;have pp76b:=();exact pm76
 |have pp76c:=();exact pm76):G:=h
theorem pm216(h:G:=by
 go_wp2;go_roundw
 case rel=>exact ⟨k+1,by omega,by omega,by go_num,by rw[vS s k ej hlt,HA.o,HP.o];rfl,C5 HW.o _⟩
 case measure=>simp[intOf];omega):G:=h
theorem pm217(h:G:=by
 exact ⟨trivial,((Kp.below H4.o.1).trans Bt).from _,rfl,by rw[uR HG.o.1];exact LU.o.symm,iQ H4.o.2,(HG.o.2.2.trans (Kp.below H4.o.1)).trans Bt⟩):G:=h
theorem pm218(h:G:=by
 obtain ⟨bb,off,⟨qo,qn,qa,ql,qc,qb,qm,qe⟩,rfl,hok,hf,c0,c1,c2,c3,c4⟩:=WR.o.get br
 first
 |clear pp218a;have nl:=H2.o.1.tr ar;obtain ⟨d0,d1,d2,d3,d4⟩:=zai nl c0 c1 c2 c3 c4;obtain ⟨nm,dK⟩:=ao (b.fs[k].1);obtain ⟨g,hg⟩:=ao (b.fs[k].2);rw[Dy br,<-dK,<-hg]at gt;rw[<-dK]at d0;have LK:=HP.o _ (az br);rw[<-hg]at hf LK;have pp102b:=();exact pm102
 |clear pp218b;have pp131:=();exact pm131
 |have nl:=H1.o.1.tr ar;obtain ⟨d0,d1,d2,d3,d4⟩:=zai nl c0 c1 c2 c3 c4;obtain ⟨nm,dK⟩:=ao (b.fs[k].1);obtain ⟨g,hg⟩:=ao (b.fs[k].2);have lZ:=HP.o.1 _ (az br);rw[<-dK]at d0;rw[<-dK,<-hg]at lZ;rw[<-hg]at hf;exact pm102):G:=h
theorem pm219(h:G:=by
 obtain ⟨k,hk,rfl,row,us,hF,zE,BU⟩:=hrel;have ar:=hF.below Pm.o.1 (by omega);obtain ⟨ra,rc,rfl⟩:=hF.row.slice;rw[BU]at hF
 by_cases hlt:k<m0
 first
 |clear pp219
  ·have dG:=ct ib.o hlt;have pp54:=();exact pm54
  ·obtain rfl:k=m0:=by omega
   exact pm120
 |·have dG:=ct ib.o hlt;exact pm54
  ·obtain rfl:k=m0:=by omega
   exact pm120):G:=h
theorem pm220(h:G:=by
 obtain ⟨a,cap,vs,hv,hs,h⟩:=h;refine ⟨a,cap,vs,hv,?_,fun j hj=>(h j hj).move hb⟩;exact pm292):G:=h
