/-L-/
import Derived.Test.YtokemihbkeddoaaGreatDoorQ00
namespace Go.Proofs.YtokemihbkeddoaaGreatDoor
open Go Go.RowKit Lib
set_option maxRecDepth 100000
variable{G:Prop}
theorem qjG(h:G:=by
 gi_wp2_with fail;refine aO.2 (MR.o.mono ?_);rintro e iz ⟨rfl,nX⟩;clear e0 e1 e2 e3;have B_:=ae (show W1.heap.size<=iz.heap.size from aR TT nX.size);have x0:=bY nX HE.o.1;have x1:=bY nX HE.o.2.1
 first
 |clear qyx;have xu:=bY nX HE.o.2.2.1;have x2:=bY nX HE.o.2.2.2.1;have rv:=ae (HE.o.2.2.2.2.tr nX);have Λ:=ae (HR.o.below nX);have⟨QS,ze4,XJ⟩:=cU x1 xu x0;clear HE HR nX TT
  cases td:br qo with
  |false=>
   have Ah:Hd (RS=.mk qo n (a.map (nl nx z)) (s.map (h_ kk nx z))):=ae (by rw[Z9.o,Aa td];rfl);have p3:iz.cell? ⟨w.heap.size,3,none⟩=some (.slice qb m0 qe):=ao x0 3;have s9:=ae (ce.start (R:=w.heap.size+1+1+1) (mk:=fun rr=>#[.int .u8 qo,.string ⟨n.toArray⟩,.slice fN k1 fO,rr]) (Row:=fun r W=>eO iz.heap.size r ((s.map (h_ kk nx z)).take 0) W) x2 (eO.nil _ _));clear x0 x1 xu x2 td;gi_wp2;gi_loopw [90] (fun i wr=>∃k:Nat,k<=m0/\i=.int .i64 k/\∃row,ce 36 (w.heap.size+1+1+1) iz.heap.size (fun rr=>#[.int .u8 qo,.string ⟨n.toArray⟩,.slice fN k1 fO,rr]) (fun r W=>eO iz.heap.size r ((s.map (h_ kk nx z)).take k) W) iz wr row) (fun i _=>m0-(intOf i).toNat)
   case atStart=>exact⟨0,bn _,rfl,_,s9.o⟩
   case round=>
    obtain⟨k,hk,rfl,row,hF⟩:=hrel;have aD:=hF.below rv.o ((by omega))
    by_cases hlt:k<m0
    ·have dG:=cG gT.o hlt;have qyy:=();exact qaM
    ·obtain rfl:k=m0:=by omega
     exact qjH
  |true=>
   obtain⟨rfl,g,rfl⟩:=HQs.o td;obtain rfl:m0=1:=gT.o;obtain rfl:k1=0:=dN.o;have qyz:=();exact qjI
 |have x2:=bY nX HE.o.2.2.1;have rv:=ae (HE.o.2.2.2.tr nX);have Λ:=ae (HR.o.below nX);have⟨QS,XJ,zfP⟩:=cU x1 x0 x2;clear HE HR nX TT
  cases td:br so with
  |false=>
   have Ah:Hd (RS=.mk so n (a.map (dK kd.ts c)) (ss.map (dF kd c))):=ae (by rw[Z9.o,YT Ie.o.1 Ie.o.2 td]);have p3:iz.cell? ⟨w.heap.size,3,none⟩=some (.slice sb m1 se):=ao x0 3;have zaU:=ae (ce.start (R:=w.heap.size+1+1) (mk:=fun rr=>#[.int .u8 so,.string ⟨n.toArray⟩,.slice fN k1 fO,rr]) (Row:=fun r W=>eO iz.heap.size r ((ss.map (dF kd c)).take 0) W) x2 (eO.nil _ _));clear x0 x1 x2 td;gi_wp2;gi_loopw [121] (fun i wr=>∃k:Nat,k<=m1/\i=.int .i64 k/\∃row,ce 36 (w.heap.size+1+1) iz.heap.size (fun rr=>#[.int .u8 so,.string ⟨n.toArray⟩,.slice fN k1 fO,rr]) (fun r W=>eO iz.heap.size r ((ss.map (dF kd c)).take k) W) iz wr row) (fun i _=>m1-(intOf i).toNat)
   case atStart=>exact⟨0,bn _,rfl,_,zaU.o⟩
   case round=>
    obtain⟨k,hk,rfl,row,hF⟩:=hrel;have aD:=hF.below rv.o (by omega)
    by_cases hlt:k<m1
    ·have dG:=cG I'.o hlt;exact qaM
    ·obtain rfl:k=m1:=by omega
     have cr:((ss.map (dF kd c)).take k).length=k:=by rw[dO];have:=I'.o;simp;omega
     have jW:(ss.map (dF kd c)).take k=(ss.map (dF kd c)):=gB (by have:=I'.o;simp;omega);exact qa5
  |true=>
   obtain⟨rfl,g,rfl⟩:=HQs.o td;obtain rfl:m1=1:=I'.o;obtain rfl:k1=0:=sU.o;exact qjI):G:=h
theorem qgZ(h:G:=by
 have hlen:=aI.args.len;have mn:=aI.name;have⟨el,lH,gZ,PC⟩:=f8 bN aI.args ih dz;have⟨k0,cD⟩:=az a.length;rw[<-cD]at hlen;have dN:=ae cD;clear hq bN aI ih dz;unfold TQ.val;rw[<-cD];clear cD
 first
 |clear qr1
  cases qv with
  |false=>
   have hp:ep f (.mk false n a)=.mk false n (a.map (ep f)):=by simp[ep,gJ]
   rw[hp];clear hp;exact qgy
  |true=>
   cases vD:f n with
   |none=>
    have hp:ep f (.mk true n a)=.mk true n (a.map (ep f)):=by simp[ep,gJ,vD]
    rw[hp];clear hp;have qyA:=();exact qgx
   |some u=>
    have hp:ep f (.mk true n a)=u:=by simp[ep,vD]
    rw[hp];clear hp;have hcu:=hC n u vD;exact qgx
 |cases qv with
  |false=>
   have hp:dK kd.ts sc (.mk false n a)=.mk false n (a.map (dK kd.ts sc)):=by simp[dK,rU]
   rw[hp];clear hp;exact qi5
  |true=>
   have⟨X,hX⟩:=az ((w.alloc (.cells #[.bool true,.string ⟨n.toArray⟩,.slice qa k0 qc] 43)).alloc (.cells #[.bool false,.string ⟨#[]⟩,.slice none 0 0] 43));have Tv:=mo hX;have y1:=kv hX;have y0:=sx hX;have uX:=zP hX;have wO:=ae (lS n X (by omega));have HY:=gN Tv y1 y0 uX (PC.o.tr Tv);have HX:=ae hX;clear Tv y1 y0 uX hX
   cases rd:eA n with
   |false=>
    rw[rd]at wO
    cases wM:sc.contains n with
    |false=>
     have hp:dK kd.ts sc (.mk true n a)=.mk true n (a.map (dK kd.ts sc)):=by
      have h2:¬n∈sc:=by simpa using wM
      simp[dK,rU,rd,h2]
     have qyB:=();exact qi4
    |true=>
     have hp:dK kd.ts sc (.mk true n a)=bj (cg n):=by
      have h2:n∈sc:=by simpa using wM
      simp[dK,rd,h2]
     exact qi4
   |true=>
    rw[rd]at wO;have hp:dK kd.ts sc (.mk true n a)=b8 kd.ts n:=by simp[dK,rd]
    rw[hp];clear hp rd;have⟨u,hu⟩:=az (b8 kd.ts n);rw[<-hu];have HU:=ae hu;clear hu;have jq:=fP;obtain⟨e0,e1,e2,_⟩:=ir HY.o.2.2.1;rw[HX.o]at e0 e1 e2;go_enter func127,ntmps127;go_upto_region 1 with fail;go_upto_region 2 with(go_at_call 119;rw[<-HX.o];refine wO.o.mono ?_;rintro e w3 ⟨rfl,aS⟩;have y1:=(aS.block _ (by have:=HY.o.2.2.2.1;omega)).trans HY.o.2.1;have y0:=(aS.block _ (by have:=HY.o.2.2.2.1;omega)).trans HY.o.2.2.1;have sP:=aS.size;have p_:=HY.o.2.2.2.1;have Nz:w.heap.size+2<=w3.heap.size:=(by omega);have bV:=cH (HY.o.1.tr aS) y1 y0 (HY.o.2.2.2.2.tr aS);clear aS sP p_ y1 y0);clear e0 e1 e2;have nL:=MZ.o.later bV.o.2.2.2;exact qjo):G:=h
theorem qjf(h:G:=by
 have iZ:(p1==p1)=true:=by first|(simp;done)|simpa using ha
 have lw:(p2==yn)=false:=by first|(simp;done)|simpa using hb
 have HE:=ae (show R=false by rw[HM.o,ht];simp[lw]);clear ht;go_wp2
 first
 |clear up;have up:=();exact qac
 |go_ret;exact qdX):G:=h
theorem qjg(h:G:=by
 have iZ:(p1==xn)=false:=by first|(simp;done)|simpa using ha
 have lw:(p2==p2)=true:=by first|(simp;done)|simpa using hb
 have HE:=ae (show R=false by rw[HM.o,ht];simp[iZ]);clear ht;go_wp2
 first
 |clear up;have up:=();exact qac
 |go_ret;exact qdX):G:=h
theorem qfg(h:G:=by
 have e1:decide ((ag t:Int)<=400)=decide (ag t<=400):=by rw[iM];simp;omega
 have e2:decide (1+(a_ t:Int)<=40+1)=decide (a_ t<=40):=by rw[iM];simp;omega
 rw[e1,e2];rfl):G:=h
theorem qdl(h:G:=by
 have lj:=cG gT.o hlt;have aD:=jb.o.trans (dS.mono jb.o.size);have qrJ:=();exact qa8):G:=h
theorem qb1(h:G:=by
 exact .inr ⟨b,off,ha,hk.1,fun j hj=>(hc j hj).kept hk.2⟩):G:=h
theorem qcE(h:G:=by
 go_enter func17,ntmps17
 first
 |clear an;go_wp2_with (go_at_call 19;refine(CT.o _ HB.o).mono ?_;rintro e w1 ⟨rfl,hb1⟩;have H1:=ae hb1;clear hb1);exact qjJ
 |go_wp2;go_ret;exact⟨rfl,HB.o⟩):G:=h
theorem qje(h:G:=by
 have iZ:(p1==p1)=true:=by first|(simp;done)|simpa using ha
 have lw:(p2==p2)=true:=by first|(simp;done)|simpa using hb
 have HE:=ae (show R=true by rw[HM.o,ht];simp);clear ht;go_wp2
 first
 |clear up;have up:=();exact qac
 |go_ret;exact qdX):G:=h
theorem qjK(h:G:=by
 have FF:(la=none/\l0=0/\lc=0)\/∃b off,la=some ⟨b,off,none⟩:=by
  rcases vG with⟨h1,h2,h3⟩|⟨b,off,h1,_⟩
  ·exact .inl ⟨h2,by rw[wL,h1];rfl,h3⟩
  ·exact .inr ⟨b,off,h1⟩
 first
 |clear qyC;subst FY;have hold:((.slice la l0 l0:Value)=.slice none 0 0/\l0=0/\L.map encStr=[])\/∃b,(.slice la l0 l0:Value)=.slice (some b) l0 l0/\(L.map encStr).length=l0*1/\∀j u,(L.map encStr)[j]?=some u->(X4.alloc (.cells #[.string ⟨n.toArray⟩] 9)).drew.cell? (b.add j)=some u:=by
   rcases vG with⟨h1,h2,h3⟩|⟨b,off,h1,h4⟩
   ·refine .inl ⟨?_,by rw[wL,h1];rfl,by rw[h1];rfl⟩;rw[h2,wL,h1];rfl
   ·refine .inr ⟨⟨b,off,none⟩,by rw[h1],by rw[List.length_map,wL];omega,fun j u hu=>?_⟩;rw[List.getElem?_map]at hu
    by_cases hj:j<L.length
    ·rw[jn hj]at hu;rw[uJ];refine(aa (((ar X4.heap.size X4).alloc (aK _) _).drew) (h4 j hj)).trans ?_;rw[<-hu];rfl
    ·rw[List.getElem?_eq_none (by omega)]at hu;cases hu
  have⟨TI,HSh,HL0⟩:=cU hold FF wL;have qyD:=();exact qjL
 |have HSh:=ae FF;have zfQ:=ae (show ¬lc<l0 by rw[wL];omega);have HL0:=ae wL;have HG:=gN (hg.later rv.o) (aa rv.o c0) (aa rv.o c1) (aa rv.o c2) (aa rv.o c3);have HQq:=ae td;clear hg c0 c1 c2 c3 vG FF wL td x0 x1 x2;gi_wp2_with fail;obtain ⟨Φ,ky⟩:∃Φ:Nat->Value->Bx->World->Prop,Φ=fun k=>(match k with
   |0=>fun v _ _=>v=.pointer (some ⟨kb,0,none⟩)
   |1=>fun v _ _=>v=.pointer (some ⟨w.heap.size,3,none⟩)
   |2=>fun v _ _=>v=.slice (some ⟨b,off,none⟩) 1 se
   |3=>fun v _ _=>v=.pointer (some ⟨b,off,none⟩)
   |4=>fun v _ _=>v=.agg #[.int .u8 go,.string gn,.slice ga gl gc,.slice gb gm ge]
   |5=>fun v _ _=>v=.slice la l0 lc
   |6=>fun v _ _=>v=.slice la l0 lc
   |7=>fun v _ _=>v=.int .i64 (l0:Int)
   |8=>fun v _ _=>v=.slice la l0 lc
   |9=>fun v _ _=>v=.int .i64 (l0:Int)
   |10=>fun v _ _=>v=.slice la l0 l0
   |11=>fun v _ _=>v=.pointer (some ⟨w.heap.size,1,none⟩)
   |12=>fun v _ _=>v=.string ⟨n.toArray⟩
   |13=>Lb (W1.heap.size<=·) #[.string ⟨n.toArray⟩] 9 1
   |14=>DS (L++[n])
   |15=>gV (W1.heap.size<=·) (dF kd (n::c) g)
   |16=>DT #[.int .u8 0,.string ⟨#[]⟩,.slice none 0 0,.slice none 0 0] 36
   |17=>fun _ γ w=>NM (fun cs γ w=>∃q:FQ,cs=#[.int .u8 q.o,.string q.n,.slice q.a q.l q.c,.slice q.b q.m q.e]/\aC (nu (W1.heap.size<=·) γ w) w q.val (dF kd (n::c) g)) 36 γ w
   |_=>fun _ _ _=>True):=⟨_,rfl⟩
  have cV:∀k v γ w eZ w',Gr γ w eZ w'->Φ k v γ w->Φ k v eZ w':=by
   intro k v γ wz eZ wz' hG;rw[ky]
   match k with
   |0=>exact id
   |1=>exact id
   |2=>exact id
   |3=>exact id
   |4=>exact id
   |5=>exact id
   |6=>exact id
   |7=>exact id
   |8=>exact id
   |9=>exact id
   |10=>exact id
   |11=>exact id
   |12=>exact id
   |13=>exact Lb.step hG
   |14=>exact DS.step hG
   |15=>exact gV.step hG
   |16=>exact DT.step hG
   |17=>exact NM.step (fun cs ⟨q,e,h⟩=>⟨q,e,h.move hG.holds⟩) hG
   |k+18=>exact id
  refine kZ Φ (Z4 16 17) (IG (fun _=>False) iz.drew) Gr (none,false) (by kernel_rfl) rfl (by kernel_rfl) ⟨Kp.refl _,(fun _ h=>by cases h),fun _ h=>h.elim⟩ (fun k _=>⟨fun _=>rfl,fun _=>rfl⟩) (fun _ _ _ _ hG h=>h.step hG) cV ?steps ?fin
  case steps=>
   intro k hk
   match k,hk with
   |0,_=>
    refine d_ rfl rfl jq rfl (fun a γ wz bq=>⟨rfl,.pointer (some ⟨kb,0,none⟩),γ,wz,?_,Gr.refl,fun _ _ h=>h,?_⟩)
    ·have e0:a.tmps.getD 0 undef=.pointer (some ⟨kb,0,none⟩):=bL ((bq.ou 0 rfl).trans rfl);go_simp
    ·rw[ky];exact rfl
   |1,_=>
    refine d_ rfl rfl jq rfl (fun a γ wz bq=>⟨rfl,.pointer (some ⟨w.heap.size,3,none⟩),γ,wz,?_,Gr.refl,fun _ _ h=>h,?_⟩)
    ·have e4:a.tmps.getD 4 undef=.pointer (some ⟨w.heap.size,0,none⟩):=bL ((bq.ou 4 rfl).trans rfl);go_simp
    ·rw[ky];exact rfl
   |2,_=>
    refine d_ rfl rfl jq rfl (fun a γ wz bq=>⟨rfl,.slice (some ⟨b,off,none⟩) 1 se,γ,wz,?_,Gr.refl,fun _ _ h=>h,?_⟩)
    ·obtain⟨v83,t83,f83⟩:=bq.val 1 _ 83 rfl rfl (by kernel_rfl);rw[ky]at f83;obtain rfl:=f83;have e83:=bL t83;have c:=bq.inv.1.cell (fun h=>h) (show iz.drew.cell? ⟨w.heap.size,3,none⟩=_ from ao XJ.o 3);go_simp
    ·rw[ky];exact rfl
   |3,_=>
    refine d_ rfl rfl jq rfl (fun a γ wz bq=>⟨rfl,.pointer (some ⟨b,off,none⟩),γ,wz,?_,Gr.refl,fun _ _ h=>h,?_⟩)
    ·obtain⟨v84,t84,f84⟩:=bq.val 2 _ 84 rfl rfl (by kernel_rfl);rw[ky]at f84;obtain rfl:=f84;have e84:=bL t84;go_simp
    ·rw[ky];exact rfl
   |4,_=>
    refine d_ rfl rfl jq rfl (fun a γ wz bq=>⟨rfl,.agg #[.int .u8 go,.string gn,.slice ga gl gc,.slice gb gm ge],γ,wz,?_,Gr.refl,fun _ _ h=>h,?_⟩)
    ·obtain⟨v85,t85,f85⟩:=bq.val 3 _ 85 rfl rfl (by kernel_rfl);rw[ky]at f85;obtain rfl:=f85;have e85:=bL t85;have c0:=bq.inv.1.cell (fun h=>h) (show iz.drew.cell? _=_ from HG.o.2.1);have c1:=bq.inv.1.cell (fun h=>h) (show iz.drew.cell? _=_ from HG.o.2.2.1);have c2:=bq.inv.1.cell (fun h=>h) (show iz.drew.cell? _=_ from HG.o.2.2.2.1);have c3:=bq.inv.1.cell (fun h=>h) (show iz.drew.cell? _=_ from HG.o.2.2.2.2);go_simp
    ·rw[ky];exact rfl
   |5,_=>
    exact qdo
   |6,_=>
    exact qdo
   |7,_=>
    have up:=();exact qjM
   |8,_=>
    exact qdo
   |9,_=>
    exact qjM
   |10,_=>
    refine d_ rfl rfl jq rfl (fun a γ wz bq=>⟨rfl,.slice la l0 l0,γ,wz,?_,Gr.refl,fun _ _ h=>h,?_⟩)
    ·obtain⟨v87,t87,f87⟩:=bq.val 5 _ 87 rfl rfl (by kernel_rfl);rw[ky]at f87;obtain rfl:=f87;have e87:=bL t87;obtain⟨v89,t89,f89⟩:=bq.val 7 _ 89 rfl rfl (by kernel_rfl);rw[ky]at f89;obtain rfl:=f89;have e89:=bL t89;obtain⟨v91,t91,f91⟩:=bq.val 9 _ 91 rfl rfl (by kernel_rfl);rw[ky]at f91;obtain rfl:=f91;have e91:=bL t91;have yA:=zfQ.o;rcases HSh.o with⟨rfl,rfl,rfl⟩|⟨b,off,rfl⟩<;>go_simp
    ·rw[ky];exact rfl
   |11,_=>
    refine d_ rfl rfl jq rfl (fun a γ wz bq=>⟨rfl,.pointer (some ⟨w.heap.size,1,none⟩),γ,wz,?_,Gr.refl,fun _ _ h=>h,?_⟩)
    ·have e4:a.tmps.getD 4 undef=.pointer (some ⟨w.heap.size,0,none⟩):=bL ((bq.ou 4 rfl).trans rfl);go_simp
    ·rw[ky];exact rfl
   |12,_=>
    refine d_ rfl rfl jq rfl (fun a γ wz bq=>⟨rfl,.string ⟨n.toArray⟩,γ,wz,?_,Gr.refl,fun _ _ h=>h,?_⟩)
    ·obtain⟨v93,t93,f93⟩:=bq.val 11 _ 93 rfl rfl (by kernel_rfl);rw[ky]at f93;obtain rfl:=f93;have e93:=bL t93;have c:=bq.inv.1.cell (fun h=>h) (show iz.drew.cell? ⟨w.heap.size,1,none⟩=_ from ao XJ.o 1);go_simp
    ·rw[ky];exact rfl
   |13,_=>
    refine d_ rfl rfl jq rfl (fun a γ wz bq=>⟨rfl,.slice (some ⟨wz.heap.size,0,none⟩) 1 1,γ,wz.alloc (.cells #[.string ⟨n.toArray⟩] 9),?_,Gr.keep dp,fun _ _ h=>h,?_⟩)
    ·obtain⟨v94,t94,f94⟩:=bq.val 12 _ 94 rfl rfl (by kernel_rfl);rw[ky]at f94;obtain rfl:=f94;have e94:=bL t94;go_simp
    ·rw[ky];exact Lb.new bq.inv (fun b hb=>aR (aR B_.o bq.inv.1.size) hb) _ _ _
   |14,_=>
    refine d_ rfl rfl jq rfl (fun a γ wz bq=>?_);obtain⟨v92,t92,f92⟩:=bq.val 10 _ 92 rfl rfl (by kernel_rfl);rw[ky]at f92;obtain rfl:=f92;have e92:=bL t92;obtain⟨v95,t95,f95⟩:=bq.val 13 _ 95 rfl rfl (by kernel_rfl);rw[ky]at f95;obtain⟨rb,rfl,hrb,hrc⟩:=f95;have e95:=bL t95;obtain⟨v',w',hr,sH,YD,hlo⟩:=AD wz n rb hrc la l0 lc L HL0.o (by have:=HL.o.2.1;omega) (HL.o.1.later (rv.o.tr ((ar _ _).drew.tr bq.inv.1.empty))) 66;refine⟨rfl,v',γ,w',?_,Gr.keep YD,fun _ _ h=>h,?_⟩
    ·simp[execOp,resolve,invoke,builtin,Act.eval,e92,e95,hr,Result.andThen]
    ·rw[ky];exact⟨sH,fun b hb=>(nu.new (L:=fun _=>True) bq.inv (fun _ _=>trivial) b (hlo b hb).1 (hlo b hb).2).1⟩
   |15,_=>
    refine GG rfl rfl jq rfl rfl (fun a γ wz bq=>?_);obtain⟨v82,t82,f82⟩:=bq.val 0 _ 82 rfl rfl (by kernel_rfl);rw[ky]at f82;obtain rfl:=f82;have e82:=bL t82;obtain⟨v86,t86,f86⟩:=bq.val 4 _ 86 rfl rfl (by kernel_rfl);rw[ky]at f86;obtain rfl:=f86;have e86:=bL t86;obtain⟨v96,t96,f96⟩:=bq.val 14 _ 96 rfl rfl (by kernel_rfl);rw[ky]at f96;have e96:=bL t96;have OG:=(ar iz.heap.size iz).drew.tr bq.inv.1.empty;refine⟨rfl,72,#[.pointer (some ⟨kb,0,none⟩),.agg #[.int .u8 go,.string gn,.slice ga gl gc,.slice gb gm ge],v96],?_,?_⟩
    ·go_simp
    ·refine aO.2 ((gZ.o g (by simp) (n :: c) (L ++ [n]) _ wz v96 ⟨go,gn,ga,gl,gc,gb,gm,ge⟩ (HL.o.2.2.2.tr (rv.o.tr OG)) f96.1 (by have:=HL.o.2.1;simp only[ei,fB,List.length_nil];simp only[ag,ah]at this;omega) (fun y=>by
      have:=HL.o.2.2.1 y;rw[List.contains_cons,<-this,iM];simp only[List.contains_iff_mem,List.mem_append,dc,List.not_mem_nil,or_false,Bool.or_eq_true,ef];exact Or.comm) (HG.o.1.later OG)).mono ?_)
     rintro e w' ⟨⟨q,rfl,hq⟩,SC⟩;exact⟨q.val,rfl,γ,Gr.keep SC,fun _ _ h=>h,by rw[ky];exact gV.new bq.inv (fun b hb=>aR (aR B_.o bq.inv.1.size) hb) hq⟩
   |16,_=>
    refine d_ rfl rfl jq rfl (fun a γ wz bq=>⟨rfl,.pointer (some ⟨wz.heap.size,0,none⟩),(some wz.heap.size,false),wz.alloc (.cells #[.int .u8 0,.string ⟨#[]⟩,.slice none 0 0,.slice none 0 0] 36),?_,yC _ (bq.psi.1 rfl),uK,?_⟩)
    ·go_simp
    ·rw[ky];exact yD
   |17,_=>
    refine ow rfl jq rfl (fun a γ wz bq=>?_);obtain⟨v97,t97,f97⟩:=bq.val 15 _ 97 rfl rfl (by kernel_rfl);rw[ky]at f97;obtain⟨q,rfl,hq⟩:=f97;have e97:=bL t97;obtain⟨v13,TY,f13⟩:=bq.val 16 _ 13 rfl rfl (by kernel_rfl);rw[ky]at f13;obtain⟨bb,rfl,hb1,bU,aS⟩:=f13;have e13:=bL TY;obtain⟨Qn,RW⟩:=γ;obtain rfl:RW=false:=bq.psi.2 rfl;simp only at hb1;subst hb1;have x:=aS rfl;obtain⟨c0,c1,c2,c3,z0,z1,z2,z3⟩:=dw x;have k6:=ev (W:=wz) (b:=bb) (v0:=.int .u8 q.o) (v1:=.string q.n) (v2:=.slice q.a q.l q.c) (v3:=.slice q.b q.m q.e);have x6:=nJ (v0:=.int .u8 q.o) (v1:=.string q.n) (v2:=.slice q.a q.l q.c) (v3:=.slice q.b q.m q.e) x;refine⟨rfl,(some bb,true),_,?_,kn k6,oX,?_⟩
    ·simp only[FQ.val]at e97;go_simp
    ·rw[ky];exact⟨bb,_,rfl,x6,q,rfl,hq.move (kn k6).holds⟩
   |k+18,hk=>exact absurd hk (by simp)
  case fin=>
   intro a γ wz h;obtain⟨v82,t82,f82⟩:=h.get 0 _ 82 rfl rfl;rw[ky]at f82;obtain rfl:=f82;obtain⟨v83,t83,f83⟩:=h.get 1 _ 83 rfl rfl;rw[ky]at f83;obtain rfl:=f83;obtain⟨v84,t84,f84⟩:=h.get 2 _ 84 rfl rfl;rw[ky]at f84;obtain rfl:=f84;obtain⟨v85,t85,f85⟩:=h.get 3 _ 85 rfl rfl;rw[ky]at f85;obtain rfl:=f85;obtain⟨v86,t86,f86⟩:=h.get 4 _ 86 rfl rfl;rw[ky]at f86;obtain rfl:=f86;obtain⟨v87,t87,f87⟩:=h.get 5 _ 87 rfl rfl;rw[ky]at f87;obtain rfl:=f87;obtain⟨v88,t88,f88⟩:=h.get 6 _ 88 rfl rfl;rw[ky]at f88;obtain rfl:=f88;obtain⟨v89,t89,f89⟩:=h.get 7 _ 89 rfl rfl;rw[ky]at f89;obtain rfl:=f89;obtain⟨v90,t90,f90⟩:=h.get 8 _ 90 rfl rfl;rw[ky]at f90;obtain rfl:=f90;obtain⟨v91,t91,f91⟩:=h.get 9 _ 91 rfl rfl;rw[ky]at f91;obtain rfl:=f91;obtain⟨v92,t92,f92⟩:=h.get 10 _ 92 rfl rfl;rw[ky]at f92;obtain rfl:=f92;obtain⟨v93,t93,f93⟩:=h.get 11 _ 93 rfl rfl;rw[ky]at f93;obtain rfl:=f93;obtain⟨v94,t94,f94⟩:=h.get 12 _ 94 rfl rfl;rw[ky]at f94;obtain rfl:=f94;obtain⟨v95,t95,f95⟩:=h.get 13 _ 95 rfl rfl;rw[ky]at f95;obtain⟨v96,t96,f96⟩:=h.get 14 _ 96 rfl rfl;rw[ky]at f96;obtain⟨v97,t97,f97⟩:=h.get 15 _ 97 rfl rfl;rw[ky]at f97;obtain⟨v13,TY,f13⟩:=h.get 16 _ 13 rfl rfl;rw[ky]at f13;have fs:=h.did 17 _ rfl rfl;rw[ky]at fs;obtain⟨bb,cs,hγ,Bo,q,rfl,hq⟩:=fs;obtain⟨b2,rfl,hb1,_,_⟩:=f13;rw[hγ]at hb1;cases hb1;subst hγ;have ha:=h.act [(82,_),(83,_),(84,_),(85,_),(86,_),(87,_),(88,_),(89,_),(90,_),(91,_),(92,_),(93,_),(94,_),(95,_),(96,_),(97,_),(13,_)] rfl (by simp only[dc,List.not_mem_nil,or_false,forall_eq_or_imp,forall_eq];exact⟨t82,t83,t84,t85,t86,t87,t88,t89,t90,t91,t92,t93,t94,t95,t96,t97,TY⟩);rw[ha];have zdq:=h.inv.1.empty;have h0b:=h.inv.2.1;clear ha h cV t82 t83 t84 t85 t86 t87 t88 t89 t90 t91 t92 t93 t94 t95 t96 t97 TY;simp only[List.foldl_cons,List.foldl_nil,List.setIfInBounds_toArray,List.set_cons_zero,List.set_cons_succ];have⟨G,YW⟩:=az (dF kd (n::c) g);have hgk:=(sd Ie.o.1 Ie.o.2 HP.o.2.2.1).2;have U5:ud kd [g]<=1000:=by have:=HP.o.2.2.2.1;unfold ze at this;omega
   have QT:dJ true [g]=true:=by have:=HP.o.1;simp only[gF,ak]at this;exact this.2.2.2.2
   have hbd:=pT HP.o.2.2.2.2.1 HP.o.2.2.2.2.2 [g] (n::c) QT hgk U5;have CG:=t_ HP.o.2.2.2.2.1 [g] (n::c) QT hgk;simp only[iD,ah,eu,Bool.and_true,gy,hO,<-YW]at hbd CG;rw[<-YW]at hq;have zdr:RS=rk so n [] G:=by rw[Z9.o,YU Ie.o.1 Ie.o.2 HQq.o,<-YW]
   have OG:Below iz.heap.size iz wz:=(ar _ _).drew.tr zdq;have hGn:ag G<=1000:=by omega
   have x0:=bY OG XJ.o;have x1:=bY OG QS.o;have x2:=bY OG zfP.o;have dz:iz.heap.size<=bb:=(h0b bb rfl).1.resolve_right (fun h=>h);have CF2:=tR G ⟨by omega,hbd.2⟩ (by omega) _ wz q hq;have qr:=cH hGn hbd.2 CG.1 CG.2;have HFq:=ae (hq.move (ok':=(W1.heap.size<=·)) (fun b hb _=>⟨hb.1,rfl⟩));have SG:=cH x0 x1 x2 Bo;have TE:=bS (rv.o.tr OG) dz (aR B_.o OG.size);have HRq:=ae zdr;simp only[FQ.val]at CF2;have FJ:=ae CF2;obtain⟨e0,e1,e2,e3,_,_,_,_⟩:=dw Bo;clear hgk U5 QT hbd CG hq zdr OG hGn x0 x1 x2 dz Bo CF2 zdq h0b YW gZ;have qyF:=();exact qjN):G:=h
theorem qcC(h:G:=by
 intro c L ok w vL q dz hL Yc Uv hq;obtain⟨so,sn,sa,sl,sc,sb,sm,se⟩:=q;obtain⟨v1,v2,h1,j7,oY⟩:=aX.1 hq
 first
 |clear qnU;have qss:=();exact qal
 |clear qnV;have qsu:=();exact qal
 |exact qal):G:=h
theorem qfl(h:G:=by
 have eg:∀args W,(callFunc 102 args).run prog W=.ok (.enter 102 args) W:=enters_of func102 (by kernel_rfl) rfl
 first
 |clear qnT;refine je rfl eg (fun b hb=>by have:=(YO.o b hb).2;have:=Nx.o.2.1;omega) zfF.o (fun _ _ _ h=>by obtain⟨q,ps,rfl,_⟩:=h;rfl)
   (fun pre X=>pre.any YK=false/\X.heap[w.heap.size+1+1]?=some (.cells #[.int .i64 0] 30 (0,0))/\Kp M1 V1 X)
   (fun c pre X=>c=.ret/\pre.any YK=true/\X.heap[w.heap.size+1+1]?=some (.cells #[.int .i64 6] 30 (0,0))/\Kp M1 V1 X)
   (fun s=>?hI1) (fun c s=>?hIx1) ⟨rfl,Nx.o.2.2.2,Kp.refl _⟩ ?round1 ?done1 ?stop1
  case hI1=>
   exact qjO
  case hIx1=>
   exact qdY
  case round1=>
   have qyG:=();exact qjP
  case done1=>
   rintro D X hD ⟨h1,h2,h3⟩ hkX hd;have⟨X2,hX⟩:=az X;rw[<-hX]at h2 h3 hkX hd⊢;clear hX X;have E3:Below w.heap.size w X2:=en Nx.o.1 h3 (fun b hb=>(YO.o b hb).1);have mj:gW w.heap.size X2 _:=Hv1.o.2.more (w':=X2) (fun E hE hx=>(h3.same E (bQ hx) (fun hm=>by rw[I'.o]at hm;subst hm;rw[Nx.o.2.2.2]at hx;cases hx)).trans hx) hD (aR Nx.o.1.size hD) hd;have xkX:=(h3.same _ (bQ Nx.o.2.2.1) (fun h=>by have:=HMk.o;rw[I'.o]at h;omega)).trans Nx.o.2.2.1;have xsV:=bY Hv1.o.1 HU1.o.2.2.1;have xsX:=(h3.same _ (bQ xsV) (fun h=>by rw[I'.o]at h;omega)).trans xsV;have HA1:=ae h1;have vJ:=gN E3 xkX xsX h2 mj;have⟨d0,d1,d2,d3⟩:=pC xsX;clear h1 h2 h3 hkX hd E3 mj xkX xsV xsX hD;have⟨V2,hV2⟩:=az (jG X2 ⟨so,sn,sa,sl,sc,sb,sm,se⟩ ⟨so,sn,sa,sl,sc,sb,sm,se⟩);obtain⟨M2,hM2⟩:∃M:Nat->Prop,M=(fun b=>b=w.heap.size+1+1):=⟨_,rfl⟩;have ll:Below X2.heap.size X2 V2:=by rw[hV2];exact iJ _ _ _
   have iG:V2.heap.size=X2.heap.size+2:=by rw[hV2,mg]
   have xX2:V2.heap[X2.heap.size]?=some (.cells #[.int .u8 so,.string sn,.slice sa sl sc,.slice sb sm se] 36 (0,0)):=by rw[hV2];exact nC _ _ _
   have xY2:V2.heap[X2.heap.size+1]?=some (.cells #[.int .u8 so,.string sn,.slice sa sl sc,.slice sb sm se] 36 (0,0)):=by rw[hV2];exact nD _ _ _
   have YQ:=vJ.o.1.tr ll;have zfH:=(bQ vJ.o.2.2.2.1);have Vm:∀b,M2 b->w.heap.size<=b/\b<X2.heap.size:=fun b hb=>by rw[hM2]at hb;subst hb;omega
   have zbb:aC (fun b=>b<V2.heap.size/\¬M2 b) V2 (FQ.val ⟨so,sn,sa,sl,sc,sb,sm,se⟩) s:=HP.o.2.2.2.2.move (fun b hb hlt=>⟨⟨bP hb YQ.size,fun hm=>by have:=(Vm b hm).1;omega⟩,YQ.block b hlt⟩);have _D:=o9 s s HP.o.2.2.1 (by have:=HP.o.2.1;omega) M2 V2.heap.size X2.heap.size (X2.heap.size+1) V2 ⟨so,sn,sa,sl,sc,sb,sm,se⟩ ⟨so,sn,sa,sl,sc,sb,sm,se⟩ xX2 (fun h=>by have:=(Vm _ h).2;omega) xY2 (fun h=>by have:=(Vm _ h).2;omega) zbb zbb;have⟨zfI,RU,HM2⟩:=cU _D Vm hM2;have K6:=cH YQ iG (bY ll vJ.o.2.1) (bY ll vJ.o.2.2.2.1);have Hv2:=aM ll (vJ.o.2.2.2.2.move (fun D _ hd=>(ll.block D (bQ hd)).trans hd));have zfJ:=ae hV2;clear hV2 hM2 ll iG xX2 xY2 YQ zfH Vm zbb _D;gi_wp2_with fail;refine aO.2 ((o8 ⟨so,sn,sa,sl,sc,sb,sm,se⟩ ⟨so,sn,sa,sl,sc,sb,sm,se⟩ _).mono ?_);rintro e w' ⟨rfl,rfl⟩
   try clear d0 d1 d2 d3
   rw[<-zfJ.o];gi_wp2_with fail;have eg:∀args W,(callFunc 102 args).run prog W=.ok (.enter 102 args) W:=enters_of func102 (by kernel_rfl) rfl;refine je rfl eg (fun b hb=>by have:=(RU.o b hb).2;have:=K6.o.2.1;omega) zfI.o (fun _ _ _ h=>by obtain⟨q,ps,rfl,_⟩:=h;rfl)
    (fun pre X=>pre.any YM=false/\X.heap[w.heap.size+1+1]?=some (.cells #[.int .i64 0] 30 (0,0))/\Kp M2 V2 X)
    (fun c pre X=>c=.ret/\pre.any YM=true/\X.heap[w.heap.size+1+1]?=some (.cells #[.int .i64 72] 30 (0,0))/\Kp M2 V2 X)
    (fun s=>?hI2) (fun c s=>?hIx2) ⟨rfl,K6.o.2.2.2,Kp.refl _⟩ ?round2 ?done2 ?stop2
   case hI2=>
    exact qjO
   case hIx2=>
    exact qdY
   case round2=>
    exact qjP
   case done2=>
    rintro D X hD ⟨h1,h2,h3⟩ hkX hd;have⟨X3,hX⟩:=az X;rw[<-hX]at h2 h3 hkX hd⊢;clear hX X;have E3:Below w.heap.size w X3:=en K6.o.1 h3 (fun b hb=>(RU.o b hb).1);have mj:gW w.heap.size X3 _:=Hv2.o.2.more (w':=X3) (fun E hE hx=>(h3.same E (bQ hx) (fun hm=>by rw[HM2.o]at hm;subst hm;rw[K6.o.2.2.2]at hx;cases hx)).trans hx) hD (aR K6.o.1.size hD) hd;have xkX:=(h3.same _ (bQ K6.o.2.2.1) (fun h=>by have:=HMk.o;rw[HM2.o]at h;omega)).trans K6.o.2.2.1;have xsV:=bY Hv2.o.1 vJ.o.2.2.1;have xsX:=(h3.same _ (bQ xsV) (fun h=>by rw[HM2.o]at h;omega)).trans xsV;have HA2:=ae h1;have HUm:=gN E3 xkX xsX h2 mj;have⟨d0,d1,d2,d3⟩:=pC xsX;clear h1 h2 h3 hkX hd E3 mj xkX xsV xsX hD;have⟨nB,hnB⟩:=az X3.heap.size;have⟨X4,hX4⟩:=az (X3.alloc (.cells #[.int .i64 0] 3));have FZ:=dj hX4;have T1:X4.heap.size=nB+1:=by rw[hX4,hnB];simp
    have xn4:X4.heap[nB]?=some (.cells #[.int .i64 0] 3 (0,0)):=by rw[hX4,hnB];exact aq rfl
    have T3:=(bQ HUm.o.2.2.2.1);have HnB:=ae (show w.heap.size+1+1<nB/\nB+1=X4.heap.size by rw[T1,hnB];exact⟨T3,rfl⟩);have xs4:=bY FZ HUm.o.2.2.1;have HU3:=gN (HUm.o.1.tr FZ) (bY FZ HUm.o.2.1) xs4 ((FZ.block _ T3).trans HUm.o.2.2.2.1) (HUm.o.2.2.2.2.move (fun D _ hd=>(FZ.block D (bQ hd)).trans hd));have⟨HnU,HX4⟩:=bi xn4 hX4;clear d0 d1 d2 d3;have⟨d0,d1,d2,d3⟩:=pC xs4;rw[hX4]at d0 d1 d2 d3;have zfK:=ae hnB;clear hnB hX4 FZ T1 xn4 T3 xs4;have⟨V3,hV3⟩:=az (jG X4 ⟨so,sn,sa,sl,sc,sb,sm,se⟩ ⟨so,sn,sa,sl,sc,sb,sm,se⟩);obtain⟨M3,hM3⟩:∃M:Nat->Prop,M=(fun b=>b=w.heap.size+1+1\/b=nB):=⟨_,rfl⟩;have WZ:Below X4.heap.size X4 V3:=by rw[hV3];exact iJ _ _ _
    have sP:V3.heap.size=X4.heap.size+2:=by rw[hV3,mg]
    have xX3:V3.heap[X4.heap.size]?=some (.cells #[.int .u8 so,.string sn,.slice sa sl sc,.slice sb sm se] 36 (0,0)):=by rw[hV3];exact nC _ _ _
    have xY3:V3.heap[X4.heap.size+1]?=some (.cells #[.int .u8 so,.string sn,.slice sa sl sc,.slice sb sm se] 36 (0,0)):=by rw[hV3];exact nD _ _ _
    have YR:=HU3.o.1.tr WZ;have zfL:=(bQ HU3.o.2.2.2.1);have Vn:∀b,M3 b->w.heap.size<=b/\b<X4.heap.size:=fun b hb=>by rw[hM3]at hb;have:=HnB.o;rcases hb with rfl|rfl<;>omega
    have zbc:aC (fun b=>b<V3.heap.size/\¬M3 b) V3 (FQ.val ⟨so,sn,sa,sl,sc,sb,sm,se⟩) s:=HP.o.2.2.2.2.move (fun b hb hlt=>⟨⟨bP hb YR.size,fun hm=>by have:=(Vn b hm).1;omega⟩,YR.block b hlt⟩);have _E:=o9 s s HP.o.2.2.1 (by have:=HP.o.2.1;omega) M3 V3.heap.size X4.heap.size (X4.heap.size+1) V3 ⟨so,sn,sa,sl,sc,sb,sm,se⟩ ⟨so,sn,sa,sl,sc,sb,sm,se⟩ xX3 (fun h=>by have:=(Vn _ h).2;omega) xY3 (fun h=>by have:=(Vn _ h).2;omega) zbc zbc;have⟨zfM,YS,HM3⟩:=cU _E Vn hM3;have Vo:=cH YR sP (bY WZ HU3.o.2.1) (bY WZ HU3.o.2.2.2.1);have Hv3:=aM WZ (HU3.o.2.2.2.2.move (fun D _ hd=>(WZ.block D (bQ hd)).trans hd));have zfN:=ae hV3;have HnV:=ae (bY WZ HnU.o);clear hV3 hM3 WZ sP xX3 xY3 YR zfL Vn zbc _E;gi_wp2_with fail;refine aO.2 ((o8 ⟨so,sn,sa,sl,sc,sb,sm,se⟩ ⟨so,sn,sa,sl,sc,sb,sm,se⟩ _).mono ?_);rintro e w' ⟨rfl,rfl⟩
    try clear d0 d1 d2 d3
    rw[<-zfK.o,<-HX4.o];rw[<-zfN.o];gi_wp2_with fail;have eg:∀args W,(callFunc 102 args).run prog W=.ok (.enter 102 args) W:=enters_of func102 (by kernel_rfl) rfl;refine je rfl eg (fun b hb=>by have:=(YS.o b hb).2;have:=Vo.o.2.1;omega) zfM.o (fun _ _ _ h=>by obtain⟨q,ps,rfl,_⟩:=h;rfl)
     (fun pre X=>(pre.map JL).sum<=400/\X.heap[nB]?=some (.cells #[.int .i64 ((pre.map JL).sum:Nat)] 3 (0,0))/\X.heap[w.heap.size+1+1]?=some (.cells #[.int .i64 0] 30 (0,0))/\Kp M3 V3 X)
     (fun c pre X=>c=.ret/\400<(pre.map JL).sum/\X.heap[w.heap.size+1+1]?=some (.cells #[.int .i64 3] 30 (0,0))/\Kp M3 V3 X)
     (fun s=>?hI3) (fun c s=>?hIx3) ⟨by simp,by simpa using HnV.o,Vo.o.2.2.2,Kp.refl _⟩ ?round3 ?done3 ?stop3
    case hI3=>
     rintro X Y hn ⟨h1,h2,h3,h4⟩;exact⟨h1,hn.cells h2,hn.cells h3,qh h4 hn⟩
    case hIx3=>
     exact qdY
    case round3=>
     rintro lR pre vs x W hl Ce ⟨h1,h2,h3,h4⟩ ⟨q,ps,rfl,Ql,oe,xI,F_,hps⟩ J9 dU;have qqU:=();exact qa6
    case done3=>
     rintro D X hD ⟨h1,h2,h3,h4⟩ hkX hd;have HE:=ae (show R=0 by rw[HR.o,aw (by rw[<-YL.o,HA1.o];simp),aw (by have h:=HA2.o;rw[za9.o]at h;rw[h];simp),aw (by rw[<-zdm.o];omega)]);have an:=();exact qiN
    case stop3=>
     rintro D c pre X _ hD dU ⟨rfl,h2,h3,h4⟩ hd;exact qiN
   case stop2=>
    rintro D c pre X _ hD dU ⟨rfl,h2,h3,h4⟩ hd;have E3:Below w.heap.size w X:=en K6.o.1 h4 (fun b hb=>(RU.o b hb).1);have mj:gW w.heap.size X _:=Hv2.o.2.more (w':=X) (fun E hE hx=>(h4.same E (bQ hx) (fun hm=>by rw[HM2.o]at hm;subst hm;rw[K6.o.2.2.2]at hx;cases hx)).trans hx) hD (aR K6.o.1.size hD) hd;have HE:=ae (show R=72 by rw[HR.o,aw (by rw[<-YL.o,HA1.o];simp),aG (by have:=Qm dU h2;rwa [za9.o]at this)]);have up:=();exact qdx
  case stop1=>
   rintro D c pre X _ hD dU ⟨rfl,h2,h3,h4⟩ hd;have E3:Below w.heap.size w X:=en Nx.o.1 h4 (fun b hb=>(YO.o b hb).1);have mj:gW w.heap.size X _:=Hv1.o.2.more (w':=X) (fun E hE hx=>(h4.same E (bQ hx) (fun hm=>by rw[I'.o]at hm;subst hm;rw[Nx.o.2.2.2]at hx;cases hx)).trans hx) hD (aR Nx.o.1.size hD) hd;have HE:=ae (show R=6 by rw[HR.o,aG (by rw[<-YL.o];exact Qm dU h2)]);have it:=();exact qdx
 |first
  |clear qur;refine je rfl eg (fun b hb=>by have:=YF b hb;have:=jk.o;omega) HSq.o (fun _ _ _ h=>by obtain⟨q,ps,rfl,_⟩:=h;rfl)
    (fun pre X=>∃(k':Bd)(Bv yL:Nat),ek bc kj pre=(k',0)/\ly (fun b=>¬M b) dx dV X (K0+1+1+1) (K0+1) (K0+1+1) Bv yL k'/\Bv<=RP+pre.length/\yL<=RQ+pre.length*400/\bF k'=true/\X.heap[aB+1]?=some (.cells #[.int .i64 0] 30 (0,0))/\X.heap[aB]?=some (.cells #[.int .i64 0] 3 (0,0))/\Kp M pB X)
    (fun c pre X=>c=.exit 2/\∃(k':Bd)(er:Int),er≠0/\ek bc kj pre=(k',er)/\X.heap[aB+1]?=some (.cells #[.int .i64 er] 30 (0,0))/\X.heap[aB]?=some (.cells #[.int .i64 j] 3 (0,0))/\Kp M pB X)
    (fun s=>?hI) (fun c s=>?hIx) ⟨kj,RP,RQ,rfl,HI.o.1,by simp,by simp,HI.o.2.2.2.1,HI.o.2.1,HI.o.2.2.1,Kp.refl _⟩ ?round ?done ?stop
   case hI=>
    exact qjz
   case hIx=>
    exact qjQ
   case round=>
    have qyH:=();exact qjR
   case done=>
    exact qhc
   case stop=>
    have an:=();exact qjS
  |refine je rfl eg (fun b hb=>by have:=YF b hb;have:=jk.o;omega) HSq.o (fun _ _ _ h=>by obtain⟨q,ps,rfl,_⟩:=h;rfl)
    (fun pre X=>∃(k':Bd)(Bv yL:Nat),ek dE kj pre=(k',0)/\ly (fun b=>¬M b) dx dV X (K0+1+1+1) (K0+1) (K0+1+1) Bv yL k'/\Bv<=RP+pre.length/\yL<=RQ+pre.length*400/\bF k'=true/\X.heap[aB+1]?=some (.cells #[.int .i64 0] 30 (0,0))/\X.heap[aB]?=some (.cells #[.int .i64 0] 3 (0,0))/\Kp M pB X)
    (fun c pre X=>c=.exit 2/\∃(k':Bd)(er:Int),er≠0/\ek dE kj pre=(k',er)/\X.heap[aB+1]?=some (.cells #[.int .i64 er] 30 (0,0))/\X.heap[aB]?=some (.cells #[.int .i64 j] 3 (0,0))/\Kp M pB X)
    (fun s=>?hI) (fun c s=>?hIx) ⟨kj,RP,RQ,rfl,HI.o.1,by simp,by simp,HI.o.2.2.2.1,HI.o.2.1,HI.o.2.2.1,Kp.refl _⟩ ?round ?done ?stop
   case hI=>
    exact qjz
   case hIx=>
    exact qjQ
   case round=>
    exact qjR
   case done=>
    exact qhc
   case stop=>
    exact qjS):G:=h
theorem qjT(h:G:=by
 have qyJ:=();exact qjU):G:=h
theorem qjV(h:G:=by
 go_wp2;go_loopw [5] (fun i wr=>∃k:Nat,k<=k0/\i=.int .i64 k/\Below w.heap.size w wr/\l.take k=m.take k) (fun i _=>k0-(intOf i).toNat)
 case atStart=>exact⟨0,bn _,rfl,ar _ _,by simp⟩
 first
 |clear qyK
  case round=>
   have qyL:=();exact qaX
 |case round=>
   have qyM:=();exact qaX):G:=h
theorem qhU(h:G:=by
 have t1:(nx==ny)=false:=by simpa using nH
 have t2:(nx !=ny)=true:=by simpa using nH
 have HE3:=ae (Bl.o fun h=>by subst h;exact nH (congrArg Prod.fst (HX.o.1.trans HX.o.2.symm)));go_wp2
 first
 |clear quq;have qth:=();exact qac
 |refine(wpIn_wide (n:=3)).1 ?_;have qsz:=();exact qhe):G:=h
theorem qji(h:G:=by
 have x1:wr.cell? ⟨w.heap.size,1,none⟩=some (.string ⟨xn.toArray⟩):=aa dS (ao HX.o 1);have y1:wr.cell? ⟨w.heap.size+1,1,none⟩=some (.string ⟨yn.toArray⟩):=aa dS (ao HY.o 1)
 first
 |clear qyN;exact qdc
 |have hjj:(j:Int)<(p0:Int):=by omega
  have⟨oh,cR⟩:=bi dS aD;have Jn:w.heap.size<wr.heap.size:=k_ x1;have vC:w.heap.size+1<wr.heap.size:=k_ y1;have MO:b<wr.heap.size:=k_ f0;clear dS aD g0 g1 hpj
  by_cases ha:p1=xn<;>by_cases hb:p2=yn
  ·subst ha;subst hb;exact qje
  ·subst ha;exact qjf
  ·subst hb;exact qjg
  ·have iZ:(p1==xn)=false:=by simpa using ha
   exact qjh):G:=h
theorem qjW(h:G:=by
 have HZ:=ae (Xf AZ (xJ.o.2.1.trans bD) Kg gH eR CX zj);have Vf:=aM vh tC;have HN8:=ae hl;clear AZ bD Kg gH eR CX zj vh tC jm nX hu hu3;gi_wp2;refine o_.mk ?hT ?hr ?hm
 case hT=>kernel_rfl
 first
 |clear an
  case hr=>exact⟨0+1,by omega,by kernel_rfl,HZ.o.1,HZ.o.2.1,HZ.o.2.2.1,HZ.o.2.2.2.1,kj,RP,RQ,HZ.o.2.2.2.2.1,by have:=Vf.o.1;have:=U'.o.2.1;have:=HN8.o;omega,by have:=Vf.o.2;have:=U'.o.2.2;have:=HN8.o;omega,HZ.o.2.2.2.2.2.1,fun h=>absurd h (by decide),fun _=>by have:=qZ.o.1 (by simp);rw[this]at HZ;exact HZ.o.2.2.2.2.2.2,fun h=>absurd h (by decide)⟩
  case hm=>
   refine(show 2-(intOf (Value.int IntKind.i64 (1:Int))).toNat<2-(intOf (Value.int IntKind.i64 (0:Int))).toNat from ?_);simp[intOf]
 |case hr=>exact⟨1+1,by omega,by kernel_rfl,HZ.o.1,HZ.o.2.1,HZ.o.2.2.1,HZ.o.2.2.2.1,kj,RP,RQ,HZ.o.2.2.2.2.1,by have:=Vf.o.1;have:=U'.o.2.1;have:=HN8.o;omega,by have:=Vf.o.2;have:=U'.o.2.2;have:=HN8.o;omega,HZ.o.2.2.2.2.2.1,fun h=>absurd h (by decide),fun h=>absurd h (by decide),fun _=>⟨k,qZ.o.2.1 (by simp),HZ.o.2.2.2.2.2.2⟩⟩
  case hm=>
   refine(show 2-(intOf (Value.int IntKind.i64 (2:Int))).toNat<2-(intOf (Value.int IntKind.i64 (1:Int))).toNat from ?_);simp[intOf]):G:=h
theorem qei(h:G:=by
 rw[show(j+1)*4=j*4+1+1+1+1 by omega,show j*4+1+1+1+1+1=(j*4+1)+1+1+1+1 by omega,show j*4+1+1+1+1+2=(j*4+2)+1+1+1+1 by omega,show j*4+1+1+1+1+3=(j*4+3)+1+1+1+1 by omega]
 first
 |clear an;simpa using this
 |simpa[BT,TQ.cells]using this):G:=h
theorem qhy(h:G:=by
 go_simp;refine aO.2 ((gZ.o a[k] (aH dG) (lH.o.mem (aH dG)) _ W2.drew u (((PC.o.tr cR.o).tr cQ.o).tr (ar _ _).drew) (HU.o.later (cQ.o.drew))).mono ?_);rintro _ A ⟨⟨p,rfl,hp⟩,hA⟩
 first
 |clear qtK;have qyP:=();exact qak
 |have qyQ:=();exact qak):G:=h
theorem qaq(h:G:=by
 have CR:=ae (fun w:World=>hr▸gw s w)
 first
 |clear GB;have CF:=ae (fun w:World=>hf▸Pk s[0].toNat w);clear hr hf;have qqJ:=();exact qaf
 |clear I8;have CF:=ae (fun w:World=>hf▸Pk s[0].toNat w);clear hr hf;have qqL:=();exact qaf
 |clear it;clear hr;have qqM:=();exact qaf
 |clear Ss;have CF:=ae (fun w:World=>hf▸Kx s[0].toNat w);clear hr hf;have qqN:=();exact qaf
 |clear ZU;have CF:=ae (fun w:World=>hf▸Kx s[0].toNat w);clear hr hf;have qqP:=();exact qaf
 |clear qlT;have CF:=ae (fun w:World=>hf▸Da s[0].toNat w);clear hr hf;have qqQ:=();exact qaf
 |have CF:=ae (fun w:World=>hf▸Da s[0].toNat w);clear hr hf;exact qaf):G:=h
theorem qdZ(h:G:=by
 refine hK _ _ (fun _=>by rw[c9.o];exact H8.o.1) (fun _=>?_);clear hK K WV jc Li;refine cb 9 rfl fun K hK=>?_
 first
 |clear qyR;have qri:=();exact qaa
 |clear qyS;have qrf:=();exact qaa
 |have qrh:=();exact qaa):G:=h
theorem qjX(h:G:=by
 have⟨e0,e1⟩:=QN x0;have⟨e2,e3⟩:=QN x1;have gh:=ae bp;have HE:=gN ew e0 e1 e2 e3;have HQ:=cH (hq1.later ew) (FI.later ew) (Ny.later ew) (Xd.later ew);have HN:=cH eB jY jQ sK
 first
 |clear qyT;have HF:=aM hfx htx;have HR:=ae N8;rw[bp]at e0 e1 e2 e3;clear hq gY hq1 FI Ny Xd hfx htx N8 bp ew x0 x1 eB jY jQ sK;have iX:(¬x=y)->R=false:=fun h=>by
   cases hr:R with
   |false=>rfl
   |true=>exact absurd (HR.o.1 hr) h
  have Bl:=ae iX;clear iX
  by_cases h1:n1=m1
  case neg=>
   have t1:((n1:Int)==(m1:Int))=false:=by simp;omega
   have t2:((n1:Int)!=(m1:Int))=true:=by simp;omega
   have HE3:=ae (Bl.o fun h=>by subst h;exact h1 (by rw[HN.o.1,HN.o.2.2.1]));have qjw:=();exact qdS
  subst h1
  by_cases h2:n2=m2
  case neg=>
   have t1:((n2:Int)==(m2:Int))=false:=by simp;omega
   have t2:((n2:Int)!=(m2:Int))=true:=by simp;omega
   have HE3:=ae (Bl.o fun h=>by subst h;exact h2 (by rw[HN.o.2.1,HN.o.2.2.2]));have qjw:=();exact qdS
  subst h2;exact qdS
 |have HF:=gN hfx hfy htx hf hts;have Gk:=ae (ht.next ew);rw[bp]at e0 e1 e2 e3;clear hq gY hq1 FI Ny Xd hfx hfy htx hf hts ht bp ew x0 x1 eB jY jQ sK hl;go_enter func44,ntmps44;go_wp2;rw[<-gh.o];clear e0 e1 e2 e3;go_loopw [5] (fun i wr=>∃k:Nat,k<=n1/\i=.int .i64 k/\Below W2.heap.size W2 wr) (fun i _=>n1-(intOf i).toNat)
  case atStart=>exact⟨0,bn _,rfl,ar _ _⟩
  case round=>
   obtain⟨k,hk,rfl,aD⟩:=hrel
   by_cases hlt:k<n1
   case pos=>
    exact qjx
   obtain rfl:k=n1:=by omega
   have⟨d0,d1,d2⟩:=kB aD HE.o.2.1 HE.o.2.2.1 HE.o.2.2.2.2;have CC:=Sf ⟨[],x.ts⟩ ⟨[],y.ts⟩ (bn _) (by rw[<-HN.o.2.1];exact hx2) (fun f h=>by cases h) HF.o.2.2.1 ok ok' wr ⟨none,0,0,qb,n2,qe⟩ ⟨none,0,0,rb,n2,re⟩ ⟨Fk _ _,HQ.o.2.1.later aD⟩ ⟨Fk _ _,HQ.o.2.2.2.later aD⟩;have Ae:sameB ⟨[],x.ts⟩ ⟨[],y.ts⟩=true:=Ik.2 (by rw[HF.o.2.2.2.2]);rw[Ae]at CC;simp only[BQ.val]at CC;have HC:=ae CC;have HB:=ae (HE.o.1.tr aD);clear CC aD Ae;go_wp2_with (go_at_call 21;refine HC.o.mono ?_;rintro e w6 ⟨rfl,dh⟩;have H6:=ae (HB.o.tr dh);clear dh);go_ret;exact⟨rfl,H6.o⟩):G:=h
theorem qcW(h:G:=by
 exact qaY):G:=h
theorem qeY(h:G:=by
 have HB:=ae aD;clear CB aD iX hp hq c0 c1 hcs hps bA;go_wp2_with (go_at_call 228;refine HC.o.mono ?_;rintro e w4 ⟨rfl,aY⟩;have H4:=ae aY;clear aY)
 first
 |clear an;go_ret;exact⟨⟨_,rfl,by rw[HE.o];simp,by omega,by omega⟩,HB.o.tr H4.o⟩
 |exact qdO):G:=h
theorem qco(h:G:=by
 obtain⟨hl,h|⟨g',cap,cur,hv,_,hg,hn,_,_,hx⟩⟩:=h
 ·obtain⟨h,_⟩:=h;injection h with h;cases h
 first
 |clear an
  ·have jY:n=l.length:=by simp[wG]at hl;omega
   have up:=();exact qjY
 |clear it
  ·have jY:n=ps.length:=by rw[ip]at hl;omega
   exact qjY
 |·injection hv with _ _ hc;omega):G:=h
theorem qdT(h:G:=by
 simp only[gy,hO,Bool.and_true,bl]at hw hq1 hd;exact qdU):G:=h
theorem qgi(h:G:=by
 unfold FQ.val at hs;simp only[c_,Array.mk.injEq,cF,and_true,Value.int.injEq,true_and,Value.string.injEq]at hs;obtain⟨rfl,rfl,rfl,rfl⟩:=hs;obtain rfl:=bN.len;obtain rfl:=em.len
 first
 |clear qqD
  first
  |clear qxe;have hlen:=aI.args.len;have qyV:=();exact qdi
  |clear qme;have eN:=aI.subs.len;have oA:mK (.mk qo n a s)=[.mk qo n a s]++eK s:=by unfold mK;rfl
   rw[oA]at dU⊢;have⟨f,hf⟩:=az (Fm.mk qo n a s);rw[<-hf]at dU QV⊢;have qyW:=();exact qba
  |clear qm0;have CL:=fun(W:World)(hb:Below w.heap.size w W)=>vP a aI.args (fun t ht=>F' t (aI.args.mem ht)) ok W qa _ qc (bN.later hb);have CS:=fun(W:World)(hb:Below w.heap.size w W)=>F9 s aI.subs (fun t ht=>ih t ht (aI.subs.mem ht)) ok W qb _ qe (em.later hb);have qyX:=();exact qaQ
  |clear qxf;have hlen:=aI.args.len;have eN:=aI.subs.len;have mn:=aI.name;have⟨el,gD,xZ,sC⟩:=f8 bN em aI.args aI.subs;have qyY:=();exact qaQ
  |clear qnn;have eN:=aI.subs.len;have nH:=aI.1;have qY:=rT x (.mk qo n a s);have Cl:fD x (.mk qo n a s)=fV x a+jo x s:=rfl;have CT:=ae (fun(W:World)(hb:Below w.heap.size w W)=>vp x a ok W qa _ qc aI.args (bN.later hb));have qyZ:=();exact qba
  |clear qnN;have hlen:=aI.args.len;have eN:=aI.subs.len;have mn:=aI.name;have wi:n.length<=1000000000:=by omega
   have s_:=ae hok;have qy0:=();exact qba
  |clear qn7;have eN:=aI.subs.len;have mn:=aI.name;have zd3:=aI.sz;have V_:Xc (.mk qo n a s)=1+n.length / 40+zs a+zt s:=rfl;have⟨R,hR⟩:=az (kX a left 0);have hRb:=(pk a left 0).2.1;have CT:=fun(W:World)(hb:Below w.heap.size w W)=>V8 a ok W qa _ qc left aI.args (bN.later hb) h0 h1;exact qba
  |clear qog;have hlen:=aI.args.len;have qy1:=();exact qdi
  |have hlen:=aI.args.len;exact qdi
 |have hlen:=aI.args.len;have eN:=aI.subs.len;have mn:=aI.name;have yB:ag (.mk qo n a s)=af a+ah s+1:=by unfold ag;rfl
  have hLs:∀t∈s,L.length+1+ag t<=2000000:=fun t ht=>by have:=mQ s t ht;omega
  have⟨el,gD,xZ,sC,gZ,NG,oa⟩:=Xh bN em aI.args aI.subs ih XA cV;have NI:=bS Tz hLs (show L.length<=2000000 by omega);exact qaQ):G:=h
theorem qfS(h:G:=by
 have HB:=ae aD;clear CB aD iX hq c0 c1 c2 hx hok;go_wp2_with (go_at_call 193;refine HC.o.mono ?_;rintro e w4 ⟨rfl,aY⟩;have H4:=ae aY;clear aY)
 first
 |clear up;go_ret;exact⟨⟨_,rfl,by rw[HE.o];simp⟩,HB.o.tr H4.o⟩
 |exact qdO):G:=h
theorem qfb(h:G:=by
 obtain⟨es,hk,ho,ht⟩:=h;exact⟨es,hk,bh ho hb,fun j h1 h2=>⟨(ht j h1 h2).1,(ht j h1 h2).2.move (fun b hok hlt=>⟨hok,hb b hok.1 hlt⟩)⟩⟩):G:=h
theorem qeW(h:G:=by
 exact qcv):G:=h
theorem qcw(h:G:=by
 go_enter func246,ntmps246
 first
 |clear an;go_wp2_with (go_at_call 244;refine HC.o.mono ?_;rintro e w4 ⟨⟨rfl,_⟩|⟨k,x,hk,_⟩,aY⟩;rotate_left;(exact absurd hk (by simp));have H4:=ae aY;clear aY);go_ret;exact⟨⟨_,rfl,fK.nil _ _⟩,Kp.below H4.o⟩
 |clear it;go_wp2_with (go_at_call 244;refine HC.o.mono ?_;rintro e w4 ⟨rfl,aY⟩;have H4:=ae aY;clear aY);go_ret;exact⟨⟨_,rfl,by rw[HE.o];exact HR.o.later H4.o⟩,Kp.below H4.o⟩
 |go_upto_region 2 with (go_at_call 244;refine HC.o.mono ?_;rintro e w4 ⟨⟨k,x,hk,rfl,hkx,iX⟩,aY⟩;have eR:k<n:=(by rw[HN.o];exact (List.getElem?_eq_some_iff.1 hk).1);have H4:=cH aY hk hkx iX;have Xt:((k:Int) == -1)=false:=beq_eq_false_iff_ne.2 (by omega);have MU:IntKind.i64.wrap ((k:Int)+1)=((k+1:Nat):Int):=(by rw[jD _ (by omega)];simp);clear aY hkx iX hk);have cV:=(((sY.start (keep:=fun x=>!pr x) HB.o.1 HB.o.2.1 HB.o.2.2 (by rw[<-HN.o];exact eR) (fun x hx=>by rw[H4.o.2.2.2 x hx];rfl)).drop (by rw[<-HN.o];exact eR) (by
   obtain⟨bA,he⟩:=List.getElem?_eq_some_iff.1 H4.o.2.1;rw[he,H4.o.2.2.1];rfl)).later H4.o.1)
  have HST:=ae cV;clear cV;go_wp2;clear Xt MU;go_loopw [5,6,7] (fun s5 s6 _ wr=>∃i j:Nat,s5=.int .i64 i/\s6=.int .i64 j/\i<j/\j<=n/\sY (fun x=>!pr x) l b cap i j wr/\Kp (fun c=>lo<=c/\some b=some c) w wr) (fun _ s6 _ _=>n-(intOf s6).toNat)
  case atStart=>exact⟨k,k+1,rfl,by go_num,by omega,by omega,HST.o,Kp.below H4.o.1⟩
  case round=>
   obtain⟨i,j,rfl,rfl,Xk,_f,hD,hK⟩:=hrel
   by_cases hlt:j<n
   ·have lG:=cG HN.o hlt;have CB:=HP.o l[j] wr (aH lG) hK;have PX:=fun W h=>sY.keep (W:=W) (keep:=fun x=>!pr x) (l:=l) (b:=b) (cap:=cap) (i:=i) h lG (by rw[<-HN.o];exact hc) (by omega);have _s:=fun W=>sY.drop (W:=W) (keep:=fun x=>!pr x) (l:=l) (b:=b) (cap:=cap) (i:=i) (j:=j);obtain⟨cu,g1,g2,g3,g4,g5⟩:=hD;have cj:wr.cell? ⟨b,j,none⟩=some (.string ⟨l[j].toArray⟩):=(aT g1 j).trans (g5 j lG (aK _));have HD:=ae (show sY (fun x=>!pr x) l b cap i j wr from⟨cu,g1,g2,g3,g4,g5⟩);have hlz:(j:Int)<(n:Int):=by omega
    have X9:IntKind.i64.wrap ((j:Int)+1)=((j+1:Nat):Int):=(by rw[jD _ (by omega)];simp);have hwi:IntKind.i64.wrap ((i:Int)+1)=((i+1:Nat):Int):=(by rw[jD _ (by omega)];simp);have HK:=ae hK;have HKD:=aM PX _s;have⟨u,hu⟩:=az (l[j]);rw[<-hu]at CB cj;have HU:=ae hu;clear PX _s g1 g2 g3 g4 g5 hK hu
    cases hq:pr u with
    |true=>
     rw[hq]at CB;have⟨vI,HQ⟩:=bi CB hq;clear CB hq;go_wp2_with (go_at_fn g;refine vI.o.mono ?_;rintro e w5 ⟨rfl,bE⟩;have H5:=ae bE;clear bE);go_roundw
     case rel=>exact⟨i,j+1,rfl,by go_num,by omega,by omega,(HKD.o.2 wr HD.o lG (by rw[<-HU.o,HQ.o];rfl)).later H5.o,HK.o.trans (Kp.below H5.o)⟩
     case measure=>simp[intOf];omega
    |false=>
     rw[hq]at CB;have⟨vI,HQ⟩:=bi CB hq;clear CB hq;go_wp2_with (go_at_fn g;refine vI.o.mono ?_;rintro e w5 ⟨rfl,bE⟩;have hD5:=HD.o.later bE;have H5:=aM bE hD5;obtain⟨cu,g1,g2,g3,g4,g5⟩:=hD5;have ci:w5.cell? ⟨b,i,none⟩=some cu[i]!:=((aT g1 i).trans (by rw[getElem!_pos cu i (by omega)];exact Array.getElem?_eq_getElem (by omega)));have fi:=ai g1 i;clear bE g1 g2 g3 g4 g5);go_roundw
     case rel=>
      refine⟨i+1,j+1,by go_num,by go_num,by omega,by omega,?_,(HK.o.trans (Kp.below H5.o.1)).trans ⟨rfl,rfl,rfl,by simp,fun c _ hc=>e_ _ _ _ _ (by intro e;obtain rfl:c=b:=e;exact hc ⟨hlo,rfl⟩)⟩⟩;have:=HKD.o.1 w5 H5.o.2 (by rw[<-HU.o,HQ.o];rfl);rw[<-HU.o]at this;exact this
     case measure=>simp[intOf];omega
   ·obtain rfl:j=n:=by omega
    have hcl:∀ty,(Builtin.clear_ #[66] ty #[.slice (some ⟨b,i,none⟩) (j-i) (cap-i)]).run prog wr=.ok (.tuple #[]) (wr.setCells b i (List.replicate (j-i) (.string ⟨#[]⟩))):=fun ty=>by
     obtain⟨cu,g1,g2,_⟩:=hD;refine Lib.run_clear_slice wr _ _ ty _ underlying66 (fun W=>Tryz.zeroValue9 W) rfl rfl b i _ _ (by omega) (fun t ht=>?_) (fun t ht=>ai g1 _);rw[(aT g1 (i+t)).trans (Array.getElem?_eq_getElem (by omega))];rfl
    have⟨HD,HK⟩:=bi hD hK;have B8:i<=j:=by omega
    clear hD hK;go_upto_region 11 with fail;go_wp2_with fail;go_ret;have hD:=HD.o;rw[HN.o]at hD;refine⟨⟨_,rfl,hD.done hlo (by rw[<-HN.o];exact hc) (by rw[<-HN.o];omega) wO.o.1 _⟩,?_⟩;exact HK.o.trans ((Bz b _ i wr).mono fun c _ e=>⟨by rw[e];exact hlo,by rw[e]⟩)):G:=h
theorem qiq(h:G:=by
 have g2:W6.cell? ⟨w.heap.size+1,2,none⟩=some (.slice fN 0 fO):=ao x6 2;have g3:W6.cell? ⟨w.heap.size+1,3,none⟩=some (.slice (some ⟨w6.heap.size,0,none⟩) 1 1):=ao x6 3
 first
 |clear qvA;refine bX (v:=FQ.val ⟨so,⟨n.toArray⟩,fN,0,fO,some ⟨w6.heap.size,0,none⟩,1,1⟩) (by simp[FQ.val,results,results72,go_sem,g0,g1,g2,g3]) rfl ⟨⟨⟨so,⟨n.toArray⟩,fN,0,fO,some ⟨w6.heap.size,0,none⟩,1,1⟩,rfl,HRm.o▸H9.o.1.move (fun b hok hlt=>⟨by have h:W1.heap.size<=b:=hok;omega,k6.same b hlt (by have h:W1.heap.size<=b:=hok;omega)⟩)⟩,Below.kp1 H9.o.2.1 k6 (by omega)⟩
 |refine bX (v:=FQ.val ⟨so,⟨m.toArray⟩,fN,0,fO,some ⟨w6.heap.size,0,none⟩,1,1⟩) (by simp[FQ.val,results,results72,go_sem,g0,g1,g2,g3]) rfl ⟨⟨⟨so,⟨m.toArray⟩,fN,0,fO,some ⟨w6.heap.size,0,none⟩,1,1⟩,rfl,HRm.o▸H9.o.1.move (fun b hok hlt=>⟨by have h:W1.heap.size<=b:=hok;omega,k6.same b hlt (by have h:W1.heap.size<=b:=hok;omega)⟩)⟩,Below.kp1 H9.o.2.1 k6 (by omega)⟩):G:=h
theorem qjZ(h:G:=by
 simp only[dif_pos sA,Nat.zero_add];have d0:=ho.cells (g:=g) rfl _ _ c0;have d1:=ho.cells (g:=g) rfl _ _ c1;have d2:=ho.cells (g:=g) rfl _ _ c2;have d3:=ho.cells (g:=g) rfl _ _ c3
 first
 |clear it;have d4:=ho.cells (g:=g) rfl _ _ c4;rw[oy]at d0 d1 d2 d3 d4;rw[(ht j sA hj).1]at d0;exact⟨d0,d1,d2,d3,d4⟩
 |rw[oy]at d0 d1 d2 d3;rw[(ht j sA hj).1]at d0;exact⟨d0,d1,d2,d3⟩):G:=h
theorem qj0(h:G:=by
 have qy3:=();exact qaS):G:=h
theorem qj1(h:G:=by
 go_wp2;go_roundw
 case rel=>exact⟨k+1,by omega,by omega,by go_num,by rw[zX s k le hlt,HA.o,HP.o];rfl,GM HW.o _⟩
 case measure=>simp[intOf];omega):G:=h
theorem qas(h:G:=by
 have cQ:=ae (HB.o.trans (x'.below.mono HB.o.size))
 first
 |clear qpT;have⟨bb,dz⟩:=az (Op.bytesLess x y);rw[<-dz];have HT:Hd (R=(bb&&eq (l.drop (k+1)))):=ae (by rw[dz];exact ZS.o);clear dz ZS;cases bb
  ·have HE:=ae (show R=false by rw[HT.o];simp);go_wp2;go_ret;exact⟨aJ HE.o.symm,cQ.o⟩
  ·go_wp2;go_roundw
   case rel=>exact⟨k+1,.inr hlt,by go_num,cQ.o,by rw[HT.o];simp⟩
   case measure=>simp[intOf];omega
 |clear qpX
  by_cases h0:e=0
  ·subst h0;go_wp2;go_roundw
   case rel=>exact⟨k+1,by omega,by go_num,cQ.o,by simpa using HT.o⟩
   case measure=>simp[intOf];omega
  ·have d1:(e==0)=false:=by simpa using h0
   have d2:(e !=0)=true:=by simpa using h0
   have HE:=ae (show R=e by have:=HT.o;simpa[h0]using this);clear h0;go_wp2;go_ret;exact⟨uE HE.o.symm,cQ.o⟩
 |clear qp0;cases R
  ·go_wp2;go_ret;exact⟨aJ (HNe.o (by rw[HX.o.1,HX.o.2];intro h;injection h with _ _ h;rw[<-h,rC]at HR;exact absurd HR.o (by simp))).symm,cQ.o⟩
  ·go_wp2;go_roundw
   case rel=>exact⟨k+1,by omega,by go_num,cQ.o,zo HT.o bA lj (by rw[HX.o.1,HX.o.2,(jw _ _).1 HR.o.symm])⟩
   case measure=>simp[intOf];omega
 |clear qp3;cases R
  ·go_wp2;go_ret;exact⟨aJ (HNe.o (fun h=>by have:=HR.o;rw[(tE _ _).2 h]at this;cases this)).symm,cQ.o⟩
  ·go_wp2;go_roundw
   case rel=>exact⟨k+1,by omega,by go_num,cQ.o,zo HT.o bA lj ((tE _ _).1 HR.o.symm)⟩
   case measure=>simp[intOf];omega
 |clear qp5;go_wp2;go_roundw
  case rel=>exact⟨k+1,_,by omega,by go_num,rfl,cQ.o,HS.o.1,HS.o.2⟩
  case measure=>simp[intOf];omega
 |clear qp7;have kJ:=ae (bY x'.below HX.o);have⟨W3,ec⟩:=az x'.w;rw[<-ec]at e3 cQ kJ⊢;clear f0 f1 Cd SA SJ htd zbO ec HX;go_wp2;go_loopw [5,6] (fun r i wr=>∃k m:Nat,k<=k0/\i=.int .i64 k/\r=.int .i64 m/\Below W3.heap.size W3 wr/\gA s left (1+q+R)=gA (s.drop k) left m/\m<=300000000000) (fun _ i _=>k0-(intOf i).toNat)
  case atStart=>exact⟨0,1+q+R,bn _,rfl,by go_num,ar _ _,by simp,by omega⟩
  case round=>
   obtain⟨k,m,hk,rfl,rfl,aD,hcut,FG⟩:=hrel;have e3':=aa aD e3;have rv:=ae (cQ.o.trans (aD.mono cQ.o.size))
   by_cases hlt:k<k0
   ·by_cases te:(m:Int)<=left
    ·have bA:=cG gT.o hlt;obtain⟨b,off,u,rfl,_,hu,c0,c1,c2,c3⟩:=gD.o.get bA;have δ:s.drop k=s[k]::s.drop (k+1):=iL bA;rw[δ]at hcut;have⟨d0,d1,d2,d3⟩:=mH rv.o c0 c1 c2 c3;have⟨M,hM⟩:=az (Fc s[k] (left-m));have CC:=gZ.o s[k] (aH bA) ok wr u (left-m) (hu.later rv.o) (by omega) (by omega);rw[<-hM]at CC;have vw:gA s left (1+q+R)=gA (s.drop (k+1)) left (m+M):=by
      rw[hcut];simp only[gA,aG te];rw[hM]
     have Od:m+M<=300000000000:=by
      have h5:=(m5 s left (1+q+R)).2.1;have h6:=(m5 (s.drop (k+1)) left (m+M)).1;omega
     exact qit
    ·have LG:decide ((m:Int)<=left)=false:=by simp;omega
     have qy4:=();exact qcG
   ·obtain rfl:k=k0:=by omega
    have hd:s.drop k=[]:=by rw[gT.o];exact List.drop_length
    rw[hd]at hcut;have HE:=ae (show gA s left (1+q+R)=m from hcut);clear hcut aD hd;exact qj2
 |clear qp9;exact qj3
 |clear qqb
  cases V with
  |false=>
   have HE3:=ae (Bl.o fun h=>by
    subst h;have:=congrArg Prod.snd (HX.o.1.trans HX.o.2.symm);have e:=HV.o;rw[(tE _ _).2 this]at e;cases e)
   exact qj3
  |true=>
   go_wp2;go_roundw
   case rel=>exact⟨k+1,by omega,by go_num,cQ.o,sk HT.o bA lj (by rw[<-HX.o.1,<-HX.o.2,(tE _ _).1 HV.o.symm])⟩
   case measure=>simp[intOf];omega
 |go_wp2;go_roundw
  case rel=>exact⟨k+1,by omega,by go_num,cQ.o⟩
  case measure=>simp[intOf];omega):G:=h
theorem qby(h:G:=by
 have cr:((a.map (dK kd.ts sc)).take k).length=k:=by rw[dO];have:=dN.o;simp;omega
 first
 |clear qoZ;exact qbv
 |clear qo1;have qu5:=();exact qcO
 |clear qy5;have jW:(a.map (dK kd.ts sc)).take k=(a.map (dK kd.ts sc)):=gB (by have:=dN.o;simp;omega);exact qax
 |have jW:(a.map (dK kd.ts sc)).take k=(a.map (dK kd.ts sc)):=gB (by have:=dN.o;simp;omega);have qy6:=();exact qax):G:=h
theorem qj4(h:G:=by
 have he:l=m:=by
  have h1:l.take k=l:=by rw[dN.o];exact dA
  have h2:m.take k=m:=by rw[dN.o,XN.o];exact dA
  rw[<-h1,ht,h2]
 have⟨HE,HB⟩:=bi he aD;clear he aD ht;go_wp2;go_ret
 first
 |clear up;exact⟨aJ (by rw[HE.o,rC]),HB.o⟩
 |exact⟨aJ (by rw[HE.o];exact((qH _ _).2 rfl).symm),HB.o⟩):G:=h
theorem qbE(h:G:=by
 obtain⟨S,hS⟩:∃S:World->Prop,S=fun V=>Below wr.heap.size wr V:=⟨_,rfl⟩
 first
 |clear qy8;have xb:=hF.box;have k0:=ao kH.box 0;have r0:=ao xb 0;have mlt:=kH.fs.lt;have ff:∀V,S V->V.cell? ⟨w.heap.size+1,0,none⟩=some (.slice ra j rc)/\V.cell? ⟨kb,0,none⟩=some (.map (some mF))/\(Instr.lookup 145 (.map (some mF)) (.string ⟨nm.toArray⟩) false).run prog V=.ok (.agg #[.int .u8 g0,.string g1,.slice g2 g3 g4,.slice g5 g6 g7]) V:=fun V h=>by
   exact qj5
  have qy9:=();exact qj6
 |clear qza;have xb:=hF.box;have k0:=ao kH.box 1;have r0:=ao xb 1;have mlt:=kH.ts.lt;have ff:∀V,S V->V.cell? ⟨w.heap.size+1,1,none⟩=some (.slice ra j rc)/\V.cell? ⟨kb,1,none⟩=some (.map (some mT))/\(Instr.lookup 146 (.map (some mT)) (.string ⟨nm.toArray⟩) false).run prog V=.ok (.agg #[.bool g0,.string g1,.slice g2 g3 g4]) V:=fun V h=>by
   exact qj5
  exact qj6
 |clear qqH;have p3:∀V,S V->V.cell? ⟨W.heap.size,3,none⟩=some (.slice (some ⟨bs,os,none⟩) sm se):=fun V h=>by rw[hS]at h;exact aa h (ao Bo 3)
  have p7:∀V,S V->V.cell? ⟨W.heap.size,7,none⟩=some (.slice (some ⟨bf,of,none⟩) fm fe):=fun V h=>by rw[hS]at h;exact aa h (ao Bo 7)
  have qs:∀V,S V->V.cell? ⟨bs,os+k*4,none⟩=some (.int .u8 uo)/\V.cell? ⟨bs,os+k*4+1,none⟩=some (.string un)/\V.cell? ⟨bs,os+k*4+2,none⟩=some (.slice ua ul uc)/\V.cell? ⟨bs,os+k*4+3,none⟩=some (.slice ub um ue):=fun V h=>by rw[hS]at h;exact⟨aa h d0,aa h d1,aa h d2,aa h d3⟩
  have qf:∀V,S V->V.cell? ⟨bf,of+k*4,none⟩=some (.int .u8 vo)/\V.cell? ⟨bf,of+k*4+1,none⟩=some (.string vn)/\V.cell? ⟨bf,of+k*4+2,none⟩=some (.slice va vl vc)/\V.cell? ⟨bf,of+k*4+3,none⟩=some (.slice vb vm ve):=fun V h=>by rw[hS]at h;exact⟨aa h g0,aa h g1,aa h g2,aa h g3⟩
  have dW:S wr.drew:=by rw[hS];exact(ar _ _).drew
  first
  |clear qxD;have Aj:Kp M W3 wr.drew:=bD.trans (Kp.below (ar _ _).drew);have XX:=gZ.o ss[k] (aH AS) fs[k] (_i.o.mem (aH ZK)) ps (by have:=wn.o.2.1 ss[k] (aH AS);omega) M B l J Jx xs (pre++([X]++ba Cn (ss.take k) (fs.take k))) wr.drew ⟨⟨uo,un,ua,ul,uc,ub,um,ue⟩,⟨vo,vn,va,vl,vc,vb,vm,ve⟩,ca,cl,cc⟩
    (fun b hb=>by have:=FD.o.1 b hb;show b<wr.heap.size;have:=D1.o.2.size;omega) ⟨by have:=FD.o.2.1;show l<wr.heap.size;have:=D1.o.2.size;omega,FD.o.2.2⟩ (fun t=>(HJ.o.1 t).mono (by show W.heap.size<=wr.heap.size;have:=D1.o.2.size;omega)) (fun t=>(HJ.o.2 t).mono (by show W.heap.size<=wr.heap.size;have:=D1.o.2.size;omega))
    (HY.o.later (D1.o.2.trans Aj)) (hu.kp (D1.o.2.trans Aj)) (hv.kp (D1.o.2.trans Aj)) (HPz.o.kp Aj) (by rw[show(ps).reverse=Cn from vI.o];exact uY) (HJ.o.1 _ _ _ (Nw.below (ar _ _).drew) hj)
   rw[show(ps).reverse=Cn from vI.o]at XX;have qvG:=();exact qiv
  |have Aj:Kp M X5 wr.drew:=bD.trans (Kp.below (ar _ _).drew);have XX:=gZ.o ss[k] (aH AS) fs[k] (_i.o.mem (aH ZK)) (ps++[(sn,fn)]) (by have:=wn.o.2.1 ss[k] (aH AS);simp;omega) M B l J Jx xs (pre++([X]++ba Cn (ss.take k) (fs.take k))) wr.drew ⟨⟨uo,un,ua,ul,uc,ub,um,ue⟩,⟨vo,vn,va,vl,vc,vb,vm,ve⟩,(some ⟨g,0,none⟩),(cl+1),cap⟩
    (fun b hb=>by have:=FD.o.1 b hb;show b<wr.heap.size;have:=D1.o.2.size;omega) ⟨by have:=FD.o.2.1;show l<wr.heap.size;have:=D1.o.2.size;omega,FD.o.2.2⟩ (fun t=>(HJ.o.1 t).mono (by show W.heap.size<=wr.heap.size;have:=D1.o.2.size;omega)) (fun t=>(HJ.o.2 t).mono (by show W.heap.size<=wr.heap.size;have:=D1.o.2.size;omega))
    (HY.o.later (D1.o.2.trans Aj)) (hu.kp (D1.o.2.trans Aj)) (hv.kp (D1.o.2.trans Aj)) (HPz.o.kp Aj) (by rw[show((ps++[(sn,fn)])).reverse=Cn from vI.o];exact uY) (HJ.o.1 _ _ _ (Nw.below (ar _ _).drew) hj)
   rw[show((ps++[(sn,fn)])).reverse=Cn from vI.o]at XX;exact qiv
 |have f0:∀V,S V->V.cell? ⟨b5,3,none⟩=some (.slice ra k rc):=fun V h=>by rw[hS]at h;exact aa h (g9.cell 3)
  have f1:∀V,S V->V.cell? ⟨b,off+k*4,none⟩=some (.int .u8 u.o)/\V.cell? ⟨b,off+k*4+1,none⟩=some (.string u.n)/\V.cell? ⟨b,off+k*4+2,none⟩=some (.slice u.a u.l u.c)/\V.cell? ⟨b,off+k*4+3,none⟩=some (.slice u.b u.m u.e):=fun V h=>by rw[hS]at h;exact⟨aa h d0,aa h d1,aa h d2,aa h d3⟩
  have f2:∀V,S V->V.cell? ⟨w.heap.size,3,none⟩=some (.slice (some ⟨b,off,none⟩) m0 qe):=fun V h=>by rw[hS]at h;exact aa h p3
  clear d0 d1 d2 d3;have dW:S wr.drew:=by rw[hS];exact(ar _ _).drew
  have⟨c9,cQ,fk⟩:=cU hS ew g9;clear hS ew g9;go_wp2;have qzb:=();exact qj7):G:=h
theorem qd0(h:G:=by
 obtain⟨b,off,u,rfl,_,hu,c0,c1,c2⟩:=HL.o.get bA;have hf:=HF.o.mem (aH bA);have sD:=gZ.o l[k] (aH bA)
 first
 |clear qzc;rw[K4 bA]at ht;obtain⟨⟨xv,xn,xa⟩,hx⟩:∃y,l[k]=y:=⟨_,rfl⟩;rw[hx]at hu hf sD ht;obtain⟨s1,h2,gH⟩:=aW.1 hu;obtain⟨uv,un,ua,ul,uc⟩:=u;have qwr:=();exact qb3
 |clear qzd;have jX:=Co x bA;have hb1:=tX x (l.take (k+1));have bU:=lh l (k+1);have qze:=();exact qd1
 |have δ:l.drop k=l[k]::l.drop (k+1):=iL bA;rw[δ]at hcut;have qzf:=();exact qd1):G:=h
theorem qj8(h:G:=by
 refine cb 19 rfl fun K hK=>?_;have⟨y0,y1,y2,z0,z1,z2⟩:=ir H7.o.1;go_simp;refine eX hK ?_;clear hK K y0 y1 y2 z0 z1 z2;have qtJ:=();exact qhw):G:=h
theorem qj9(h:G:=by
 exact⟨trivial,((Kp.below H4.o.1).trans FM).from _,rfl,by rw[zk HG.o.1];exact Qj.o.symm,kr H4.o.2,(HG.o.2.2.trans (Kp.below H4.o.1)).trans FM⟩):G:=h
theorem qiU(h:G:=by
 have⟨W3,ec⟩:=az (W2.alloc (.cells #[.int .u8 Ja,.string Jb,.slice Jc Jd Je,.slice Jf Jg Jh] 36)).drew;have sX:Below W2.heap.size W2 W3:=by rw[ec];exact dp.drew
 first
 |clear qwj;have x3:=bY sX H2.o.2.1;have y3:W3.heap[W2.heap.size]?=some (.cells #[.int .u8 Ja,.string Jb,.slice Jc Jd Je,.slice Jf Jg Jh] 36 (0,0)):=by rw[ec];exact aq rfl
  obtain⟨i0,i1,i2,i3,_,_,_,_⟩:=dw x3;have uW:=ae (HIN.o W3 sX);have Rr:=ae (fun(V:World)(h:Below W3.heap.size W3 V)=>lk dM f Lw.fit _ V ⟨Ja,Jb,Jc,Jd,Je,Jf,Jg,Jh⟩ ((rS.later sX).later h));simp only[FQ.val]at Rr;have⟨n0,wE⟩:=az (fD dM f);rw[<-wE]at hE Rr;have H3:=bS sX y3 (H2.o.2.2.later sX);have HE3:=ae hE;clear hlk hg aS hE x3 y3 Kf bq Bw gH M0 Jk Lz SI rS Lw wE sX;have Ss:=();exact qb0
 |have i0:=ao (bY sX H2.o.2.1) 0;have bV:=ae (H2.o.1.tr sX);clear hlk hg aS hE rS Lw sX;have up:=();exact qb0):G:=h
theorem qi8(h:G:=by
 have qzg:=();exact qaK):G:=h
theorem qka(h:G:=by
 refine cb 10 rfl fun K hK=>?_;have⟨y0,y1,y2,y3,z0,z1,z2,z3⟩:=dw H7.o.1;go_simp;refine eX hK ?_;clear hK K y0 y1 y2 y3 z0 z1 z2 z3;exact qhw):G:=h
theorem qd2(h:G:=by
 refine wpOpIn_step ho (fun K' Iy=>?_);rw[aG hw];refine⟨fun f _=>vD f,?_⟩;rw[hr,Oper.semAt_none,nj]
 first
 |clear GB;exact qkb
 |clear I8;exact Iy _ _ (hK undef eZ w' (fun _=>rfl) hG QM ky)
 |refine⟨fun h0=>(by rw[sM]at h0;cases h0),hc.mono ?_⟩
  rintro e w' ⟨v,rfl,eZ,hG,QM,ky⟩;exact qkb):G:=h
theorem qd3(h:G:=by
 exact⟨by first|rfl|trivial,fun h=>by cases h⟩):G:=h
theorem qhF(h:G:=by
 have⟨g4,g5⟩:=C8 dh g0 g2;rcases nL.ts.look underlying9 underlying146 lx (x:=n) (by omega)with⟨hg,hl⟩|⟨u,vu,hg,hvu,hl⟩
 first
 |clear up
  ·have l1:=(hl w4.drew rfl).1;have up:=();exact qkc
  ·obtain⟨⟨xv,xn,xa,xl,xc⟩,rfl,hxv,hpu⟩:=hvu;simp only[TQ.val]at hl;have l1:=(hl w4.drew rfl).1;exact qkc
 |·have l1:=(hl w3.drew rfl).1;have l2:=(hl (w3.alloc (.cells #[.bool false,.string ⟨#[]⟩,.slice none 0 0] 43)).drew (bZ _ _ _ (by have:=nL.ts.lt;omega))).1;have Rm:=ae (show R=true by rw[HE3.o,hg];rfl);have DO:=ae (dh.drew);clear nL x3 dh hl hg;go_region
   all_goals
    go_wp2;go_ret;exact⟨by rw[Rm.o];rfl,(H1.o.1.tr H3.o).tr DO.o⟩
  ·obtain⟨⟨xv,xn,xa,xl,xc⟩,rfl,hxv,hpu⟩:=hvu;simp only[TQ.val]at hl;have l1:=(hl w3.drew rfl).1;have l2:=(hl (w3.alloc (.cells #[.bool false,.string ⟨#[]⟩,.slice none 0 0] 43)).drew (bZ _ _ _ (by have:=nL.ts.lt;omega))).1;have Rm:=ae (show R=false by rw[HE3.o,hg];rfl);have DO:=ae ((((ar w3.heap.size w3).alloc (aK _) (.cells #[.bool xv,.string xn,.slice xa xl xc] 43))).drew);clear nL x3 dh hl hg hxv hpu;go_region
   all_goals
    go_wp2;go_ret;exact⟨by rw[Rm.o];rfl,(H1.o.1.tr H3.o).tr DO.o⟩):G:=h
theorem qjI(h:G:=by
 obtain⟨b,off,⟨go,gn,ga,gl,gc,gb,gm,ge⟩,rfl,_,hg,c0,c1,c2,c3⟩:=gD.o.get (j:=0) (by simp);simp only[Nat.zero_mul,Nat.add_zero,List.getElem_cons_zero]at hg c0 c1 c2 c3
 first
 |clear qyz;obtain⟨IY,XK,XL,xF⟩:=HS4.o g (by simp);have TU:=sC.o.mem (List.mem_singleton.2 rfl);have hpb:wN w (.cells #[.int .u8 qo,.string ⟨n.toArray⟩,.slice qa 0 qc,.slice (some ⟨b,off,none⟩) 1 qe] 36 (0,0)) (.cells #[.bool zv,.string zn,.slice za zl zc] 43 (0,0)) (.cells #[.int .u8 0,.string ⟨#[]⟩,.slice none 0 0,.slice none 0 0] 36 (0,0)) (.cells #[.int .u8 qo,.string ⟨n.toArray⟩,.slice fN 0 fO,.slice none 0 0] 36 (0,0)) iz:=⟨rv.o,x0,xu,x1,x2⟩;have CF:=tR g TU (by omega) ok iz ⟨go,gn,ga,gl,gc,gb,gm,ge⟩ (hg.later rv.o);simp only[FQ.val]at CF;have⟨FJ,HG⟩:=bi CF hg;have qr:=gN IY XK XL xF TU;have HC:=cH c0 c1 c2 c3;have⟨d0,d1,d2,d3⟩:=mH rv.o c0 c1 c2 c3;have p3:=ao x0 3;have HPB:=ae hpb;clear CF hg IY XK XL xF TU c0 c1 c2 c3 x0 x1 xu x2 hpb;exact qjN
 |obtain⟨la,lc,hLv,Uv,vG⟩:=HL.o.1;have⟨l0,wL⟩:=az L.length;rw[<-wL]at hLv;subst hLv;exact qjK):G:=h
theorem qbJ(h:G:=by
 rw[iq bA lj]at ht;have⟨e,he⟩:=az (gP ps.reverse xa[k] ya[k]);rw[<-he]at ht
 first
 |clear qrK;have qoP:=();exact qab
 |clear qrL;have qo5:=();exact qab
 |clear qrN;have qoH:=();exact qab
 |have qo4:=();exact qab):G:=h
theorem qcy(h:G:=by
 by_cases gY:br o'=true
 ·rw[aG gY]at hd;simp only[Df.mk.injEq]at hd;rw[hd.1]at hq;exact absurd gY hq
 first
 |clear it
  ·rw[aw gY]at hd;simp only[Df.mk.injEq]at hd;refine⟨hd.1,.inr hd.2.1,hd.2.2.1,?_⟩;exact qkd
 |clear an
  ·rw[aw gY]at hd;simp only[Df.mk.injEq]at hd;refine⟨hd.1,?_⟩;exact qkd
 |·rw[aw gY]at hd;simp only[Df.mk.injEq]at hd;rw[aw hq,aw hq];exact r' ht FF ss l l' c c' k1 k1' h.t.n hd.2.2.2 Kd.2.2.2.2 hfo.2.2.2.2 zaR.2.2.2.2 h.o.c (by omega) (by omega) (by omega) (by omega) hlen le):G:=h
theorem qd9(h:G:=by
 cases e with
 |returned u=>exact⟨keep a hy u,by rw[<-Act.put_comm a v u h2];exact he⟩
 |panicked c=>exact hQ _ _ _ he
 |outgrown=>exact he):G:=h
theorem qcT(h:G:=by
 go_wp2;go_ret;exact⟨aJ (tp (by rw[qE h1];exact HF.o)).symm,⟨_,rfl⟩⟩):G:=h
theorem qav(h:G:=by
 intro t
 induction t using Tm.ind with
 |h v n a ih=>
 first
 |clear qmQ;intro aI ok w tq XA cV hq;obtain⟨qv,qn,qa,ql,qc⟩:=tq;obtain⟨s,hs,bN⟩:=aW.1 hq;have qr2:=();exact qam
 |clear qnb;intro rO dQ im him W nF nT k tq uq eR tC hps sV huv;obtain⟨v',n',a'⟩:=im;obtain⟨s1,h1,j7⟩:=aW.1 sV;obtain⟨s2,h2,I7⟩:=aW.1 huv;obtain⟨tv,tn,ta,tl,tc⟩:=tq;obtain⟨uv,un,ua,ul,uc⟩:=uq;have qtR:=();exact qaI
 |clear qng;intro rO ok w q hb hq;have qzl:=();exact qdj
 |clear qnj;intro hn;simp only[kI,ak,bM]at hn;unfold th;simp only[ap];split
  ·have:=hk n hn.1;omega
  ·have h2:fj k a<=af a*1000:=by
    have nM:=ii.1 hn.2;clear hn
    induction a with
    |nil=>simp[fj]
    |cons u a Ti=>
     have an:=();exact qke
   omega
 |clear qnk;intro rO ok w q hb hq;have qzn:=();exact qdj
 |clear qns;intro hn;simp only[kI,ak,bM]at hn;unfold mG;simp only[ap];split
  ·have h1:=hk n hn.1;have h2:=oS (b8 k n);have h3:=gp (aL (b8 k n));have h4:=List.length_filter_le cW (dX (aL (b8 k n)));omega
  ·have h2:(eH k a).length<=af a*1000:=by
    have nM:=ii.1 hn.2;clear hn
    induction a with
    |nil=>simp[eH]
    |cons u a Ti=>
     exact qke
   omega
 |clear qnt;intro rO Kc ok w q hb hq;simp only[ap]at Kc;exact qdj
 |intro h;unfold nR
  by_cases hv:(v&&n==x)=true
  ·rw[aG hv];rfl
  ·rw[aw hv];simp only[xU,hv,bR,↓reduceIte,Nat.zero_add]at h;clear hv;generalize 0=i
   induction a generalizing i with
   |nil=>simp[fV]at h
   |cons u a ihs=>
    simp only[fV]at h;unfold fh
    cases hp:nR x u with
    |some p=>rfl
    |none=>
     exact qff):G:=h
theorem qaH(h:G:=by
 obtain⟨qv,qn,qa,ql,qc⟩:=q;obtain⟨s,hs,bN⟩:=aW.1 hq
 first
 |clear ql8;have qrQ:=();exact qam
 |clear ql9;have qrS:=();exact qam
 |clear qmc;have qrT:=();exact qam
 |clear qmK;have qr0:=();exact qam
 |clear qmZ;have qr4:=();exact qam
 |have qr6:=();exact qam):G:=h
theorem qkf(h:G:=by
 rw[<-IV];obtain⟨⟨g0,g1,g2,g3,g4,g5,g6,g7⟩,rS,LC,IY,XK,XL,zJ⟩:=ia.formOf (x:=n) mn;simp only[FQ.val]at zJ;have⟨f,hf⟩:=az (cZ kd.fs n);rw[<-hf]at rS LC IY XK XL
 first
 |clear qzo;have qu1:=();exact qan
 |obtain⟨x,y,gH,M0,Jk,bq⟩:=lA hs;have⟨dM,Bw⟩:=az (cg x);have hR:RS=if fD dM f=0 then f else gQ dM (b8 kd.ts y) f:=by rw[IV,hf,Bw,gH,Au];rfl
  rw[<-Bw]at bq;exact qc0):G:=h
theorem qbi(h:G:=by
 intro o' GF a γ w bq K hK;obtain rfl:o'=o:=Option.some.inj (GF.symm.trans ho)
 first
 |clear an;obtain⟨hw,v,eZ,w',nj,hG,QM,ky⟩:=h a γ w bq;have GB:=();exact qd2
 |clear it;obtain⟨hw,eZ,w',nj,hG,QM,ky⟩:=h a γ w bq;have I8:=();exact qd2
 |clear up;obtain⟨hw,f,args,nj,hc⟩:=h a γ w bq;exact qd2
 |obtain⟨v,h1,rfl⟩:=hd a γ w bq;have hw:Region.wanted o' (yielded ops a.tmps)=false:=by simp[Region.wanted,hg,yielded,hj,MN,h1];exact Sa hx
  refine wpOpIn_step ho (fun K' Iy=>?_);rw[aw (by rw[hw];exact Bool.false_ne_true)];exact⟨fun _ _=>trivial,Iy _ _ (hK undef γ w (fun _=>rfl) Gr.refl (fun _ _ h=>h) (by rcases hp with h|h<;>rw[h]<;>trivial))⟩):G:=h
theorem qbl(h:G:=by
 rcases dc.1 h with rfl|h
 ·omega
 ·have:=ih h;omega):G:=h
theorem qdV(h:G:=by
 refine cb 8 rfl fun K hK=>?_;go_simp;refine aO.2 (HCH.o.mono ?_);rintro e w8 ⟨⟨v8,rfl,Li⟩,WV⟩
 first
 |clear qyl;have jc:Below W5.heap.size W5 w8:=nA (w:=W5) H7.o WV;have H8:=aM jc (Li.base (lo':=W5.heap.size) (by exact aK _));have qyR:=();exact qdZ
 |clear qyo;have jc:Below w3.heap.size w3 w8:=nA (w:=w3) H7.o WV;have H8:=aM jc Li;have qyS:=();exact qdZ
 |have jc:Below W2.heap.size W2 w8:=nA (w:=W2) H7.o WV;have H8:=aM jc Li;exact qdZ):G:=h
theorem qdN(h:G:=by
 rw[<-dr]at x6 k6⊢;clear dr;have g0:W6.cell? ⟨w.heap.size+1,0,none⟩=some (.int .u8 so):=ao x6 0
 first
 |clear qzp;exact qay
 |clear qxw;have qvz:=();exact qay
 |have g1:W6.cell? ⟨w.heap.size+1,1,none⟩=some (.string ⟨m.toArray⟩):=ao x6 1;exact qiq):G:=h
theorem qfF(h:G:=by
 have h1:DataW.trod enc prog W 0 iy held n 9 [c1]=some x1:=hf 1 _ rfl;have h2:DataW.trod enc prog W 0 iy held n 33 [c2]=some x2:=hf 2 _ rfl
 first
 |clear an;obtain⟨v,hv,rfl⟩:=DataW.trod_bool underlying4 h0;simp only[cF,and_true]at hv;subst hv;obtain⟨s,rfl,hs,_⟩:=pU h1;obtain⟨l,hl,hln,hlm⟩:=vX h2 (fun m hm=>ih m (by omega));refine⟨.mk v s l,aW.2 ⟨_,rfl,hl⟩,?_,?_⟩
  ·simp only[ap,cM,List.map_nil,Rows.uptoBulk,Rows.uptoBulkAll];omega
  ·simp only[kI,cM,List.map_nil,Rows.uptoBulk,Rows.uptoBulkAll,ak,bM];exact⟨by omega,eV (by omega) _ hlm⟩
 |have h3:DataW.trod enc prog W 0 iy held n 34 [c3]=some x3:=hf 3 _ rfl;obtain⟨o,hv,rfl,ho⟩:=DataW.trod_int underlying5 h0;simp only[cF,and_true]at hv;subst hv;have ho:0<=o/\o<=255:=by
   simp[Lit.wf,IntKind.min,IntKind.max,IntKind.signed,IntKind.bits]at ho;omega
  obtain⟨s,rfl,hs,_⟩:=pU h1;obtain⟨l,hl,hln,hlm⟩:=vX h2 (fun m _=>zD m);obtain⟨k,hk,eR,lj⟩:=Gu h3 (fun m hm=>ih m (by omega));refine⟨.mk o s l k,aX.2 ⟨_,_,rfl,hl,hk⟩,?_,?_⟩
  ·simp only[ag,cM,List.map_nil,Rows.uptoBulk,Rows.uptoBulkAll];omega
  ·simp only[mI,cM,List.map_nil,Rows.uptoBulk,Rows.uptoBulkAll,ak,bM];exact⟨ho,by omega,eV (by omega) _ hlm,ic (by omega) _ lj⟩):G:=h
theorem qgE(h:G:=by
 clear CP;gi_wp2_with fail;refine aO.2 (NT.o.mono ?_);rintro e w8 ⟨⟨⟨po,pn,pa,pl,pc,pb,pm,pe⟩,rfl,TW⟩,jc⟩;clear tu0 tu1 tu2 tt0 tt1 tt2 tt3;have zav:=jc.size
 first
 |clear Ss;have hwX:=yF.o.below.size;have qzq:=();exact qkg
 |have hwX:=I0.o.below.size;exact qkg):G:=h
theorem qkh(h:G:=by
 have dW:S wz.drew:=by rw[hS];exact aD.drew
 have d0:=aa aD g0;have HX:=ae (hx.later (kf.o.1.tr aD));have⟨HB,HR,c9,HM,HNf⟩:=sL aD hR hS hm yB;have YE:M<=40:=by omega
 first
 |clear qzr;clear hS hR aD hx g0 c0 c1 c2 c3 c4 hm yB hMM;go_wp2;refine(wpIn_wide (n:=3)).1 ?_;have jq:=fP;refine lM S 17 dW fun jO b_=>?_;refine bH 0 23 (.slice ra M rc) rfl b_ fun cK=>?_;simp only[am];refine bH 1 24 (.pointer (some ⟨w.heap.size,0,none⟩)) rfl b_ fun cK=>?_;simp only[am];refine di 2 25 (.slice (some ⟨b,off,none⟩) n1 qc) rfl (fun V hX=>by have g:=f0 V hX;go_simp) b_ fun cK=>?_;simp only[am];refine bH 3 26 (.int .i64 k) rfl b_ fun cK=>?_;simp only[am];refine bH 4 27 (.pointer (some ⟨b,off+k*5,none⟩)) rfl b_ fun cK=>?_;simp only[am];refine bH 5 28 (.pointer (some ⟨b,off+k*5+1,none⟩)) rfl b_ fun cK=>?_;simp only[am];refine di 6 29 (.agg #[.int .u8 x.o,.string x.n,.slice x.a x.l x.c,.slice x.b x.m x.e]) rfl (fun V hX=>by obtain⟨_,g0,g1,g2,g3⟩:=ff V hX;go_simp) b_ fun cK=>?_;simp only[am];refine bH 7 30 (.pointer (some ⟨w.heap.size,0,none⟩)) rfl b_ fun cK=>?_;simp only[am];refine di 8 31 (.slice (some ⟨b,off,none⟩) n1 qc) rfl (fun V hX=>by have g:=f0 V hX;go_simp) b_ fun cK=>?_;simp only[am];refine bH 9 32 (.int .i64 k) rfl b_ fun cK=>?_;simp only[am];refine bH 10 33 (.pointer (some ⟨b,off+k*5,none⟩)) rfl b_ fun cK=>?_;simp only[am];refine bH 11 34 (.pointer (some ⟨b,off+k*5,none⟩)) rfl b_ fun cK=>?_;simp only[am];refine di 12 35 (.string ⟨nm.toArray⟩) rfl (fun V hX=>by obtain⟨g0,_⟩:=ff V hX;go_simp) b_ fun cK=>?_;simp only[am];refine cb 13 rfl fun K hK=>?_;go_simp;refine aO.2 ((IX ⟨nm.toArray⟩ none 0 0 _).mono ?_);rintro _ A ⟨rfl,hA⟩;have cd:Below W1.heap.size W1 A:=HB.o.drew.tr hA;have hwA:Below wz.heap.size wz A:=((ar wz.heap.size wz).drew).trans hA;have qzs:=();exact qao
 |clear hS hR aD hx g0 c0 c1 c2 c3 hm yB hMM;go_wp2;refine(wpIn_wide (n:=3)).1 ?_;have jq:=fP;refine lM S 18 dW fun jO b_=>?_;refine bH 0 46 (.slice ra M rc) rfl b_ fun cK=>?_;simp only[am];refine bH 1 47 (.pointer (some ⟨w.heap.size,1,none⟩)) rfl b_ fun cK=>?_;simp only[am];refine di 2 48 (.slice (some ⟨b,off,none⟩) n2 qe) rfl (fun V hX=>by have g:=f0 V hX;go_simp) b_ fun cK=>?_;simp only[am];refine bH 3 49 (.int .i64 j) rfl b_ fun cK=>?_;simp only[am];refine bH 4 50 (.pointer (some ⟨b,off+j*4,none⟩)) rfl b_ fun cK=>?_;simp only[am];refine bH 5 51 (.pointer (some ⟨b,off+j*4,none⟩)) rfl b_ fun cK=>?_;simp only[am];refine di 6 52 (.string ⟨nm.toArray⟩) rfl (fun V hX=>by obtain⟨g0,_⟩:=ff V hX;go_simp) b_ fun cK=>?_;simp only[am];refine bH 7 53 (.pointer (some ⟨w.heap.size,1,none⟩)) rfl b_ fun cK=>?_;simp only[am];refine di 8 54 (.slice (some ⟨b,off,none⟩) n2 qe) rfl (fun V hX=>by have g:=f0 V hX;go_simp) b_ fun cK=>?_;simp only[am];refine bH 9 55 (.int .i64 j) rfl b_ fun cK=>?_;simp only[am];refine bH 10 56 (.pointer (some ⟨b,off+j*4,none⟩)) rfl b_ fun cK=>?_;simp only[am];refine bH 11 57 (.pointer (some ⟨b,off+j*4+1,none⟩)) rfl b_ fun cK=>?_;simp only[am];refine di 12 58 (.agg #[.bool x.v,.string x.n,.slice x.a x.l x.c]) rfl (fun V hX=>by obtain⟨_,g0,g1,g2⟩:=ff V hX;go_simp) b_ fun cK=>?_;simp only[am];refine cb 13 rfl fun K hK=>?_;go_simp;have lJ:Below W1.heap.size W1 (wz.drew.alloc (.cells #[.bool x.v,.string x.n,.slice x.a x.l x.c] 43)):=HB.o.drew.alloc HB.o.size _;have qxl:=();exact qaF):G:=h
theorem qki(h:G:=by
 refine⟨(s,f),a,rfl,j7,?_,?_,?_⟩
 ·simp only[cM,List.map_nil,Rows.uptoBulk,Rows.uptoBulkAll];omega
 ·simp only[cM,List.map_nil,Rows.uptoBulk,Rows.uptoBulkAll];omega
 first
 |clear up
  ·exact iR (by simp only[cM,List.map_nil,Rows.uptoBulk,Rows.uptoBulkAll];omega) _ hf3
 |·exact lO (by simp only[cM,List.map_nil,Rows.uptoBulk,Rows.uptoBulkAll];omega) _ hf3):G:=h
theorem qaQ(h:G:=by
 have⟨k0,cD⟩:=az a.length;have⟨m0,eh⟩:=az s.length
 first
 |clear qut;have qzu:=();exact qd4
 |clear qzv;rw[<-cD,<-eh]at QV;rw[<-eh]at eN em;unfold FQ.val at QV⊢;simp only at QV⊢;rw[<-cD,<-eh];have⟨gT,qG⟩:=bi eh dU;have jN:Below W.heap.size W (W.alloc (.cells #[.int .u8 qo,.string ⟨n.toArray⟩,.slice qa k0 qc,.slice qb m0 qe] 36)):=dp;have J':J pre (W.alloc (.cells #[.int .u8 qo,.string ⟨n.toArray⟩,.slice qa k0 qc,.slice qb m0 qe] 36)):=hJ pre _ _ (Nw.below jN) hj;have uX:=hY pre #[.agg #[.int .u8 qo,.string ⟨n.toArray⟩,.slice qa k0 qc,.slice qb m0 qe]] f _ J' (Kp.below jN) ⟨⟨qo,⟨n.toArray⟩,qa,k0,qc,qb,m0,qe⟩,rfl,QV.kp (Kp.below jN)⟩ (lv dU);have HX:=ae (show(W.alloc (.cells #[.int .u8 qo,.string ⟨n.toArray⟩,.slice qa k0 qc,.slice qb m0 qe] 36)).heap[W.heap.size]?=some (.cells #[.int .u8 qo,.string ⟨n.toArray⟩,.slice qa k0 qc,.slice qb m0 qe] 36 (0,0))from aq rfl);have⟨eQ,Tu,HJ,FD,HY,HF⟩:=Xg jN em hJ hM hY hf;obtain⟨fn,tmps,assign,body,hy,KG⟩:=lu 2 uX;clear hq QV bN em aI ih cD eh hj jN J' uX hJ hM hY dU oA hf;refine oM func151 ?_;simp only[ntmps151,Nat.reduceAdd,Nat.reduceSub,ng];have jq:=fP;gi_wp2;refine KG.mono ?_;rintro e W2 ⟨rfl,zG,ke⟩;have hWl:¬M W.heap.size:=fun h=>by have:=FD.o _ h;omega
  have hx2:=(ke.same W.heap.size (by simp) hWl).trans HX.o;have p3:W2.cell? ⟨W.heap.size,3,none⟩=some (.slice qb m0 qe):=ao hx2 3;have Cv:=aM zG ((Kp.below eQ.o).trans ke);clear zG ke hx2 KG hy;gi_wp2;gi_loopw [14] (fun i wr=>∃k:Nat,k<=m0/\i=.int .i64 k/\J (pre++([f]++eK (s.take k))) wr/\Kp M W wr) (fun i _=>m0-(intOf i).toNat)
  case atStart=>exact⟨0,bn _,rfl,by simpa[eK]using Cv.o.1,Cv.o.2⟩
  case round=>
   exact qau
 |clear qyX;rw[<-cD]at CL;rw[<-eh]at CS;have⟨HCL,vQ,dN,gT⟩:=f8 CL CS cD eh;clear hq bN em aI ih CL CS;unfold FQ.val;rw[<-cD,<-eh];clear cD eh;refine oM func51 ?_;simp only[ntmps51,Nat.reduceAdd,Nat.reduceSub,ng];have jq:=fP;gi_wp2;have⟨W2,bp⟩:=az ((w.alloc (.cells #[.int .u8 qo,.string ⟨n.toArray⟩,.slice qa k0 qc,.slice qb m0 qe] 36)).alloc (.cells #[.int .u8 0,.string ⟨#[]⟩,.slice none 0 0,.slice none 0 0] 36));have ew:=mo bp;have x0:=sx bp;have x1:=kv bp;rw[<-bp];clear bp;have quO:=();exact qan
 |clear qyY;have qzw:=();exact qd4
 |clear qzx;have hM:=Xv sc on n a s left bT bB;rw[<-cD,<-eh]at hM;have⟨BX,FK⟩:=az (gF sc (.mk on n a s)&&(decide ((ag (.mk on n a s):Int)<=left)&&decide (bB+a_ (.mk on n a s)<=bT+1)));rw[<-FK]at hM⊢;have HB:=ae (show Below w.heap.size w (w.alloc (.cells #[.int .u8 on,.string ⟨n.toArray⟩,.slice qa k0 qc,.slice qb m0 qe] 36))from dp);have Nf:tu J sc left bT (w.alloc (.cells #[.int .u8 on,.string ⟨n.toArray⟩,.slice qa k0 qc,.slice qb m0 qe] 36)):=hJ.later HB.o;have zeM:J<w.heap.size:=(bQ hJ);have⟨el,Tu,HJ,HT⟩:=f8 bN em hJ ht;rw[<-cD]at hlen;rw[<-eh]at eN;clear hq bN em aI ih hok hJ ht;unfold FQ.val;rw[<-cD,<-eh];have⟨dN,gT,HN⟩:=cU cD eh nH;clear cD eh nH
  by_cases QT:1<=left/\bB<=bT
  ·obtain⟨S8,WH⟩:=QT;have C1:=ae (KC J sc left bT bB _ Nf S8 h1 WH);have ke:Kp (fun c=>c=J) w ((w.alloc (.cells #[.int .u8 on,.string ⟨n.toArray⟩,.slice qa k0 qc,.slice qb m0 qe] 36)).setCell ⟨J,1,none⟩ (.int .i64 (left-1))):=(Kp.below HB.o).trans (rx _);have zG:=Nf.set (left-1);have hx:vr w.heap.size on n (.slice qa k0 qc) (.slice qb m0 qe) ((w.alloc (.cells #[.int .u8 on,.string ⟨n.toArray⟩,.slice qa k0 qc,.slice qb m0 qe] 36)).setCell ⟨J,1,none⟩ (.int .i64 (left-1))):=(e_ _ _ _ _ (by show w.heap.size≠J;omega)).trans (aq rfl);have rA:=bS ke zG hx;have⟨W2,bp⟩:=az ((w.alloc (.cells #[.int .u8 on,.string ⟨n.toArray⟩,.slice qa k0 qc,.slice qb m0 qe] 36)).setCell ⟨J,1,none⟩ (.int .i64 (left-1)));rw[<-bp]at rA C1;clear ke zG hx Nf bp;have g0:=rA.o.2.2.c0;have g1:=rA.o.2.2.c1;have g2:=rA.o.2.2.c2;have g3:=rA.o.2.2.c3;have OD:gG W0 W2:=HT.o.kp rA.o.1 (fun b hb=>by subst hb;exact YB)
   by_cases ho:on<17
   ·have GF:((on:Int)<17):=by omega
    have zdh:¬((17:Int)<=(on:Int)):=by omega
    obtain⟨q0,q1,q2,q3,q4⟩:=OD.t0.rows on ho;obtain⟨TN,hr3,hr4⟩:=Nh on;obtain⟨⟨r0,r1,r2,r3,r4⟩,ea⟩:∃x,x=eE on:=⟨_,rfl⟩;rw[<-ea]at hM q0 q1 q2 q3 q4 TN hr3 hr4;simp only at hM q0 q1 q2 q3 q4 TN hr3 hr4;clear ea OD;have hX3:vr w.heap.size on n (.slice qa k0 qc) (.slice qb m0 qe) (W2.alloc (.cells #[.bool r0,.bool r1,.int .u8 r2,.int .i64 r3,.int .i64 r4] 173)):=rA.o.2.2.later dp;have hR3:Md W2.heap.size r0 r1 r2 r3 r4 (W2.alloc (.cells #[.bool r0,.bool r1,.int .u8 r2,.int .i64 r3,.int .i64 r4] 173)):=aq rfl;have hK3:Kp (fun c=>c=J) w (W2.alloc (.cells #[.bool r0,.bool r1,.int .u8 r2,.int .i64 r3,.int .i64 r4] 173)):=rA.o.1.trans (Kp.below dp);have hJ3:tu J sc (left-1) bT (W2.alloc (.cells #[.bool r0,.bool r1,.int .u8 r2,.int .i64 r3,.int .i64 r4] 173)):=rA.o.2.1.later dp;have⟨ji,ug,pE,zL⟩:=f8 hX3 hR3 hK3 hJ3;clear hX3 hR3 hK3 hJ3;have y0:=ji.o.c0;have y1:=ji.o.c1;have y2:=ji.o.c2;have y3:=ji.o.c3;have yj:=zL.o.c0;have j0:=rA.o.2.1.c0;have hPn:¬w.heap.size=W2.heap.size:=by have:=(bQ rA.o.2.2);omega
    have zg9:¬W2.heap.size=w.heap.size:=by omega
    have hJn:¬J=W2.heap.size:=by have:=(bQ rA.o.2.1);omega
    have zha:¬W2.heap.size=J:=by omega
    cases r0 with
    |true=>
     rw[Bool.true_or,dL]at hM
     cases dQ:rj r2 n with
     |false=>
      have qkj:=();exact qb7
     |true=>
      have qzy:=();exact qb7
    |false=>
     rw[Bool.false_or]at hM
     cases sc with
     |false=>
      have qiX:=();exact qaE
     |true=>
      rw[dL]at hM
      cases r1 with
      |false=>
       have qiX:=();exact qaE
      |true=>
       rw[dL]at hM
       cases dQ:rj r2 n with
       |false=>
        have qkj:=();exact qb7
       |true=>
        exact qb7
   ·have GF:¬((on:Int)<17):=by omega
    have zdh:((17:Int)<=(on:Int)):=by omega
    rw[QW zdh]at hM;have qwo:=();exact qaE
  ·have C1:=ae (Pq J sc left bT bB _ Nf h0 h1 QT);have HE:=ae (show BX=false by
    rw[FK,Bool.and_eq_false_iff];right;rw[Bool.and_eq_false_iff]
    by_cases hl:1<=left
    ·right;exact qgX
    ·left;simp only[decide_eq_false_iff_not];omega)
   clear Nf wk sM QT hM FK;exact qaj
 |have⟨RS,IV⟩:=az (f9 ps.reverse ins (.mk qo n a s));exact qd4):G:=h
theorem qhG(h:G:=by
 exact qjL):G:=h
theorem qau(h:G:=by
 obtain⟨k,hk,rfl,hj,bD⟩:=hrel
 by_cases hlt:k<m0
 first
 |clear qmC
  ·have bA:=cG gT.o hlt;obtain⟨b,off,rfl,kC,c1⟩:=HV.o.get bA;have d1:=bD.cell kC c1;have⟨x,hx⟩:=az (xs[k]);rw[<-hx]at d1;have hts:xs.take (k+1)=xs.take k++[x]:=by rw[hx];exact lq bA
   have uX:=HY.o (xs.take k) #[.string ⟨x.toArray⟩] x wr hj bD rfl (by rw[hx];exact KY bA);obtain⟨fn,tmps,assign,body,hy,KG⟩:=lu 2 uX;have⟨HS,mJ⟩:=bi hts bD;clear hts bD hj uX c1 hx;gi_wp2;refine KG.mono ?_;rintro e W2 (⟨rfl,zG,ke⟩|⟨h,_⟩)
   ·have HH:=aM zG ke;clear zG ke KG hy d1;gi_wp2;exact qkk
   ·exact h.elim
  ·obtain rfl:m0=k:=by omega
   have ht:xs.take m0=xs:=by rw[gT.o];exact dA
   rw[ht]at hj;have HH:=aM hj bD;clear hj bD ht;gi_wp2;exact⟨rfl,.tuple #[],by simp[results,results249,go_sem],⟨_,rfl⟩,.inl HH.o⟩
 |clear qq5
  ·have AS:k<ss.length:=by have:=gT.o;omega
   have qxC:=();exact qjr
  ·obtain rfl:k=m0:=by omega
   exact qiR
 |clear qzz
  ·have bA:=cG gT.o hlt;have qzA:=();exact qbI
  ·obtain rfl:m0=k:=by omega
   have up:=();exact qb2
 |clear qub
  ·have bA:=cG gT.o hlt;have qzB:=();exact qbI
  ·obtain rfl:m0=k:=by omega
   have up:=();exact qb2
 |clear qzC
  ·have bA:=cG gT.o hlt;have qzD:=();exact qbI
  ·obtain rfl:m0=k:=by omega
   exact qb2
 |clear quc
  ·have bA:=cG gT.o hlt;exact qbI
  ·obtain rfl:m0=k:=by omega
   exact qb2
 |clear qwd
  ·have AS:k<ss.length:=by have:=gT.o;omega
   exact qjr
  ·obtain rfl:k=m0:=by omega
   exact qiR
 |·have bA:=cG gT.o hlt;have qo9:=();exact qbz
  ·obtain rfl:k=m0:=by omega
   have ht:s.take k=s:=by rw[gT.o];exact dA
   rw[ht]at hj;have HH:=aM hj bD;clear hj bD ht;gi_wp2;exact qbn):G:=h
theorem qjq(h:G:=by
 have hEl:EB<A1.heap.size:=(bQ Hm);rw[<-sG,<-Al];have HA:=cH wS Hm PS hEl;refine hK _ _ (fun _=>by rw[c9.o];exact HA.o.1) (fun _=>?_);clear hK K sG Al wS Hm PS hEl
 first
 |clear qxB;refine cb 16 rfl fun K hK=>?_
  have qzE:=();exact qkl
 |refine cb 7 rfl fun K hK=>?_
  exact qkl):G:=h
theorem qkm(h:G:=by
 refine bH 0 18 (.pointer (some ⟨kb,0,none⟩)) rfl b_ fun cK=>?_;simp only[am];refine bH 1 19 (.pointer (some ⟨kb,0,none⟩)) rfl cK fun f_=>?_;simp only[am]
 first
 |clear qzF;refine bH 2 20 (.pointer (some ⟨kb,0,none⟩)) rfl f_ fun gX=>?_
  simp only[am];refine di 3 21 (.map (some mF)) rfl (fun V hX=>by obtain⟨h0,h1,h2⟩:=ff V hX;go_simp) gX fun iQ=>?_;simp only[am];refine bH 4 22 (.pointer (some ⟨w.heap.size+1,1,none⟩)) rfl iQ fun jM=>?_;have qzG:=();exact qkn
 |refine bH 2 20 (.pointer (some ⟨kb,1,none⟩)) rfl f_ fun gX=>?_
  simp only[am];refine di 3 21 (.map (some mT)) rfl (fun V hX=>by obtain⟨h0,h1,h2⟩:=ff V hX;go_simp) gX fun iQ=>?_;simp only[am];refine bH 4 22 (.pointer (some ⟨w.heap.size,1,none⟩)) rfl iQ fun jM=>?_;exact qkn):G:=h
theorem qjc(h:G:=by
 simp only at d1 d2 d3;have⟨W5,hZ⟩:=az (wr.alloc (.cells #[.string ⟨nm.toArray⟩,.bool qv,.string qn,.slice qa ql qc] 47));have bE:=dj hZ
 first
 |clear up;have lp:=eR.later bE.drew;have hf5:aN (fun b=>b<w.heap.size) W5.drew (TQ.val ⟨qv,qn,qa,ql,qc⟩) b.ts[j].2:=hf.move (fun b hb hlt=>⟨hb,((kH.trans (Kp.below bE.drew)).same b hlt (iX b hb))⟩);obtain⟨w6,cV,Ln,Lo,Re⟩:=lp.storeT (by simp <;>omega) (by omega) (x:=nm) (by rw[dQ];exact HP.o.2.1 _ (aH bA)) hf5 (HP.o.2.2.2.2.2 _ (aH bA)) (l':=b.ts.take (j+1)) (fun y=>by rw[Ai HP.o.2.2.2.1 bA,<-dQ]);have x8:=ao eR.box 1;have x9:=aa bE x8;have I1:=aa bE.drew x8;have HK:=aM Ln ((bD.trans (Kp.below bE.drew)).trans (Lo.mono (fun b _ h=>by rw[HM.o];exact .inr h)));have tS:=ae hZ;rw[hZ]at x9 I1;have Cu:(j:Int)<(n2:Int):=by omega
  clear eR lp Ln bD Lo Re hf hf5 bE kH iX hok dQ hZ bA c0 c1 c2 c3;rw[tS.o]at cV;unfold TQ.val at cV;go_wp2;go_region;go_wp2;go_roundw
  case rel=>exact⟨j+1,by omega,by go_num,HK.o.2,HK.o.1⟩
  case measure=>simp[intOf];omega
 |have x5:=cA hZ;have Cu:(j:Int)<(n2:Int):=by omega
  have kF:(nm,g)∈b.ts:=by rw[dQ,hg];exact aH lG
  have CM:=IE nm W5 (by omega);exact qiG):G:=h
theorem qdY(h:G:=by
 rintro X Y hn ⟨h1,h2,h3,h4⟩;exact⟨h1,h2,hn.cells h3,qh h4 hn⟩):G:=h
theorem qeJ(h:G:=by
 have l1:a.length=a'.length:=by have:=congrArg List.length h2;rwa [l7,l7]at this
 have l2:s.length=s'.length:=by have:=congrArg List.length h3;rwa [iT,iT]at this
 first
 |clear an;refine⟨⟨rfl,l1,l2⟩,.inr hq,(Ti l1).2 h2,?_⟩;rw[aG hq];refine(nr s s' ((n,n')::c) ht.2 hu.2 l2).2 ?_;simp only[cM,yq,List.length_map,fB];exact h3
 |refine⟨⟨rfl,l1,l2⟩,.inl h1,(Ti l1).2 h2,?_⟩;rw[aw hq];exact(nr s s' c ht.2 hu.2 l2).2 h3):G:=h
theorem qhQ(h:G:=by
 have t1:W3.cell? ⟨w.heap.size+1,1,none⟩=some (.string ⟨n.toArray⟩):=ao xt 1;have t2:W3.cell? ⟨w.heap.size+1,2,none⟩=some (.slice qa k0 qc):=ao xt 2
 first
 |clear quk;rw[<-cD,<-eh];have HX:=bS xp xt x1;clear hq bN em aI ih XA cV cD eh IV MQ aS wA xp xt x1 ec hL Tz yB hLs;go_enter func91,ntmps91;go_wp2;rw[<-Ci.o];have⟨W1,cC⟩:=az (W3.alloc (.cells #[.int .u8 qo,.string ⟨n.toArray⟩,.slice none 0 0,.slice none 0 0] 36));have F4:=dj cC;have Z1:W1.heap[w.heap.size+1+1+1]?=some (.cells #[.int .u8 qo,.string ⟨n.toArray⟩,.slice none 0 0,.slice none 0 0] 36 (0,0)):=by rw[cC];exact aq (by have:=bV.o.2;omega)
  have qzH:=();exact qko
 |rw[<-cD];clear hq bN aI ih XA cV cD hR aS wA xp x1 ec
  cases qv with
  |true=>
   have Cj:Hd (R=if ins.contains n then some (bj n)else(cm ps.reverse n).map bj):=ae (by rw[HR.o];simp[iO]);clear gZ;have qzI:=();exact qkp
  |false=>
   have Cj:Hd (R=(eY ps.reverse ins a).map (Tm.mk false n)):=ae (by rw[HR.o];simp[iO]);exact qkp):G:=h
theorem qkk(h:G:=by
 go_roundw
 case rel=>exact⟨k+1,by omega,by go_num,by rw[HS.o];exact HH.o.1,mJ.o.trans HH.o.2⟩
 case measure=>simp[intOf];omega):G:=h
theorem qcD(h:G:=by
 have x6:=nJ (v0:=.int .u8 p0) (v1:=.string p1) (v2:=.slice p2 p3 p4) (v3:=.slice p5 p6 p7) Ic.o
 first
 |clear up;have k6:=ev (W:=w9) (b:=w.heap.size+1+1) (v0:=.int .u8 p0) (v1:=.string p1) (v2:=.slice p2 p3 p4) (v3:=.slice p5 p6 p7);have⟨W6,dr⟩:=az ((((w9.setCell ⟨w.heap.size+1+1,0,none⟩ (.int .u8 p0)).setCell ⟨w.heap.size+1+1,1,none⟩ (.string p1)).setCell ⟨w.heap.size+1+1,2,none⟩ (.slice p2 p3 p4)).setCell ⟨w.heap.size+1+1,3,none⟩ (.slice p5 p6 p7));exact qbK
 |clear Ss;have k6:=ev (W:=w7) (b:=w.heap.size+1) (v0:=.int .u8 p0) (v1:=.string p1) (v2:=.slice p2 p3 p4) (v3:=.slice p5 p6 p7);have⟨W6,dr⟩:=az ((((w7.setCell ⟨w.heap.size+1,0,none⟩ (.int .u8 p0)).setCell ⟨w.heap.size+1,1,none⟩ (.string p1)).setCell ⟨w.heap.size+1,2,none⟩ (.slice p2 p3 p4)).setCell ⟨w.heap.size+1,3,none⟩ (.slice p5 p6 p7));have ZU:=();exact qiJ
 |have k6:=ev (W:=w6) (b:=w.heap.size+1) (v0:=.int .u8 p0) (v1:=.string p1) (v2:=.slice p2 p3 p4) (v3:=.slice p5 p6 p7);have⟨W6,dr⟩:=az ((((w6.setCell ⟨w.heap.size+1,0,none⟩ (.int .u8 p0)).setCell ⟨w.heap.size+1,1,none⟩ (.string p1)).setCell ⟨w.heap.size+1,2,none⟩ (.slice p2 p3 p4)).setCell ⟨w.heap.size+1,3,none⟩ (.slice p5 p6 p7));exact qiJ):G:=h
theorem qiW(h:G:=by
 simp at PQ;obtain⟨dQ,rfl⟩:=PQ;have iZ:(xn==yn)=false:=by simpa using dQ
 have lw:(!(xn==yn))=true:=by simpa using dQ
 have HE:=ae G7;clear hm G7 dQ MY
 first
 |clear qwm;exact qdA
 |go_enter func83,ntmps83;exact qhO):G:=h
theorem qkq(h:G:=by
 clear hS xb k0 r0 mlt hlk rS Lw hg M4 dQ kH hF cr aD UX ck UY hbk;have jq:=fP;go_wp2;clear dk;exact qcS):G:=h
theorem qet(h:G:=by
 go_wp2_with (go_at_call 119;refine(C1.o _).mono ?_;rintro e w' ⟨rfl,hb⟩);go_ret;exact⟨by simp,hb⟩):G:=h
theorem qkr(h:G:=by
 have l2:=(hlk (W1.alloc (.cells #[.int .u8 0,.string ⟨#[]⟩,.slice none 0 0,.slice none 0 0] 36)).drew (bZ _ _ _ (by have:=xd.fs.lt;omega))).1
 first
 |clear qzJ;have⟨W2,bp⟩:=az (W1.alloc (.cells #[.int .u8 0,.string ⟨#[]⟩,.slice none 0 0,.slice none 0 0] 36)).drew;have HE:=ae (show R=(k,71) by rw[HR.o];simp only[hg]);have cQ:=ae (show Below W.heap.size W W2 by rw[bp];exact hb1.tr sZ.drew);clear tN hR hp WP WO WQ hM0 hMs hs hf j7 oY hc eR eB jQ vh tC hl hps cC hb1 jv aI nM vD Ec uM Kf xd hlk hg sZ gH M0 Jk bq Bw Lz SI x1;have qx7:=();exact qc1
 |have⟨W2,bp⟩:=az (W1.alloc (.cells #[.int .u8 Ja,.string Jb,.slice Jc Jd Je,.slice Jf Jg Jh] 36)).drew;have bU:Below W1.heap.size W1 W2:=by rw[bp];exact dp.drew
  have Ax:=hb1.tr bU;have x2:W2.heap[W1.heap.size]?=some (.cells #[.int .u8 Ja,.string Jb,.slice Jc Jd Je,.slice Jf Jg Jh] 36 (0,0)):=by rw[bp];exact aq rfl
  have xp:=bY bU x1;have⟨I,hI⟩:=az (f9 ps.reverse [] F);have N8:=HR.o;rw[hg,<-hI]at N8;simp only at N8;have CI:=G8 ⟨⟨16,⟨n.toArray⟩,sa,n1,sc,sb,m2,se⟩,⟨fo,fn,fa,fl,fc,fb,fm,fe⟩,ca,cl,cc⟩ ps hl hps F aI [] [] (by have:=aI.1;simp;omega) (fun _=>rfl) (.slice none 0 0) (fun b=>¬M b) W2 ⟨fo,fn,fa,fl,fc,fb,fm,fe⟩ (hc.1.later Ax) (Hl _) (hf.later Ax);rw[<-hI]at CI;simp only[gd.val,gd.cells,FQ.val]at CI;have HC:=ae CI;have iG:W1.heap.size<W2.heap.size:=(bQ x2);have XT:iN (fun b=>¬M b) (fun b=>¬M b/\b≠W1.heap.size) W1 W2:=fun b hb hlt=>⟨⟨hb,by omega⟩,bU.block b hlt⟩
  have Cq:=aM Lw (rS.move XT);have Bb:=gN xd.ltb xd.fs.lt xd.ts.lt iG jv;have Gk:=ae Ec;have H2:=cH bU Ax x2 xp;have HK2:=ae (xd.move XT (bU.block _ xd.ltb) (bU.block _ xd.fs.lt) (bU.block _ xd.ts.lt));have _b:=ae (show ∀im,I=some im->dx im from fun im h=>Eb HP.o (by rw[<-hI];exact h));have Oz:=ae N8;clear tN hR hp WP WO WQ hM0 hMs hs hf j7 oY hc eR eB jQ vh tC hl hps cC hb1 jv aI nM vD Ec uM Kf xd hlk hg sZ gH M0 Jk bq Bw Lz SI x1 CI N8 hI rS Lw bU Ax x2 xp iG XT;have up:=();exact qc1):G:=h
theorem qks(h:G:=by
 have l2:=(hlk (W5.alloc (.cells #[.int .u8 0,.string ⟨#[]⟩,.slice none 0 0,.slice none 0 0] 36)).drew (bZ _ _ _ (by have:=lp.fs.lt;omega))).1
 first
 |clear up;have⟨W6,dr⟩:=az (W5.alloc (.cells #[.int .u8 0,.string ⟨#[]⟩,.slice none 0 0,.slice none 0 0] 36)).drew;have mS:Below W5.heap.size W5 W6:=by rw[dr];exact bE.drew
  have Gd:Below W6.heap.size W6 W6.drew:=(ar _ _).drew;have Uc:=(lp.later mS).later Gd;obtain⟨w7,cV,D6,qS,WT⟩:=Uc.storeF (fun h=>h HG.o.1) (by have:=HB.o.1;omega) (x:=n) (by have:=HF.o.2.2.1;omega) ((Lv.later mS).later Gd) _b.o (l':=iB n im k.fs) (fun y=>D5 hg y);have zc1:Kp (N2 mF mT) W6.drew w7:=qS.mono (fun b _ h=>.inl h);have r0:=aa mS g0;have r1:=aa Gd r0;have r2:=aa mS g2;have r3:=aa Gd r2;obtain⟨q0,q1,q2,q3,_,_,_,_⟩:=dw x7;have r4:=aa mS q0;have r5:=aa Gd r4;have r6:=aa mS q1;have r7:=aa Gd r6;have r8:=aa mS q2;have r9:=aa Gd r8;have r10:=aa mS q3;have r11:=aa Gd r10;have HE:=ae (show R=({k with fs:=iB n im k.fs },0) by rw[N8];simp only[hg]);have _n:=aM D6 ((Kp.below (((H3.o.1.tr qg).tr mS).tr Gd)).trans zc1);unfold FQ.val at cV;clear lp hlk Uc D6 qS zc1 WT hg qg sW bE mS Gd x7 Lv N8 hZ Nz;go_region
  all_goals
   rw[<-dr];clear dr;go_wp2;go_region;go_wp2;go_ret;exact dq.good (nF+1) nT HE.o _n.o.2 (by omega) (by omega) _n.o.1
 |have⟨W6,dr⟩:=az (W5.alloc (.cells #[.int .u8 Ja,.string Jb,.slice Jc Jd Je,.slice Jf Jg Jh] 36)).drew;have mS:Below W5.heap.size W5 W6:=by rw[dr];exact dp.drew
  have x6:W6.heap[W5.heap.size]?=some (.cells #[.int .u8 Ja,.string Jb,.slice Jc Jd Je,.slice Jf Jg Jh] 36 (0,0)):=by rw[dr];exact aq rfl
  obtain⟨q0,q1,q2,q3,_,_,_,_⟩:=dw x7;have⟨r0,r1,r2,r3⟩:=mH mS q0 q1 q2 q3;obtain⟨r4,r5,r6,r7,_,_,_,_⟩:=dw x6;have CA:=yQ g im [] (.slice none 0 0) _ _ W6 ⟨Ja,Jb,Jc,Jd,Je,Jf,Jg,Jh⟩ ⟨p0,p1,p2,p3,p4,p5,p6,p7⟩ (by have:=Lw.nodes;simp[fL];omega) Lw.fit (rS.later mS) (Lv.later mS) (cw.nil W6);simp only[FQ.val,List.reverse_nil]at CA;have HE:=ae (show R=if cI [] g im then(k,0)else(k,70) by rw[N8];simp only[hg]);have⟨bb,dz⟩:=az (cI [] g im);rw[<-dz]at HE CA;have Ji:=ae CA;have N4:=aM (lp.later mS) ((H3.o.1.tr qg).tr mS);clear lp hlk hg qg sW bE mS x7 x6 Lv N8 hZ Nz CA dz rS Lw;go_region
  all_goals
   rw[<-dr];clear dr;cases bb
   ·go_wp2_with (go_at_call 92;refine Ji.o.mono ?_;rintro e w7 ⟨rfl,g_⟩;have H7:=ae g_;clear g_);go_ret;exact dq.bad HE.o (by decide) (Kp.below (N4.o.2.tr H7.o))
   ·go_wp2_with (go_at_call 92;refine Ji.o.mono ?_;rintro e w7 ⟨rfl,g_⟩;have H7:=ae g_;clear g_);go_ret;exact dq.good nF nT HE.o (Kp.below (N4.o.2.tr H7.o)) (by omega) (by omega) (N4.o.1.later H7.o)):G:=h
theorem qel(h:G:=by
 obtain⟨qs,hk,ho,ht⟩:=h;exact⟨qs,hk,bh ho hb,fun j h1 h2=>(ht j h1 h2).move (fun b hok hlt=>⟨hok,hb b hok.1 hlt⟩)⟩):G:=h
theorem qbx(h:G:=by
 have cr:((a.map (ep f)).take k).length=k:=by rw[dO];have:=dN.o;simp;omega
 first
 |clear qoE;have qzL:=();exact qbv
 |clear qoG;have qu3:=();exact qcO
 |clear qzM;have jW:(a.map (ep f)).take k=(a.map (ep f)):=gB (by have:=dN.o;simp;omega);have qzN:=();exact qax
 |have jW:(a.map (ep f)).take k=(a.map (ep f)):=gB (by have:=dN.o;simp;omega);have qzO:=();exact qax):G:=h
theorem qbR(h:G:=by
 obtain⟨b1,o1,⟨xv,xn,xa,xl,xc⟩,rfl,hok,hx,c0,c1,c2⟩:=HAv.o.get lU
 first
 |clear qtM;have Am:=H2.o.1.tr aD;have qzP:=();exact qd5
 |clear qtN;have Am:=H2.o.1.tr aD;have qzQ:=();exact qd5
 |clear qxI;have Am:=aD;exact qd5
 |simp only at c0 c1 c2;have qoW:=();exact qab):G:=h
theorem qbo(h:G:=by
 simp only[Prod.mk.injEq]at h;exact absurd h.2 he):G:=h
theorem qkt(h:G:=by
 go_loopw [67] (fun i wr=>∃k:Nat,k<=k0/\i=.int .i64 k/\Below W2.heap.size W2 wr/\R=ct ps.reverse (xa.drop k) (ya.drop k)) (fun i _=>k0-(intOf i).toNat)
 first
 |clear qzR
  case atStart=>exact⟨0,bn _,rfl,(ar _ _),by simpa using HMt.o⟩
  case round=>
   have qh0:=();exact qaA
 |case atStart=>exact⟨0,bn _,rfl,HBp.o,by simpa using HMt.o⟩
  case round=>
   have qh0:=();exact qaA):G:=h
theorem qeg(h:G:=by
 obtain⟨a,cap,qs,hv,hc,hs,hf⟩:=h;refine⟨a,cap,qs,hv,hc,?_,fun j hj=>(hf j hj).move hb⟩;have it:=();exact qb9):G:=h
theorem qku(h:G:=by
 obtain⟨e0,e1,e2,_⟩:=ir H1.o.2.1;simp only[TQ.val];go_enter func248,ntmps248
 first
 |clear qzT;exact qjn
 |exact qhz):G:=h
theorem qfL(h:G:=by
 obtain⟨g,hg⟩:=Classical.axiomOfChoice hC;refine⟨a0,cap,g,rfl,hlc,?_,fun j hj=>(hg j hj).2⟩;exact qbu):G:=h
theorem qgI(h:G:=by
 go_wp2;go_ret;exact⟨aJ (zZ (by rw[lP];omega) HR.o (by rw[qE h1];exact HF.o) (by have:=HA.o;rwa [C_]at this)).symm,HW.o⟩):G:=h
theorem qjm(h:G:=by
 have hn:fQ n=true:=by have:=hb.1;rw[hq]at this;simpa using this
 have:(x==n)=false:=by
  rw[Bool.eq_false_iff];intro h;rw[ef]at h;rw[h,hn]at hx;cases hx
 first
 |clear GB;simp[this]
 |rw[List.count_filter (by simp[this])]):G:=h
theorem qfi(h:G:=by
 obtain⟨a,cap,qs,hv,hc,hs,hf⟩:=h;refine⟨a,cap,qs,hv,hc,?_,fun j hj=>(hf j hj).nw hn⟩;exact qb9):G:=h
theorem qkv(h:G:=by
 obtain⟨e0,e1,e2,_⟩:=ir H1.o.2.1;simp only[TQ.val];go_enter func197,ntmps197
 first
 |clear qzU;have qxt:=();exact qjn
 |have qtL:=();exact qhz):G:=h
theorem qed(h:G:=by
 unfold Act.put;split
 ·rename_i d' Ε;have:d'≠d:=fun e=>uD (hok.one j k oj o d hj ho MN (by rw[Ε,e]));simp[this]
 ·rfl):G:=h
theorem qkw(h:G:=by
 have Bn:cB (w.heap.size<=·) W6 (.slice ra k0 rc) a:=hp.move (fun b hok hlt=>⟨aR cQ.o.size hok,k6.same b hlt (by have:W2.heap.size<=b:=hok;omega)⟩)
 first
 |clear qzV;refine bX (v:=TQ.val ⟨qv,⟨n.toArray⟩,ra,k0,rc⟩) (by simp[TQ.val,results,results107,go_sem,g0,g1,g2]) rfl ⟨⟨qv,⟨n.toArray⟩,ra,k0,rc⟩,rfl,aW.2 ⟨_,rfl,Bn⟩,Below.kp1 (cQ.o.trans (cd.mono cQ.o.size)) k6 (by omega)⟩
 |have lw:eL (w.heap.size<=·) W6 (.slice rb m0 re) s:=hs.move (fun b hok hlt=>⟨aR cQ.o.size hok,k6.same b hlt (by have:W2.heap.size<=b:=hok;omega)⟩);refine bX (v:=FQ.val ⟨qo,⟨n.toArray⟩,ra,k0,rc,rb,m0,re⟩) (by simp[FQ.val,results,results51,go_sem,g0,g1,g2,g3]) rfl ⟨⟨qo,⟨n.toArray⟩,ra,k0,rc,rb,m0,re⟩,rfl,aX.2 ⟨_,_,rfl,Bn,lw⟩,Below.kp1 (cQ.o.trans (cd.mono cQ.o.size)) k6 (by omega)⟩):G:=h
theorem qkx(h:G:=by
 rw[hm]
 by_cases h1:uo=vo
 ·by_cases h2:k0=m0
  ·have h3:¬k1=m1:=fun h=>FY ⟨h1,h2,h⟩;simp[h3]
  ·simp[h2]
 ·simp[h1]):G:=h
theorem qeq(h:G:=by
 unfold eA ej dI;cases decide (n.length<=16)<;>cases(n.head?==some 63)<;>cases AT n.tail<;>cases B4 n.tail<;>rfl):G:=h
theorem qcj(h:G:=by
 intro l J Jx W hk hM hl hlM hJ _ hY hj;have WI:=(bQ hX);have Cc:=(hk.same X WI MP).trans hX
 first
 |clear I8;have c0:W.cell? ⟨X,0,none⟩=some (.bool q.v):=ao Cc 0;exact qif
 |clear GB;have qzW:=();exact qcA
 |have qzX:=();exact qcA):G:=h
theorem qjk(h:G:=by
 rw[hS]at h;exact⟨aa h (ao lp.box 1),Ed V (h.block _ bA),aa h (ao y5 0),aa h (ao y5 1),aa h (ao y5 2),aa h (ao y5 3)⟩):G:=h
theorem qck(h:G:=by
 rw[hg]at h;simp only at h;split at h
 ·cases h;exact hk
 ·cases h):G:=h
theorem qeE(h:G:=by
 simp only[qD,ak,bM]at h;have h1:=h.2.2.1.1;have:(c==63)=false:=by
  rw[Bool.eq_false_iff];intro h2;rw[ef]at h2;subst h2;exact absurd h1 (by decide)
 first
 |clear an;simp[cW,this]
 |simp[eA,ej,dI,this]):G:=h
theorem qjY(h:G:=by
 subst jY;injection hv with hv _ hc;injection hv with hv;injection hv with hv;subst hv;subst hc;refine⟨_,_,rfl,hn,.inr ⟨g,0,rfl,fun j hj=>?_⟩⟩
 first
 |clear up;have hf:(wG l)[j]?=some (.int .i64 (l[j]:Nat)):=by simp[wG,hj]
  rw[<-hx]at hf;have k0:(cur.toList.take (l.length*1))[j]?=cur[j]?:=by rw[List.getElem?_take,aG (by omega)];simp
  rw[k0]at hf;rw[Nat.zero_add];exact(aT hg _).trans hf
 |have hf:=Ad ps j hj;rw[<-hx]at hf;have k0:(cur.toList.take (ps.length*2))[j*2]?=cur[j*2]?:=by rw[List.getElem?_take,aG (by omega)];simp
  have k1:(cur.toList.take (ps.length*2))[j*2+1]?=cur[j*2+1]?:=by rw[List.getElem?_take,aG (by omega)];simp
  rw[k0,k1]at hf;exact⟨by rw[Nat.zero_add];exact(aT hg _).trans hf.1,by rw[Nat.zero_add];exact(aT hg _).trans hf.2⟩):G:=h
theorem qjh(h:G:=by
 have lw:(p2==yn)=false:=by simpa using hb
 have HT:=ae (show nW ps.reverse xn yn=nW (ps.take j).reverse xn yn by rw[ht];simp[iZ,lw]);clear ht;go_wp2
 first
 |clear up;have qto:=();exact qac
 |go_roundw
  case rel=>exact⟨j,by omega,by go_num,oh.o.trans (dp.mono oh.o.size),HT.o⟩
  case measure=>simp[intOf];try omega):G:=h
theorem qd6(h:G:=by
 go_simp;refine hK _ _ (fun _=>by rw[c9.o];exact cd.alloc cd.size _) (fun _=>?_);clear hK K
 first
 |clear qzY;refine cb 15 rfl fun K hK=>?_
  refine qk (.tmp 23) (.tmp 37) rfl W1.heap.size ra M rc (mm (bd.fs.take k)) [fm,.mk 1 nm [] []] [x,⟨1,⟨nm.toArray⟩,none,0,0,none,0,0⟩] wz A _ HR.o HM.o hwA HB.o.size rfl (by simp) (fun j h1 h2=>?_) rfl rfl rfl (by simp;omega) (fun g eP w4 ea Nn=>?_)
  ·rcases j with _|_|j
   ·exact HX.o.move (show iN (fun b=>b<w.heap.size) (fun b=>(Value.slice ra M rc).ownBlock≠some b) wz A from fun c hc hlt=>⟨fun e=>by obtain⟨_,_,ho,_⟩:=HR.o;have:=(ho.lt c e).1;have:=kf.o.1.size;omega,hwA.block c hlt⟩)
   ·exact aX.2 ⟨_,_,rfl,cE,iE⟩
   ·simp only[fB,List.length_nil]at h1;omega
  have cr:=Sd bA;rw[<-HNf.o]at cr;simp only at cr;rw[<-cr]at ea;have sQ:=ae ea;have e9:=ae (Nn W1 cd (aK _));clear ea Nn cd hwA hA cr;have ZU:=();exact qaN
 |clear qzZ;refine cb 16 rfl fun K hK=>?_
  refine qk (.tmp 46) (.tmp 61) rfl W1.heap.size ra M rc (mm bd.fs++nG (bd.ts.take j)) [.mk 1 nm [tm] []] [⟨1,⟨nm.toArray⟩,some ⟨wz.heap.size,0,none⟩,1,1,none,0,0⟩] wz A _ HR.o HM.o hwA HB.o.size rfl (by simp) (fun j h1 h2=>?_) rfl rfl rfl (by simp;omega) (fun g eP w4 ea Nn=>?_)
  ·rcases j with _|j
   ·have aE:∀c,(Value.slice ra M rc).ownBlock=some c->W1.heap.size<=c/\c<wz.heap.size:=fun c e=>by obtain⟨_,_,ho,_⟩:=HR.o;exact ho.lt c e
    refine aX.2 ⟨_,_,rfl,⟨_,1,fun _=>TQ.val x,rfl,.inr ⟨wz.heap.size,0,rfl,fun e=>by have:=aE _ e;omega,fun j hj=>?_⟩,fun j hj=>?_⟩,iE⟩
    ·obtain rfl:j=0:=by simpa using hj
     exact⟨_,_,_,rfl,n8 Z'⟩
    ·obtain rfl:j=0:=by simpa using hj
     exact HX.o.move (show iN (fun b=>b<w.heap.size) (fun b=>(Value.slice ra M rc).ownBlock≠some b) wz A from fun c hc fC=>⟨fun e=>by have:=(aE c e).1;have:=kf.o.1.size;omega,hwA.block c fC⟩)
   ·simp only[fB,List.length_nil]at h1;omega
  have cr:=Se bA;rw[<-HNf.o]at cr;simp only at cr;rw[List.append_assoc,<-cr]at ea;have sQ:=ae ea;have e9:=ae (Nn W1 cd (aK _));clear ea Nn cd hwA hA cr lJ hw0 Z';have qsN:=();exact qaN
 |obtain⟨qs,eJ,aE,gM⟩:=fk.o.row;rw[dR.o]at eJ aE;have n_:=cd.size;have ru:=fk.o.size;refine cb 12 rfl fun K hK=>?_
  first
  |clear qz0;refine bz (.tmp 20) (.tmp 30) 23 rfl W3.heap.size 40 sB (.agg #[.string ByteArray.empty,.int .u8 0,.string ByteArray.empty,.slice none 0 0,.slice none 0 0]) 5 88 underlying23 hi AV xV B8 rfl (by decide) (.slice ra j rc) j _ rfl ((bh aE (fun b _ hlt=>cd.block b hlt)).alloc _) ⟨_,0,none⟩ 1 1 (BF (nm,⟨n2,p1,p2,p3,p4,p5,p6,p7⟩)) rfl rfl (da (cs:=#[.string ⟨nm.toArray⟩,.int .u8 n2,.string p1,.slice p2 p3 p4,.slice p5 p6 p7]) (t:=40) (fr:=(0,0)) (fR A _)) (by simp[BF,FQ.cells,Value.oneCell']) (by decide) (by unfold maxLen;omega) (by omega) (by simp;omega) (A.heap.size+1) (by simp) ?_
   intro g eP w4 aV au hg eM;have h4:=fk.o.at4 (kk:=0) aE cd au;have cV:=fk.o.stepFB (F:=0) (x:=nm) (t:=k.fs[j].2) (g:=g) (cap:=eP) (by rw[dR.o];exact aE) (by rw[dR.o];exact eJ) gM cd (show aC (wr.heap.size<=·) A (FQ.val ⟨n2,p1,p2,p3,p4,p5,p6,p7⟩) k.fs[j].2 from hp) (by rw[dR.o];exact aV) au hg rfl;rw[dR.o,WW.o]at cV;have qga:=();exact qae
  |refine bz (.tmp 46) (.tmp 56) 24 rfl W6.heap.size 47 QV (.agg #[.string ByteArray.empty,.bool false,.string ByteArray.empty,.slice none 0 0]) 4 64 underlying24 hq hqa MY hqc rfl (by decide) (.slice ra j rc) j _ rfl ((bh aE (fun b _ hlt=>cd.block b hlt)).alloc _) ⟨_,0,none⟩ 1 1 (BT (nm,⟨n2,p1,p2,p3,p4⟩)) rfl rfl (da (cs:=#[.string ⟨nm.toArray⟩,.bool n2,.string p1,.slice p2 p3 p4]) (t:=47) (fr:=(0,0)) (fR A _)) (by simp[BT,TQ.cells,Value.oneCell']) (by decide) (by unfold maxLen;omega) (by omega) (by simp;omega) (A.heap.size+1) (by simp) ?_
   intro g eP w4 aV au hg eM;have h4:=fk.o.at4 (kk:=1) aE cd au;have cV:=fk.o.stepTB (F:=1) (x:=nm) (t:=k.ts[j].2) (g:=g) (cap:=eP) (by rw[dR.o];exact aE) (by rw[dR.o];exact eJ) gM cd (show aN (wr.heap.size<=·) A (TQ.val ⟨n2,p1,p2,p3,p4⟩) k.ts[j].2 from hp) (by rw[dR.o];exact aV) au hg rfl;rw[dR.o,WW.o]at cV;have qga:=();exact qae):G:=h
theorem qky(h:G:=by
 have I_:ps.length+fL xs[k]<=1000000000:=by have:=Lq xs[k] (aH bA);first|omega|(simp only[ei,fB,List.length_nil];omega)
 have HU:=ae (hu.later aD)
 first
 |clear qz1;have qz2:=();exact qa2
 |have qz3:=();exact qa2):G:=h
theorem qiI(h:G:=by
 have ew:Below w.heap.size w W2:=mo bp;have x0:W2.heap[w.heap.size]?=some (.cells #[.slice qa n1 qc,.slice qb n2 qe] 26 (0,0)):=sx bp
 first
 |clear qv2;have x1:W2.heap[w.heap.size+1]?=some (.cells #[.slice ra m1 rc,.slice rb m2 re] 26 (0,0)):=kv bp;have qyT:=();exact qjX
 |have x1:W2.heap[w.heap.size+1]?=some (.cells #[.slice ra n1 rc,.slice rb n2 re] 26 (0,0)):=kv bp;exact qjX):G:=h
theorem qgT(h:G:=by
 have⟨el,lH,gZ⟩:=cU bN aI.args ih;have⟨k0,cD⟩:=az a.length;rw[<-cD]at hlen;have dN:=ae cD;clear hq bN aI ih;unfold TQ.val;rw[<-cD];clear cD
 first
 |clear qrR;refine oM func53 ?_;simp only[ntmps53,Nat.reduceAdd,Nat.reduceSub,ng];have jq:=fP;gi_wp2;have⟨W1,cC⟩:=az (((w.alloc (.cells #[.bool qv,.string ⟨n.toArray⟩,.slice qa k0 qc] 43)).alloc (.cells #[.bool false,.string ⟨#[]⟩,.slice none 0 0] 43)).alloc (.cells #[.bool qv,.string ⟨n.toArray⟩,.slice none 0 0] 43));have jN:=xK cC;have x1:W1.heap[w.heap.size+1]?=some (.cells #[.bool false,.string ⟨#[]⟩,.slice none 0 0] 43 (0,0)):=by rw[cC,bZ _ _ _ (by simp)];exact aq (by simp)
  have x2:=qw cC;have qz4:=();exact qaP
 |cases qv with
  |false=>
   have hp:aU (.mk false n a)=.mk false n (a.map aU):=by simp[aU,nn]
   rw[hp];clear hp;exact qgk
  |true=>
   cases hh:cW n with
   |false=>
    have hp:aU (.mk true n a)=.mk true n (a.map aU):=by simp[aU,nn,hh]
    rw[hp];clear hp;have qz5:=();exact qgj
   |true=>
    obtain ⟨r,rfl⟩:∃r,n=63 :: r:=wg (by
     cases h2:(n.head?==some 63)
     ·simp[cW,h2]at hh
     ·rfl)
    have hp:aU (.mk true (63::r) a)=.mk true r (a.map aU):=by simp[aU,nn,hh]
    rw[hp];clear hp;have⟨n,hn⟩:=az (63::r);rw[<-hn]at hh mn⊢;have hx:=jV 63 r;have hsz:(⟨n.toArray⟩:ByteArray).size=r.length+1:=by rw[hn,jf];rfl
    have hx':(⟨n.toArray⟩:ByteArray).extract 1 (r.length+1)=⟨r.toArray⟩:=by rw[hn];exact hx
    have hr1:r.length+1<=2000000:=by rw[hn]at mn;simpa using mn
    clear hx hn;exact qgj):G:=h
theorem qa9(h:G:=by
 refine(wpIn_wide (n:=3)).1 ?_;refine lM S 8 dW fun jO b_=>?_
 first
 |clear qrO;refine bH 0 92 (.pointer (some ⟨kb,0,none⟩)) rfl b_ fun cK=>?_
  simp only[am];refine di 1 93 (.agg #[.int .u8 so,.string sn,.slice sa sl sc,.slice sb sm se,.int .u8 fo,.string fn,.slice fa fl fc,.slice fb fm fe,.slice ca cl cc]) rfl (fun V hX=>by obtain⟨h0,h1,h2,h3,h4,h5,h6,h7,h8⟩:=pp V hX;go_simp) cK fun f_=>?_;simp only[am];refine di 2 94 (.agg #[.bool xv,.string xn,.slice xa xl xc]) rfl (fun V hX=>by obtain⟨h0,h1,h2⟩:=tt V hX;go_simp) f_ fun gX=>?_;simp only[am];refine bH 3 95 (.pointer (some ⟨W.heap.size+1+1,2,none⟩)) rfl gX fun iQ=>?_;simp only[am];refine di 4 96 (.slice (some ⟨b2,o2,none⟩) n1 uc) rfl (fun V hX=>by have h0:=uu V hX;go_simp) iQ fun jM=>?_;simp only[am];refine bH 5 97 (.int .i64 (j:Int)) rfl jM fun km=>?_;simp only[am];refine bH 6 98 (.pointer (some ⟨b2,o2+j*3,none⟩)) rfl km fun mU=>?_;simp only[am];refine di 7 99 (.agg #[.bool yv,.string yn,.slice ya yl yc]) rfl (fun V hX=>by obtain⟨h0,h1,h2⟩:=yy V hX;go_simp) mU fun q_=>?_;simp only[am];refine cb 8 rfl fun K hK=>?_
  first
  |clear qz6;go_simp;refine aO.2 (HC.o.mono ?_);rintro e w7 ⟨qS,r,rfl,iX,_⟩;obtain rfl:=iX (by simp);have H7:=ae qS;clear qS iX;have qz7:=();exact qbC
  |go_simp;refine aO.2 (HC.o.mono ?_);rintro e w7 ⟨qS,r,rfl,_,Kd⟩;obtain⟨rfl,nT7,_k,D6⟩:=Kd _ rfl;have H7:=bS qS _k D6;clear qS Kd _k D6;exact qbC
 |clear qz8;refine bH 0 21 (.pointer (some ⟨kb,0,none⟩)) rfl b_ fun Vq=>?_
  simp only[am];refine bH 1 22 (.pointer (some ⟨kb,0,none⟩)) rfl Vq fun Vr=>?_;simp only[am];refine bH 2 23 (.pointer (some ⟨kb,0,none⟩)) rfl Vr fun OD=>?_;simp only[am];refine di 3 24 (.map (some mF)) rfl (fun V hX=>by obtain⟨h0,h1,h2⟩:=ff V hX;go_simp) OD fun Vs=>?_;simp only[am];refine bH 4 25 (.pointer (some ⟨w.heap.size,1,none⟩)) rfl Vs fun hT4=>?_;simp only[am];refine di 5 26 (.string ⟨n.toArray⟩) rfl (fun V hX=>by obtain⟨h0,h1,h2⟩:=ff V hX;go_simp) hT4 fun hT5=>?_;simp only[am];refine di 6 27 (.agg #[.int .u8 g0,.string g1,.slice g2 g3 g4,.slice g5 g6 g7]) rfl (fun V hX=>by obtain⟨h0,h1,h2⟩:=ff V hX;go_simp) hT5 fun hT6=>?_;have qz9:=();exact qaO
 |clear qAa;have qAb:=();exact qhm
 |clear qAc;exact qkm
 |refine bH 0 19 (.pointer (some ⟨kb,0,none⟩)) rfl b_ fun cK=>?_
  simp only[am];refine bH 1 20 (.pointer (some ⟨kb,0,none⟩)) rfl cK fun f_=>?_;simp only[am];refine bH 2 21 (.pointer (some ⟨kb,0,none⟩)) rfl f_ fun gX=>?_;simp only[am];refine di 3 22 (.map (some mF)) rfl (fun V hX=>by obtain⟨h0,h1,h2⟩:=ff V hX;go_simp) gX fun iQ=>?_;simp only[am];refine bH 4 23 (.pointer (some ⟨w.heap.size+1,1,none⟩)) rfl iQ fun jM=>?_;simp only[am];refine di 5 24 (.string ⟨n.toArray⟩) rfl (fun V hX=>by obtain⟨h0,h1,h2⟩:=ff V hX;go_simp) jM fun km=>?_;simp only[am];refine di 6 25 (.agg #[.int .u8 g0,.string g1,.slice g2 g3 g4,.slice g5 g6 g7]) rfl (fun V hX=>by obtain⟨h0,h1,h2⟩:=ff V hX;go_simp) km fun mU=>?_;have qAd:=();exact qaO):G:=h
theorem qiF(h:G:=by
 go_wp2;rw[<-tS.o];go_roundw
 case rel=>exact⟨k+1,by omega,by go_num,HG.o.1,HG.o.2⟩
 case measure=>simp[intOf];omega):G:=h
theorem qd7(h:G:=by
 obtain⟨bb,off,⟨qo,qn,qa,ql,qc,qb,qm,qe⟩,rfl,hok,hf,c0,c1,c2,c3,c4⟩:=HFv.o.get bA
 first
 |clear an;have l9:=H2.o.1.tr aD;have it:=();exact qkz
 |clear up;have it:=();exact qjb
 |have l9:=H1.o.1.tr aD;exact qkz):G:=h
theorem qkA(h:G:=by
 have Hm:A1.heap[EB]?=some (.cells #[.int .u8 0,.string ⟨#[]⟩,.slice none 0 0,.slice none 0 0] 36 (0,0)):=by rw[sG,Al];exact aq rfl
 first
 |clear ZU;rw[<-sG,<-Al];have PS:W0.heap.size<=EB:=by have:=cd.size;omega
  have H7:=cH Hm PS (cd.tr wS) (hp.move (W':=A1) (ok':=fun b=>W0.heap.size<=b/\b≠EB) (fun b hb hlt=>⟨⟨aR AJ.size hb,by omega⟩,wS.block b hlt⟩));exact qb5
 |have PS:W0.heap.size=EB:=Al.symm;exact qjq):G:=h
theorem qec(h:G:=by
 refine⟨fun h0=>(by rw[hr]at h0;cases h0),fun j hj=>?_⟩;rw[hr]at hj;obtain rfl:=List.mem_singleton.1 hj;refine wpOpIn_step hi (fun K' Iy=>?_)
 first
 |clear an;rw[aG hw];exact h K' (fun a w hS hW=>Iy a w ⟨hS,hW hS⟩)
 |rw[aw (by simp[hw])];exact⟨FN,Iy _ _ ⟨fun _=>hS,by rw[zR];exact h hS⟩⟩):G:=h
theorem qff(h:G:=by
 simp only;refine ihs (fun t ht=>ih t (fS _ ht)) ?_ _;intro h0;have:=ih u (fT ..) (by omega);rw[hp]at this;cases this):G:=h
theorem qfE(h:G:=by
 exact bX (v:=.bool true) (by simp[results,results10,go_sem,tr]) Xm ⟨rfl,e9⟩):G:=h
theorem qeR(h:G:=by
 have hmf:∀(fn:Fn)(first cap:Array Value)(w:World),(Instr.makeFunc fn first cap).run prog w=.ok (.func fn first cap) w:=fun _ _ _ _=>rfl
 first
 |clear qmV;unfold TQ.val;simp only;go_enter func168,ntmps168;go_wp2;rw[<-kf.o];go_loopw [13] (fun i wr=>∃k:Nat,k<=1/\i=.int .i64 k/\Q9 (.bool qv,.string qn,.slice qa ql qc) x u w k wr) (fun i _=>1-(intOf i).toNat)
  case atStart=>exact⟨0,by omega,rfl,HI.o⟩
  case round=>
   obtain⟨k,hk,rfl,hI⟩:=hrel
   by_cases hlt:k<1
   ·obtain rfl:k=0:=by omega
    have⟨d0,d1,d2,d3⟩:=mH hI.below HC.o.1 HC.o.2.1 HC.o.2.2.1 HC.o.2.2.2;have⟨A1,sG⟩:=az (wr.alloc (.cells #[.string ⟨x.toArray⟩,.bool uv,.string un,.slice ua ul uc] 143));have⟨A2,cd⟩:=az (A1.alloc (.cells #[.bool false,.string ⟨#[]⟩,.slice none 0 0] 43));have b1:=dj sG;have b2:=dj cd;have hI1:=hI.later b1;have hI2:=hI1.later b2;have x1:=cA sG;have o0:A1.cell? ⟨wr.heap.size,0,none⟩=some (.string ⟨x.toArray⟩):=ao x1 0;have o1:A1.cell? ⟨wr.heap.size,1,none⟩=some (.bool uv):=ao x1 1;have o2:A1.cell? ⟨wr.heap.size,2,none⟩=some (.string un):=ao x1 2;have o3:A1.cell? ⟨wr.heap.size,3,none⟩=some (.slice ua ul uc):=ao x1 3;have⟨p0,p1,p2,p3⟩:=mH b2 o0 o1 o2 o3;have m1:A1.cell? ⟨w.heap.size+3,0,none⟩=some (.map (some (w.heap.size+2))):=ao hI1.b3 0;have m2:=aa b2 m1;have hr:(Instr.lookup 146 (.map (some (w.heap.size+2))) (.string ⟨x.toArray⟩) true).run prog A1=.ok (.tuple #[.agg #[.bool false,.string ⟨#[]⟩,.slice none 0 0],.bool false]) A1:=by
     rcases hI1.mp.look underlying9 underlying146 lx hx with⟨_,hr⟩|⟨u',v,hs,_⟩
     ·exact(hr A1 rfl).1
     ·simp[bG]at hs
    obtain ⟨w4,cV,hm4,zF,Bm⟩:=hI2.mp.store underlying9 underlying146 (by omega) hx (v:=.agg #[.bool uv,.string un,.slice ua ul uc]) (a:=u) (l':=[(x,u)]) (V':=IT w) ⟨⟨uv,un,ua,ul,uc⟩,rfl,HU.o.any⟩ (fun _ _ _ _ _ h=>h) (fun y=>by
     by_cases e:y=x
     ·subst e;simp[bG]
     ·have e2:¬x=y:=fun h=>e h.symm;simp[bG,e,e2])
    have nV:∀ b,b<A2.heap.size->b≠w.heap.size+2->w4.heap[b]?=A2.heap[b]?:=fun b hb jd=>zF.block b hb (fun h=>by cases h;exact jd rfl);have hI4:Q9 (.bool qv,.string qn,.slice qa ql qc) x u w 1 w4:=⟨⟨zF.os.trans hI2.below.os,zF.tape.trans hI2.below.tape,zF.output.trans hI2.below.output,by have:=hI2.below.size;omega,fun b hb=>(nV b (bP hb hI2.below.size) (by omega)).trans (hI2.below.block b hb)⟩,
     (nV _ (bQ hI2.b0) (by omega)).trans hI2.b0,(nV _ (bQ hI2.b1) (by omega)).trans hI2.b1,(nV _ (bQ hI2.b3) (by omega)).trans hI2.b3,by simpa using hm4⟩
    have HI4:=ae hI4;rw[cd]at m2 p0 p1 p2 p3 cV;rw[sG]at hr cV m1 m2 o0 o1 o2 o3 p0 p1 p2 p3;clear hI hI1 hI2 hI4 hm4 zF Bm nV x1 b1 b2 sG cd;go_wp2;go_roundw
    case rel=>exact⟨1,by omega,by go_num,HI4.o⟩
    case measure=>simp[intOf]
   ·obtain rfl:k=1:=by omega
    have C:=wJ 232 #[.pointer (some ⟨w.heap.size+3,0,none⟩)] K7 _ wr (Q4 w wr hI.below (w.heap.size+3) (w.heap.size+2) 1 [(x,u)] (ao hI.b3 0) (by simpa using hI.mp)) (fun n u' h=>by
     have iA:u=u':=by
      simp only[bG]at h;split at h
      ·injection h
      ·cases h
     subst iA;exact fun ok W q hq=>G4 _ lH.o.2 ok W q hq) t lH.o.1 ok wr ⟨qv,qn,qa,ql,qc⟩ (ar _ _) (HQ.o.later hI.below)
    have SD:(fun n=>bG [(x,u)] n)=(fun n=>if n==x then some u else none):=by
     funext n
     simp only[bG]
     by_cases e:x=n
     ·subst e;simp
     ·have e2:¬n=x:=fun h=>e h.symm;simp[e,e2]
    rw[SD]at C;simp only[TQ.val]at C;have⟨e0,e1,e2⟩:=n8 hI.b0;have⟨HC,HY⟩:=bi C hI;clear C hI SD;go_wp2_with (go_at_call 154;refine HC.o.mono ?_;rintro e w5 ⟨⟨p5,rfl,sS⟩,bE⟩;obtain⟨pv,pn,pa,pl,pc⟩:=p5;simp only at sS⊢;have x1:=(HY.o.later bE).b1;have e0:=ao x1 0;have e1:=ao x1 1;have e2:=ao x1 2;have z0:=ai x1 0;have z1:=ai x1 1;have z2:=ai x1 2;have H5:=cH sS (HY.o.below.tr bE) x1 bE.size;clear bE sS x1);have hz:=HY.o.below.size;have XE:=(bQ HY.o.b1);have qwc:=();exact qcr
 |go_enter_defers func149,ntmps149;have p2:W1.cell? ⟨W.heap.size,2,none⟩=some (.slice ua k0 uc):=ao KA.o 2;go_wp2;rw[<-kf.o];clear p2;go_loopw [16] (fun i wr=>∃k:Nat,k<=k0/\i=.int .i64 k/\FrJ J pre M W0 mb n bs l W.heap.size (aF (a.take k)) wr/\Kp (fun b=>M b\/b=mb) W1 wr) (fun i _=>k0-(intOf i).toNat)
  case atStart=>exact⟨0,bn _,rfl,by simpa[aF]using HJ1.o,Kp.refl _⟩
  case round=>
   obtain⟨k,hk,rfl,hj,bD⟩:=hrel
   by_cases hlt:k<k0
   ·have bA:=cG dN.o hlt;obtain⟨b,off,u,rfl,kC,hu,c0,c1,c2⟩:=HV.o.get bA;have d0:=hj.kp.cell kC.2 c0;have d1:=hj.kp.cell kC.2 c1;have d2:=hj.kp.cell kC.2 c2;exact qkB
   ·obtain rfl:k0=k:=by omega
    have ht:a.take k0=a:=by rw[dN.o];exact dA
    rw[ht]at hj;have GP:=hj.j;rw[<-HA.o]at GP;exact qiL):G:=h
theorem qic(h:G:=by
 have u1:W2.cell? ⟨wr.heap.size,1,none⟩=some (.string un):=ao Ck 1;have u2:W2.cell? ⟨wr.heap.size,2,none⟩=some (.slice ua ul uc):=ao Ck 2
 first
 |clear up;have g9:=hF.later bU (fun r=>r.below bU);obtain⟨P0,P1,P2,P3,P4,P5,P6,P7,P8⟩:=j6 (g9.other (by omega) TA.o)
  first
  |clear qoK;have CC:=gZ.o a[k] (aH dG) (lH.o.mem (aH dG)) ok W2 ⟨uv,un,ua,ul,uc⟩ (NG.o.later (aD.tr bU)) (oa.o.later (aD.tr bU)) ((hu.later aD).later bU);have up:=();exact qkC
  |have CC:=vK ⟨⟨so,sn,sa,sl,sc,sb,sm,se⟩,⟨fo,fn,fa,fl,fc,fb,fm,fe⟩,ca,cl,cc⟩ ps NE.o.1 NE.o.2 L ins NI.o.2.2 NI.o.1 _ vL a[k1] (xZ.o.mem (aH dG)) ok W2 ⟨uv,un,ua,ul,uc⟩ (NG.o.later (aD.tr bU)) ((oa.o.1.later (aD.tr bU)).strs) ((hu.later aD).later bU);exact qkC
 |have u3:W2.cell? ⟨wr.heap.size,3,none⟩=some (.slice ub um ue):=ao Ck 3;have g9:=hF.later bU (fun r=>r.below bU);obtain⟨P0,P1,P2,P3,P4,P5,P6,P7,P8⟩:=j6 (g9.other (by omega) TF.o)
  first
  |clear qxW;have CC:=gZ.o s[k] (aH dG) (sC.o.mem (aH dG)) (L) (ins) (by have:=NI.o.2.1 s[k] (aH dG);omega) NI.o.1 (vL) ok W2 ⟨uo,un,ua,ul,uc,ub,um,ue⟩ (NG.o.later (aD.tr bU)) ⟨(NK.o.1.kp hF.kp (fun b hb h=>(NK.o.2 b hb).1 h)).later bU,fun b hb=>by have:=(NK.o.2 b hb).2;have:=hF.size;have:=bU.size;omega⟩ ((hu.later aD).later bU);simp only[gd.cells,gd.val,FQ.val]at CC P0 P1 P2 P3 P4 P5 P6 P7 P8;have hts:=sF (c:=ps.reverse) (ins:=ins) dG;rw[DP]at hts;have iX:=fun(h:f9 ps.reverse ins s[k]=none)=>DR (c:=ps.reverse) (ins:=ins) (aH dG) h;have⟨U,hU⟩:=az (f9 ps.reverse ins s[k]);have ZU:=();exact qbV
  |have CC:=gZ.o s[k] (aH dG) (sC.o.mem (aH dG)) (L++[n]) ((n::ins)) (by have:=NI.o.2.1 s[k] (aH dG);simp;omega) zcG.o (.slice (some ⟨g,0,none⟩) (l0+1) cap) ok W2 ⟨uo,un,ua,ul,uc,ub,um,ue⟩ (NG.o.later (aD.tr bU)) ⟨(NK.o.1.kp hF.kp (fun b hb h=>(NK.o.2 b hb).1 h)).later bU,fun b hb=>by have:=(NK.o.2 b hb).2;have:=hF.size;have:=bU.size;omega⟩ ((hu.later aD).later bU);simp only[gd.cells,gd.val,FQ.val]at CC P0 P1 P2 P3 P4 P5 P6 P7 P8;have hts:=sF (c:=ps.reverse) (ins:=(n::ins)) dG;rw[DP]at hts;have iX:=fun(h:f9 ps.reverse (n::ins) s[k]=none)=>DR (c:=ps.reverse) (ins:=(n::ins)) (aH dG) h;have⟨U,hU⟩:=az (f9 ps.reverse (n::ins) s[k]);have qve:=();exact qbV):G:=h
theorem qa1(h:G:=by
 intro g eP w4 aV au hg eM;have h4:=fk.o.at4 (kk:=3) aE cd au
 first
 |clear qps;have cV:=fk.o.stepF (F:=3) (t:=(bI s[k])) (g:=g) (cap:=eP) (by rw[dR.o];exact aE) (by rw[dR.o];exact eJ) gM cd (hp:aC (W2.heap.size<=·) A p.val (bI s[k])) (by rw[dR.o];exact aV) au hg rfl;rw[dR.o,cO bI s dG]at cV;have GB:=();exact qae
 |clear qpu;have cV:=fk.o.stepF (F:=3) (t:=(h_ kk nx z s[k])) (g:=g) (cap:=eP) (by rw[dR.o];exact aE) (by rw[dR.o];exact eJ) gM cd (hp:aC (W2.heap.size<=·) A p.val (h_ kk nx z s[k])) (by rw[dR.o];exact aV) au hg rfl;rw[dR.o,cO (h_ kk nx z) s dG]at cV;have an:=();exact qae
 |clear qpw;have cV:=fk.o.stepF (F:=3) (t:=(dF kd c ss[k])) (g:=g) (cap:=eP) (by rw[dR.o];exact aE) (by rw[dR.o];exact eJ) gM cd (hp:aC (W2.heap.size<=·) A p.val (dF kd c ss[k])) (by rw[dR.o];exact aV) au hg rfl;rw[dR.o,cO (dF kd c) ss dG]at cV;have an:=();exact qae
 |clear qpy;have cV:=fk.o.stepF (F:=3) (t:=(fd ns s[k])) (g:=g) (cap:=eP) (by rw[dR.o];exact aE) (by rw[dR.o];exact eJ) gM cd (hp:aC (wr.heap.size<=·) A p.val (fd ns s[k])) (by rw[dR.o];exact aV) au hg rfl;rw[dR.o,cO (fd ns) s dG]at cV;have qqg:=();exact qae
 |have cV:=fk.o.stepF (F:=3) (t:=(eb fr cc s[k])) (g:=g) (cap:=eP) (by rw[dR.o];exact aE) (by rw[dR.o];exact eJ) gM cd (hp:aC (W2.heap.size<=·) A p.val (eb fr cc s[k])) (by rw[dR.o];exact aV) au hg rfl;rw[dR.o,cO (eb fr cc) s dG]at cV;have an:=();exact qae):G:=h
theorem qc7(h:G:=by
 repeat (go_big_quiet_step ((go_at_call 17;exact cq (HC.o _))))
 first
 |clear qtf;have qp2:=();exact qad
 |clear qti;have qp8:=();exact qad
 |have qqa:=();exact qad):G:=h
theorem qdk(h:G:=by
 simp only[TQ.val,c_,Array.mk.injEq,cF,and_true,Value.bool.injEq,Value.string.injEq]at h1
 first
 |clear quv;obtain⟨rfl,rfl,rfl⟩:=h1;obtain rfl:=j7.len;have mn:=rO.name;have PU:=rO.args.len;have⟨n1,eB⟩:=az a.length
  first
  |clear qzl;rw[<-eB]at hq j7;have qwZ:=();exact qdJ
  |clear qzn;rw[<-eB]at hq j7 PU;have qw1:=();exact qdJ
  |rw[<-eB]at hq j7 PU;exact qdJ
 |clear qxM;exact⟨h1.1.trans h2,h1.2.1.trans h3⟩
 |obtain⟨rfl,rfl,rfl⟩:=h1;have qoT:=();exact qab):G:=h
theorem qkB(h:G:=by
 have jX:=ik bA;have hB:Below wr.heap.size wr (wr.alloc (.cells #[.bool u.v,.string u.n,.slice u.a u.l u.c] 43)):=dp;have AS:=bD.size
 first
 |clear Ss;have FT:∀b,M b->b<(wr.alloc (.cells #[.bool u.v,.string u.n,.slice u.a u.l u.c] 43)).heap.size:=fun b hb=>by have:=FD.o b hb;simp;omega
  first
  |clear qzA;have Ss:=();exact qkD
  |clear qzB;have uY:(pre++([n]++aF (a.take k))++aL a[k]) <+: xs:=by
    have up:=();exact qbQ
   have CC:=gZ.o a[k] (aH bA) M B l J xs (pre++([n]++aF (a.take k))) _ u FT (fun t=>(HJ.o t).mono (by simp;omega)) (HY.o.later (bD.trans (Kp.below hB))) (hu.kp (bD.trans (Kp.below hB))) uY (HJ.o _ _ _ (Nw.below hB) hj);have qkE:=();exact qbO
  |clear qzD;exact qkD
  |have uY:(pre++([n]++aF (a.take k))++aL a[k]) <+: xs:=by
    have up:=();exact qbQ
   have CC:=gZ.o a[k] (aH bA) M B J xs (pre++([n]++aF (a.take k))) _ u FT (fun t=>(HJ.o t).mono (by simp;omega)) HG.o (hu.kp (bD.trans (Kp.below hB))) uY (HJ.o _ _ _ ((Nw.below hB)) hj);exact qbO
 |have hmW:=HMW.o.1;have Ty:=SE.o;have FT:∀b,(M b\/b=mb)->b<(wr.alloc (.cells #[.bool u.v,.string u.n,.slice u.a u.l u.c] 43)).heap.size:=fun b hb=>by
   rcases hb with hb|hb
   ·have:=FD.o b hb;have:=HMW.o.2;simp;omega
   ·simp;omega
  have uY:(aF (a.take k)++aL a[k]) <+: aF a:=by
   exact qbQ
  have CC:=DW (W.heap.size+1) (W.heap.size+2) a[k] (HFT.o _ (aH bA)) (fun b=>M b\/b=mb) wr.heap.size (FrJ J pre M W0 mb n bs l W.heap.size) (aF a) (aF (a.take k)) _ u FT (fun t=>(HFA.o wr AS t).mono (by simp)) HG.o
   ((hu.move (ok':=fun b=>b<wr.heap.size/\¬(M b\/b=mb)) (fun b hb hlt=>⟨⟨bP hlt hj.kp.size,fun h=>by rcases h with h|h;exact hb.2 h;have:=HMb.o;omega⟩,(Kp.trans hj.kp (Kp.below hB)).same b hlt hb.2⟩))) uY (HFA.o wr AS _ _ _ (Nw.below hB) hj)
  unfold TQ.val frV at CC;have up:=();exact qc5):G:=h
theorem qkF(h:G:=by
 have za3:((m0:Int)!=(r4:Int))=true:=by simp;omega
 have HE:Hd (BX=false):=ae (hM.trans (by simp[YC]));exact qdW):G:=h
theorem qkG(h:G:=by
 have⟨m,hm⟩:=az (dX (aP [] f));rw[<-hm]at hE;have Od:∀x∈m,x.length<=2000000:=fun x hx=>by rw[hm,eG]at hx;exact oo f [] yU.o.2.1.2 x hx
 first
 |clear qAm;have LG:m.length<=2000000:=by rw[hm];have h1:=gp (aP [] f);have h2:=fI f [];have h3:=yU.o.2.2;omega
  have HM:=aM Od LG;clear Od LG;exact qhV
 |have LG:m.length<=400:=by rw[hm];have h1:=gp (aP [] f);have h2:=fI f [];have h3:=yU.o.2.2;omega
  have HM:=bS Od LG hm;have⟨HYl,HE2,zfn⟩:=cU Lz hE zJ;clear Od LG hm hE bq Bw gH M0 Jk Lz zJ te LC IY N9;have qxH:=();exact qdP):G:=h
theorem qi5(h:G:=by
 refine oM func127 ?_;simp only[ntmps127,Nat.reduceAdd,Nat.reduceSub,ng]
 first
 |clear qwW;have jq:=fP
  first
  |clear qyB;gi_wp2_with (first|(gi_at_call 119;rw[<-HX.o];refine aO.2 (wO.o.mono ?_);rintro e w3 ⟨rfl,aS⟩;have y1:=(aS.block _ (by have:=HY.o.2.2.2.1;omega)).trans HY.o.2.1;have y0:=(aS.block _ (by have:=HY.o.2.2.2.1;omega)).trans HY.o.2.2.1;have sP:=aS.size;have p_:=HY.o.2.2.2.1;have Nz:w.heap.size+2<=w3.heap.size:=(by omega);have bV:=cH (HY.o.1.tr aS) y1 y0 (HY.o.2.2.2.2.tr aS);obtain⟨p0,p1,p2,_⟩:=ir y0;clear aS sP p_ y1;have dh:Below w3.heap.size w3 (w3.alloc (.cells #[.bool true,.string ⟨n.toArray⟩,.slice none 0 0] 43)):=dp;have r2:=aa dh p2;clear y0 dh)|(gi_at_call 128;refine aO.2 ((HLn.o _ bV.o.2.2.2).mono ?_);rintro e w4 ⟨rfl,SJ⟩;cases SJ));clear p0 p1 p2 r2;have⟨W1,cC⟩:=az (w3.alloc (.cells #[.bool true,.string ⟨n.toArray⟩,.slice none 0 0] 43));have jN:Below w.heap.size w W1:=by rw[cC];exact bV.o.1.tr dp
   have x1:W1.heap[w.heap.size+1]?=some (.cells #[.bool false,.string ⟨#[]⟩,.slice none 0 0] 43 (0,0)):=by rw[cC];exact(bZ _ _ _ (by omega)).trans bV.o.2.1
   have x2:=cA cC;have qAn:=();exact qaP
  |gi_wp2_with (first|(gi_at_call 119;rw[<-HX.o];refine aO.2 (wO.o.mono ?_);rintro e w3 ⟨rfl,aS⟩;have y1:=(aS.block _ (by have:=HY.o.2.2.2.1;omega)).trans HY.o.2.1;have y0:=(aS.block _ (by have:=HY.o.2.2.2.1;omega)).trans HY.o.2.2.1;have sP:=aS.size;have p_:=HY.o.2.2.2.1;have Nz:w.heap.size+2<=w3.heap.size:=(by omega);have bV:=cH (HY.o.1.tr aS) y1 y0 (HY.o.2.2.2.2.tr aS);obtain⟨p0,p1,p2,_⟩:=ir y0;clear aS sP p_ y1;clear y0)|(gi_at_call 128;refine aO.2 ((HLn.o _ bV.o.2.2.2).mono ?_);rintro e w4 ⟨rfl,SJ⟩;cases SJ)|(gi_at_call 130;refine aO.2 ((ie n _ (by omega)).mono ?_);rintro e w7 ⟨rfl,hw5⟩;cases hw5)|(gi_at_call 131;refine aO.2 ((jh (cg n) _).mono ?_);rintro e w7 ⟨rfl,bE⟩;have x1:=(bE.block _ (by omega)).trans bV.o.2.1;obtain⟨e0,e1,e2,z0,z1,z2⟩:=ir x1;have H5:=aM (bV.o.1.tr bE) x1;have hz6:=bE.size;clear bE x1));have x6:=sN (v0:=.bool true) (v1:=.string ⟨(cg n).toArray⟩) (v2:=.slice none 0 0) H5.o.2;have k6:=fW (W:=w7) (b:=w.heap.size+1) (v0:=.bool true) (v1:=.string ⟨(cg n).toArray⟩) (v2:=.slice none 0 0);have⟨W6,dr⟩:=az (((w7.setCell ⟨w.heap.size+1,0,none⟩ (.bool true)).setCell ⟨w.heap.size+1,1,none⟩ (.string ⟨(cg n).toArray⟩)).setCell ⟨w.heap.size+1,2,none⟩ (.slice none 0 0));rw[<-dr]at x6 k6⊢;clear dr;obtain⟨g0,g1,g2,_⟩:=ir x6;refine bX (v:=TQ.val ⟨true,⟨(cg n).toArray⟩,none,0,0⟩) (by simp[TQ.val,results,results127,go_sem,g0,g1,g2]) rfl ⟨⟨⟨true,⟨(cg n).toArray⟩,none,0,0⟩,rfl,aW.2 ⟨_,rfl,none,0,fun _=>.string ByteArray.empty,rfl,.inl rfl,fun j hj=>absurd hj (by simp)⟩⟩,Below.kp1 H5.o.1 k6 (by omega)⟩
 |exact qda):G:=h
theorem qbK(h:G:=by
 rw[<-dr]at x6 k6⊢;clear dr;obtain⟨g0,g1,g2,g3,_,_,_,_⟩:=dw x6
 first
 |clear ZU;refine bX (v:=.tuple #[FQ.val ⟨0,⟨#[]⟩,none,0,0,none,0,0⟩,.int .i64 2]) (by simp[FQ.val,results,results32,go_sem,g0,g1,g2,g3]) rfl ⟨⟨⟨0,⟨#[]⟩,none,0,0,none,0,0⟩,(by rw[HE.o];try rfl),?_⟩,Below.kp1 (HB.o.1.tr H4.o) k6 (by omega)⟩;rw[HE.o];exact oE
 |clear qsx;refine bX (v:=.tuple #[FQ.val ⟨0,⟨#[]⟩,none,0,0,none,0,0⟩,.int .i64 3]) (by simp[FQ.val,results,results32,go_sem,g0,g1,g2,g3]) rfl ⟨⟨⟨0,⟨#[]⟩,none,0,0,none,0,0⟩,(by rw[HE.o];try rfl),?_⟩,Below.kp1 (H8.o.1.tr H9.o) k6 (by omega)⟩;rw[HE.o];exact oE
 |clear qsy;refine bX (v:=.tuple #[FQ.val ⟨0,⟨#[]⟩,none,0,0,none,0,0⟩,.int .i64 er]) (by simp[FQ.val,results,results32,go_sem,g0,g1,g2,g3]) rfl ⟨⟨⟨0,⟨#[]⟩,none,0,0,none,0,0⟩,(by rw[HE.o];try rfl),?_⟩,Below.kp1 (HB.o.1.tr (H5.o.1.tr H6.o)) k6 (by omega)⟩;rw[HE.o];exact oE
 |refine bX (v:=.tuple #[FQ.val ⟨p0,p1,p2,p3,p4,p5,p6,p7⟩,.int .i64 0]) (by simp[FQ.val,results,results32,go_sem,g0,g1,g2,g3]) rfl ⟨⟨⟨p0,p1,p2,p3,p4,p5,p6,p7⟩,(by rw[HE.o];try rfl),?_⟩,Below.kp1 (H8.o.1.tr H9.o.1) k6 (by omega)⟩;rw[HE.o];exact(H9.o.2.move (fun b hb hlt=>⟨by have h:w6.heap.size<=b:=hb;have:=HS8.o;have:=HB.o.1.size;omega,k6.same b hlt (by have h:w6.heap.size<=b:=hb;have:=HS8.o;have:=HB.o.2.1;omega)⟩))):G:=h
theorem qgp(h:G:=by
 go_quiet ((first|(go_at_call 240;exact iF (CR.o _))|(go_at_call 190;exact iF (CF.o _))))
 first
 |clear up;exact qcT
 |exact qgr):G:=h
theorem qgq(h:G:=by
 go_quiet ((first|(go_at_call 240;exact iF (CR.o _))|(go_at_call 216;exact iF (CF.o _))))
 first
 |clear qqO;exact qcT
 |go_wp2;go_loopw [5] (fun i wr=>∃k:Nat,1<=k/\k<=s.size/\i=.int .i64 k/\nU FR (s.data.toList.take k).tail=true/\∃n,wr=w.drewN n) (fun i _=>s.size-(intOf i).toNat)
  case atStart=>exact⟨1,aK _,h1,rfl,by rw[List.take_one];cases s.data.toList<;>simp[nU],⟨_,rfl⟩⟩
  case round=>
   obtain⟨k,le,hk,rfl,ha,hw⟩:=hrel;have hc3:wr.cell? ⟨b2,0,none⟩=some (.func (.func 217) #[] #[]):=by obtain⟨n,rfl⟩:=hw;exact GN
   have⟨HA,HW⟩:=bi ha hw;clear ha d1 d2 hw ZM GN
   by_cases hlt:k<s.size
   ·cases hp:FR s[k].toNat
    ·have HP:=ae hp;have up:=();exact qkH
    ·have HP:=ae hp;exact qkH
   ·obtain rfl:k=s.size:=by omega
    exact qgI):G:=h
theorem qci(h:G:=by
 have z7:=s_.o b kC;have d0:=bD.cell z7 c0;have d1:=bD.cell z7 c1;have d2:=bD.cell z7 c2
 first
 |clear qmb;have qY:=lh l (k+1);have jX:=pH bA;have KE:=x_ bA;have II:=Dd (sc:=sc) bA;have iA:aN ok wr u.val l[k]:=hu.move (fun b hok hlt=>⟨hok,bD.same b hlt (s_.o b hok)⟩);have Ν:=tw l[k];have ij:=HL.o l[k] (aH bA) ok J sc (left-af (l.take k)) bT bB (wr.alloc (.cells #[.bool u.v,.string u.n,.slice u.a u.l u.c] 43)) u (iA.later dp) s_.o (hj.later dp) (by omega) (by omega) hde hd (by omega);have⟨bb,dz⟩:=az (jA sc l[k]&&(decide ((ap l[k]:Int)<=left-af (l.take k))&&decide (bB+dm l[k]<=bT+1)));rw[<-dz]at ij
  cases bb with
  |true=>
   have ry:=dz.symm;simp only[ak,bM]at ry;have hrel:eD sc (l.take (k+1))=true/\((af (l.take (k+1)):Int))<=left/\bB+bO (l.take (k+1))<=bT+1/\left-af (l.take k)-ap l[k]=left-af (l.take (k+1)):=⟨by rw[II,ha,ry.1];rfl,by omega,by omega,by omega⟩;have⟨HR,HC,mJ⟩:=cU hrel ij bD;clear hrel ij dz ry II KE jX qY Ν ha hb hc hj bD hu iA c0 c1 c2;go_wp2_with (go_at_call 122;refine HC.o.mono ?_;rintro e w3 ⟨rfl,mq,l3,tb,MO,Xr,Ku⟩;have uh:=bS mq tb (Ku rfl);clear mq tb MO Xr Ku);exact qh8
  |false=>
   have lV:(eD sc l&&(decide ((af l:Int)<=left)&&decide (bB+bO l<=bT+1)))=false:=by
    have dQ:=lh l (k+1);have hdm:=KD bA
    cases h1:jA sc l[k]with
    |false=>rw[S6 bA h1];rfl
    |true=>
     have ZU:=();exact qdv
   have⟨HF,HC,mJ⟩:=cU lV ij bD;clear lV ij dz II KE jX qY Ν ha hb hc hj bD hu iA c0 c1 c2;go_wp2_with (go_at_call 122;refine HC.o.mono ?_;rintro e w3 ⟨rfl,mq,l3,tb,MO,Xr,Ku⟩;have uh:=cH mq tb MO Xr;clear mq tb MO Xr Ku);go_ret;exact⟨aJ HF.o.symm,mJ.o.trans ((Kp.below dp).trans uh.o.1),l3,uh.o.2.1,uh.o.2.2.1,by have:=uh.o.2.2.2;omega,fun h=>by rw[HF.o]at h;cases h⟩
 |clear up;have jX:=pH bA;have qY:=lh l (j+1);have hf:=HF.o.mem (aH bA);have sD:=gZ.o l[j] (aH bA);have iA:aN ok wr u.val l[j]:=hu.move (fun b hok hlt=>⟨hok,bD.same b hlt (s_.o b hok)⟩);obtain⟨⟨xv,xn,xa⟩,hx⟩:∃x,l[j]=x:=⟨_,rfl⟩;rw[hx]at iA hf sD jX;have uF:ap (.mk xv xn xa)=af xa+1:=rfl;rw[uF]at jX;obtain⟨s1,h2,gH⟩:=aW.1 iA;obtain⟨uv,un,ua,ul,uc⟩:=u;have qwq:=();exact qb3
 |have d3:=bD.cell z7 c3;have qY:=de s (k+1);have jX:=fX bA;have KE:=jF bA;have II:dJ sc (s.take (k+1))=_:=lY bA;exact qfY):G:=h
theorem qce(h:G:=by
 rw[hp];have CP:=ae (fun w=>pY r w hn);have hr:r.length<=1000000000:=by simp at hn;omega
 first
 |clear an;have hs:=jf (63::r);have qw4:=();exact qbe
 |clear it;have qw5:=();exact qbe
 |have qw6:=();exact qbe):G:=h
theorem qf2(h:G:=by
 go_ret;exact eF.no (l:=left-1) HE.o ((rx _).trans (Kp.below dp)) ((HJ.o.set _).later dp) (by omega) (by omega)):G:=h
theorem qkI(h:G:=by
 have ZI:=gp (aP [] g);have pM:=fI g [];have CT:=io (dX (aP [] g)) (by have:=qr.o.1;omega) nx _ wf vf WN.o.strs;rw[om,wM]at CT;have K_:=ae CT
 first
 |clear qAp;clear ZI pM CT wM;gi_wp2_with (gi_at_call 128;refine aO.2 (K_.o.mono ?_);rintro e w4 ⟨rfl,rfl⟩);have CC:=qQ (.mk qo n [] [g]) HFq.o.1 ok w4 ⟨qo,⟨n.toArray⟩,qa,0,qc,some ⟨b,off,none⟩,1,qe⟩ (HFq.o.2.later Lh.o.below);exact qgs
 |clear ZI pM CT;have CFT:=og z TR.o.1 (fun _=>True) (wf.alloc (.cells #[.int .u8 go,.string gn,.slice ga gl gc,.slice gb gm ge] 36)) ⟨zv,zn,za,zl,zc⟩ ((HZ.o.later Lh.o.below).move (zV dp));simp only[TQ.val]at CFT;have ze6:=ae CFT;have zat:=Lh.o.later ((ar _ _).alloc (aK _) (.cells #[.int .u8 go,.string gn,.slice ga gl gc,.slice gb gm ge] 36));have⟨d0,d1,d2,d3⟩:=mH Lh.o.below HC.o.1 HC.o.2.1 HC.o.2.2.1 HC.o.2.2.2;have⟨u0,u1,u2⟩:=n8 zat.bu;have⟨IZ,HCn⟩:=bi zat wM;clear CFT zat wM;gi_wp2_with fail;refine aO.2 (K_.o.mono ?_);rintro e w4 ⟨rfl,rfl⟩;gi_wp2_with fail;refine aO.2 (ze6.o.mono ?_);rintro e w6 ⟨⟨vn,rfl,hvn⟩,dh⟩;clear d0 d1 d2 d3 u0 u1 u2 p0 p1 p2 p3;have zau:=IZ.o.later dh;have t6:w6.heap[w4.heap.size]?=some (.cells #[.int .u8 go,.string gn,.slice ga gl gc,.slice gb gm ge] 36 (0,0)):=(dh.block _ (by simp)).trans (aq rfl);have hlz:=gp (aL z);have wi:=qM z;have CT2:=io (dX (aL z)) (by have:=TR.o.2;omega) n _ w6 vn hvn.strs;rw[om]at CT2;have⟨ze7,I0,HT6,HVn⟩:=f8 CT2 zau t6 hvn;have XM:=ae (show Below w4.heap.size w4 w6 from dp.tr dh);have n1:=ao zau.b0 1;clear CT2 zau t6 hlz wi hvn dh;gi_wp2_with fail;refine aO.2 (ze7.o.mono ?_);rintro e w7 ⟨rfl,rfl⟩
  cases TV:(aL z).contains n with
  |false=>
   have Ah:Hd (RS=.mk qo n [] [h_ kk nx z g]):=ae (by rw[Z9.o,rK td,HCn.o,TV,aw (by simpa using hn)];rfl);have HGX:=ae ((HG.o.later Lh.o.below).later XM.o);clear n1 TV;have CP:=gZ.o W0 g nx z qr.o.2.2.2.2 qr.o.1 qr.o.2.1 qr.o.2.2.1 qr.o.2.2.2.1 PG.o TR.o.1 TR.o.2 _ _ w7 ⟨go,gn,ga,gl,gc,gb,gm,ge⟩ ⟨zv,zn,za,zl,zc⟩ (TS.o.next I0.o.below) HGX.o (HZ.o.later I0.o.below);simp only[FQ.val,TQ.val]at CP;have NT:=ae CP;have⟨tu0,tu1,tu2⟩:=n8 I0.o.bu;have⟨tt0,tt1,tt2,tt3⟩:=pC HT6.o;exact qgE
  |true=>
   have ze8:=gp (aP [] g);have ze9:=fI g [];have zfa:=gp (aL z);have zfb:=qM z;have zcJ:=TR.o.2;have zcK:=qr.o.1;have zcL:fK iz.heap.size w7 vf (dX (aP [] g)):=fK.later (show fK iz.heap.size w4 vf (dX (aP [] g))from WN.o.1) XM.o;have zcM:∀b,vf.ownBlock=some b->w.heap.size+3<b/\b<w4.heap.size:=fun b hb=>by
    have h1:=(WN.o.1.lt b hb);have h2:=HPB.o.lt;exact⟨by omega,by omega⟩
   have⟨m,hm⟩:=az (dy (aP [] g++aL z));have MS:dy (dX (aP [] g)++dX (aL z))=m:=by rw[hm];exact NQ (by omega) (by omega) (by omega) (by omega)
   have te:m.length<=2000000:=by rw[hm];exact rM (by simp only[ei];omega)
   have nH:∀x∈dX (aP [] g)++dX (aL z),x.length<=2000000:=fun x hx=>by
    rcases List.mem_append.1 hx with hx|hx
    ·exact oo g [] qr.o.2.2.2.2.2 x ((eG x _).1 hx)
    ·exact oT z TR.o.1.2 x ((eG x _).1 hx)
   have qq:(dX (aP [] g)++dX (aL z)).length<=1000000:=by simp only[ei];omega
   have Ah:Hd (RS=.mk qo m [] [h_ kk nx z (h_ kk n (bj m) g)]):=ae (by rw[Z9.o,rK td,HCn.o,TV,aw (by simpa using hn),aG rfl,<-hm];rfl);have HM:=cH MS te nH qq;have⟨HVB,HV6⟩:=bi zcM zcL;have HL6:=ae (show iz.heap.size<=w7.heap.size from aR (by have:=Lh.o.below.size;have:=HPB.o.lt;exact ze5.o) XM.o.size);have XN:=ae (show(dX (aP [] g)).length+(dX (aL z)).length<=4000000 by omega);clear n1 TV ze8 ze9 zfa zfb zcJ zcK zcL zcM hm MS te nH qq;gi_wp2_with (gi_at_builtin;refine sR rfl _ _ rfl iz.heap.size HL6.o vf _ rfl HV6.o vn _ rfl _ HVn.o.strs XN.o ?_;intro v8 w8 Li TX;have XO:=aM Li TX;clear Li TX);have zaw:=I0.o.grown XO.o.2 (fun b hb=>(HVB.o b hb).1);have t8:w8.heap[w4.heap.size]?=some (.cells #[.int .u8 go,.string gn,.slice ga gl gc,.slice gb gm ge] 36 (0,0)):=(XO.o.2.block _ (by have:=XM.o.size;have:=(bQ HT6.o);omega) (fun e=>by have:=(HVB.o _ e.symm).2;omega)).trans HT6.o;have CFr:=G0 W0 w8 (TS.o.next zaw.below) _ HM.o.2.2.2 HM.o.2.2.1 _ v8 XO.o.1.strs;rw[HM.o.1]at CFr;have⟨zax,zfc,HT8⟩:=cU CFr zaw t8;clear CFr zaw t8;refine aO.2 (zax.o.mono ?_);rintro e w9 ⟨rfl,oq⟩;have yE:=zfc.o.later oq;have t9:w9.heap[w4.heap.size]?=some (.cells #[.int .u8 go,.string gn,.slice ga gl gc,.slice gb gm ge] 36 (0,0)):=bY oq HT8.o;have q1:=ao yE.b2 1;have zq1:=ai yE.b2 1;have pF:=yE.setR 1 (.string ⟨m.toArray⟩);have tA:(w9.setCell ⟨w.heap.size+1+1+1,1,none⟩ (.string ⟨m.toArray⟩)).heap[w4.heap.size]?=some (.cells #[.int .u8 go,.string gn,.slice ga gl gc,.slice gb gm ge] 36 (0,0)):=(e_ _ _ _ _ (by have:=Lh.o.lt;simp <;>omega)).trans t9;have⟨Ra,HTA⟩:=bi pF tA;clear oq yE t9 pF tA;gi_wp2;have⟨W2,bp⟩:=az (w9.setCell ⟨w.heap.size+1+1+1,1,none⟩ (.string ⟨m.toArray⟩));rw[<-bp]at Ra HTA⊢;clear bp q1 zq1;have quQ:=();exact qan):G:=h
theorem qkc(h:G:=by
 have l2:=(hl (w4.alloc (.cells #[.bool false,.string ⟨#[]⟩,.slice none 0 0] 43)).drew (bZ _ _ _ (by have:=nL.ts.lt;omega))).1
 first
 |clear up;have⟨W6,dr⟩:=az (w4.alloc (.cells #[.bool false,.string ⟨#[]⟩,.slice none 0 0] 43)).drew;have sW:Below w4.heap.size w4 W6:=by rw[dr];exact dh.drew
  have qg:Below W3.heap.size W3 W6:=H4.o.tr sW;have Gd:Below W6.heap.size W6 W6.drew:=(ar _ _).drew;have Uc:=(nL.later sW).later Gd;have zc0:=(HV.o.2.1.later qg).later Gd;obtain⟨w6,cV,Ln,Lo,Re⟩:=Uc.storeT (fun h=>h HG.o.2.2.2.1) (by have:=Ub.o.1;omega) (x:=n) (by omega) zc0 HF.o.2 (l':=iB n (.mk uv n' a') k.ts) (fun y=>D5 hg y);have r0:=aa sW g0;have r1:=aa Gd r0;have r2:=aa qg e1;have r3:=aa Gd r2;have r4:=aa qg f0;have r5:=aa Gd r4;have r6:=aa qg f1;have r7:=aa Gd r6;have r8:=aa qg f2;have r9:=aa Gd r8;have HE:=ae (show R=some (iB n (.mk uv n' a') k.ts) by rw[HR.o,aG (by simp[rd]),hg]);have N4:=aM Ln ((Kp.below ((H3.o.1.tr qg).tr Gd)).trans Lo);unfold TQ.val at cV;clear nL hl Uc zc0 Ln Lo Re hg qg sW Gd;go_region
  all_goals
   rw[<-dr];clear dr;go_wp2;go_region;go_wp2;go_ret;exact⟨N4.o.2,true,rfl,(fun h=>by rw[HE.o]at h;cases h),(fun ts hts=>⟨rfl,nT+1,by have:=Ub.o.2;omega,by rw[HE.o]at hts;cases hts;exact N4.o.1⟩)⟩
 |have⟨W6,dr⟩:=az (w4.alloc (.cells #[.bool xv,.string xn,.slice xa xl xc] 43)).drew;have sW:Below w4.heap.size w4 W6:=by rw[dr];exact dp.drew
  have qg:Below W3.heap.size W3 W6:=H4.o.tr sW;have x5:W6.heap[w4.heap.size]?=some (.cells #[.bool xv,.string xn,.slice xa xl xc] 43 (0,0)):=by rw[dr];exact aq rfl
  have⟨r0,r1,r2⟩:=kB qg f0 f1 f2;obtain⟨s0,s1,s2,_⟩:=ir x5;have CS:=yK u (.mk uv n' a') _ _ W6 ⟨xv,xn,xa,xl,xc⟩ ⟨uv,⟨n'.toArray⟩,ua,n2,uc⟩ (HG.o.2.1 _ hpu) (HG.o.2.1 _ HF.o.2) (hxv.later sW) (HV.o.2.1.later qg);simp only[TQ.val]at CS;have vQ:=ae CS;have HE:=ae (show R=if zS u (.mk uv n' a')then some k.ts else none by rw[HR.o,aG (by simp[rd]),hg]);have Ud:=aM (nL.later sW) (H3.o.1.tr qg);have⟨bb,dz⟩:=az (zS u (.mk uv n' a'));rw[<-dz]at HE vQ;clear nL hl hg qg sW x5 CS dz hxv hpu;go_region
  all_goals
   rw[<-dr];clear dr;go_wp2_with (go_at_call 162;refine vQ.o.mono ?_;rintro e w6 ⟨rfl,bE⟩;have H6:=ae bE;clear bE);go_ret;refine⟨Kp.below (Ud.o.2.tr H6.o),bb,rfl,(fun h=>?_),(fun ts hts=>?_)⟩
   ·rw[HE.o]at h;cases bb;rfl;cases h
   ·rw[HE.o]at hts;cases bb;cases hts;cases hts;exact⟨rfl,nT,by omega,Ud.o.1.later H6.o⟩):G:=h
theorem qkJ(h:G:=by
 rw[HE.o];exact H6.o.2.1.move (fun b hb hlt=>⟨aR H5.o.1.size hb,k8.same b hlt (by have:=(bQ H5.o.2);omega)⟩)):G:=h
theorem qcx(h:G:=by
 simp only[Df.mk.injEq]at hd;rw[hd.1]at hq;exact absurd hq gY):G:=h
theorem qkn(h:G:=by
 simp only[am];refine di 5 23 (.string ⟨n.toArray⟩) rfl (fun V hX=>by obtain⟨h0,h1,h2⟩:=ff V hX;go_simp) jM fun km=>?_;simp only[am]
 first
 |clear qzG;refine di 6 24 (.agg #[.int .u8 g0,.string g1,.slice g2 g3 g4,.slice g5 g6 g7]) rfl (fun V hX=>by obtain⟨h0,h1,h2⟩:=ff V hX;go_simp) km fun mU=>?_
  exact qaO
 |refine di 6 24 (.agg #[.bool z0,.string z1,.slice z2 z3 z4]) rfl (fun V hX=>by obtain⟨h0,h1,h2⟩:=ff V hX;go_simp) km fun mU=>?_
  have qAq:=();exact qaO):G:=h
theorem qf1(h:G:=by
 go_wp2_with (first|(go_at_call 115;refine C1.o.mono ?_;rintro e w' ⟨rfl,pD⟩;obtain rfl:=pD.symm));go_ret
 first
 |clear up;exact eF.no (l:=left-1) HE.o (pE.o) (zL.o) (by omega) (by omega)
 |exact eF.no (l:=left-1) HE.o rA.o.1 rA.o.2.1 (by omega) (by omega)):G:=h
theorem qkK(h:G:=by
 have ht:l.take k=l:=by rw[dN.o];exact dA
 rw[ht]at hR⊢;have⟨HR,HB,HT⟩:=cU hR aD ht;clear hR aD ht;rw[<-dN.o]at HR⊢;go_wp2;go_ret
 first
 |clear an;exact⟨ra,rc,rfl,by have:=HR.o.terms;rw[dN.o]at *;exact this,HB.o⟩
 |exact⟨ra,rc,rfl,by have:=HR.o.forms;rw[dN.o]at *;exact this,HB.o⟩):G:=h
theorem qb7(h:G:=by
 have CN:=ae (fun w=>dQ▸uG r2 TN n wi w)
 first
 |clear qkj;have HE:Hd (BX=false):=ae (hM.trans (by simp[dQ]));exact qdW
 |clear qzy
  by_cases dG:k0<=r3
  ·have za1:¬((r3:Int)<(k0:Int)):=by omega
   by_cases YC:m0=r4
   ·have za2:((m0:Int)==(r4:Int))=true:=by simp;omega
    have qx5:=();exact qjy
   ·have za2:((m0:Int)==(r4:Int))=false:=by simp;omega
    exact qkF
  ·have za1:(r3:Int)<(k0:Int):=by omega
   exact qkL
 |by_cases dG:k0<=r3
  ·have za1:¬((r3:Int)<(k0:Int)):=by omega
   by_cases YC:m0=r4
   ·have za2:((m0:Int)==(r4:Int))=true:=by simp;omega
    exact qjy
   ·have za2:((m0:Int)==(r4:Int))=false:=by simp;omega
    exact qkF
  ·have za1:(r3:Int)<(k0:Int):=by omega
   exact qkL):G:=h
theorem qkM(h:G:=by
 have cr:((a.map aU).take k).length=k:=by rw[dO];have:=dN.o;simp;omega
 have jW:(a.map aU).take k=(a.map aU):=gB (by have:=dN.o;simp;omega)
 first
 |clear qAs;have qAt:=();exact qax
 |have qAu:=();exact qax):G:=h
theorem qeT(h:G:=by
 have bD:0<k0:=by rw[cD];exact jR.2 h0
 rw[<-cD]at hlen⊢;have⟨dN,el,HCp⟩:=cU cD hv XI;have le:((k0:Int)==0)=false:=by simp;omega
 first
 |clear qAv;have AZ:∀W:World,(Instr.makeSlice 33 (.int .i64 0) (.int .i64 (k0:Int))).run prog W=.ok (.slice (some ⟨W.heap.size,0,none⟩) 0 k0) (W.alloc (.cells (madeCells (Value.cells (.agg #[.bool false,.string ByteArray.empty,.slice none 0 0])) (k0*3)) 43)):=fun W=>by
   have h:=run_makeSlice (P:=prog) W 33 43 i0 (.agg #[.bool false,.string ByteArray.empty,.slice none 0 0]) underlying33 hi oO .i64 .i64 0 (k0:Int) (by omega) (by omega) (by rw[jv];simp;omega) (by rw[iG];omega) (by omega);exact qkN
  have Lf:dH w.heap.size (.slice (some ⟨w.heap.size,0,none⟩) 0 k0) (l.take 0) (w.alloc (.cells (madeCells (Value.cells (.agg #[.bool false,.string ByteArray.empty,.slice none 0 0])) (k0*3)) 43)):=dH.made _ _ (aK _) (by unfold maxLen;omega) (by rw[size_madeCells]);have TP:=ae Lf;clear hv XI cD aI Lf h0;exact qkO
 |have AZ:∀W:World,(Instr.makeSlice 34 (.int .i64 0) (.int .i64 (k0:Int))).run prog W=.ok (.slice (some ⟨W.heap.size,0,none⟩) 0 k0) (W.alloc (.cells (madeCells (Value.cells (.agg #[.int .u8 0,.string ByteArray.empty,.slice none 0 0,.slice none 0 0])) (k0*4)) 36)):=fun W=>by
   have h:=run_makeSlice (P:=prog) W 34 36 i0 (.agg #[.int .u8 0,.string ByteArray.empty,.slice none 0 0,.slice none 0 0]) underlying34 hi oO .i64 .i64 0 (k0:Int) (by omega) (by omega) (by rw[jv];simp;omega) (by rw[iG];omega) (by omega);exact qkN
  have Lf:eO w.heap.size (.slice (some ⟨w.heap.size,0,none⟩) 0 k0) (l.take 0) (w.alloc (.cells (madeCells (Value.cells (.agg #[.int .u8 0,.string ByteArray.empty,.slice none 0 0,.slice none 0 0])) (k0*4)) 36)):=eO.made _ _ (aK _) (by unfold maxLen;omega) (by rw[size_madeCells]);have TP:=ae Lf;clear hv XI cD aI Lf h0;go_enter func108,ntmps108;go_wp2;go_loopw [5,16] (fun r i wr=>∃k:Nat,k<=k0/\i=.int .i64 k/\eO w.heap.size r (l.take k) wr/\Below w.heap.size w wr) (fun _ i _=>k0-(intOf i).toNat)
  case atStart=>exact⟨0,bn _,rfl,TP.o,dp⟩
  case round=>
   exact qb6):G:=h
theorem qjB(h:G:=by
 have⟨W5,hZ⟩:=az (w4.alloc (.cells #[.int .u8 p0,.string p1,.slice p2 p3 p4,.slice p5 p6 p7] 36));rw[<-hZ];have sW:=dj hZ
 first
 |clear qAw;have qg:Below W3.heap.size W3 W5:=H4.o.2.tr sW;have Nz:=Kh hZ;have x7:=cA hZ;have Lv:aC (fun b=>¬M b) W5 (FQ.val ⟨p0,p1,p2,p3,p4,p5,p6,p7⟩) im:=H4.o.1.move (fun b hb hlt=>⟨fun hm=>by have:=HG.o.2.2.2.2 b hm;have:=H3.o.1.size;omega,sW.block b hlt⟩);have lp:=pE.o.later qg;have bA:kb<W5.heap.size:=lp.ltb;have g0:W5.cell? ⟨kb,0,none⟩=some (.map (some mF)):=ao lp.box 0;have g1:W5.drew.cell? ⟨kb,0,none⟩=some (.map (some mF)):=ao lp.box 0;have g2:=aa qg e1;have g3:=aa qg.drew e1;have bE:Below W5.heap.size W5 (W5.alloc (.cells #[.int .u8 0,.string ⟨#[]⟩,.slice none 0 0,.slice none 0 0] 36)):=dp;have⟨g4,g5⟩:=C8 bE g0 g2;have H5:=cH qg Lv x7 lp;rcases lp.fs.look underlying9 underlying145 oD (x:=n) (by have:=HF.o.2.2.1;omega)with⟨hg,hlk⟩|⟨g,vg,hg,hvg,hlk⟩
  ·have l1:=(hlk W5.drew rfl).1;have up:=();exact qks
  ·obtain⟨⟨Ja,Jb,Jc,Jd,Je,Jf,Jg,Jh⟩,rfl,rS,Lw⟩:=hvg;simp only[FQ.val]at hlk;have l1:=(hlk W5.drew rfl).1;exact qks
 |have Jo:Below W2.heap.size W2 W5:=H4.o.2.tr sW;have x5:=cA hZ;have Lv:aC (fun b=>¬M b/\b≠W1.heap.size) W5 (FQ.val ⟨p0,p1,p2,p3,p4,p5,p6,p7⟩) im:=H4.o.1.move (fun b hb hlt=>⟨⟨fun hm=>by have:=HG.o.2.2.2.2 b hm;have:=H2.o.2.1.size;omega,by have:=Bb.o.2.2.2.1;omega⟩,sW.block b hlt⟩);have hgi:=_b.o im rfl;have H5:=cH Jo x5 Lv hgi;have HT7:=ae (show W1.heap.size≠w4.heap.size by have:=Bb.o.2.2.2.1;have:=H4.o.2.size;omega);have tS:=ae hZ;clear P0 P1 P2 P3 P4 P5 P6 P7 P8 e0 e1 e2 e3 sW Jo x5 Lv hgi hZ;have zdg:=bY H5.o.1 H2.o.2.2.2;have⟨P0,P1,P2,P3⟩:=pC zdg;have zfx:=ae (HIN.o W5 (H2.o.1.tr H5.o.1));go_upto_region 10 with(go_at_call 96;refine zfx.o.mono ?_;rintro e w6 ⟨rfl,dh⟩;have H6:=ae dh;clear dh);clear P0 P1 P2 P3 zdg;have zaX:Below W2.heap.size W2 w6:=H5.o.1.tr H6.o;have x26:=bY zaX H2.o.2.2.1;obtain⟨e0,e1,e2,e3,_,_,_,_⟩:=dw x26;have zfy:=ae (Rr.o w6 zaX);clear zaX x26;go_upto_region 11 with(go_at_call 97;refine zfy.o.mono ?_;rintro e w7 ⟨rfl,g_⟩;have H7:=ae g_;clear g_);clear e0 e1 e2 e3;have U0:Below W2.heap.size W2 w7:=(H5.o.1.tr H6.o).tr H7.o;have OA:Below W5.heap.size W5 w7:=H6.o.tr H7.o;have Yz:=bY U0 H2.o.2.2.1;have x57:=bY OA H5.o.2.1;obtain⟨e0,e1,e2,e3,z0,z1,z2,z3⟩:=dw Yz;obtain⟨f0,f1,f2,f3,_,_,_,_⟩:=dw x57;have Mc:=cH U0 Yz x57 (H5.o.2.2.1.later OA);have _n:=ae (HK2.o.later U0);have Yw:=ae (Cq.o.2.later U0);clear U0 OA Yz x57
  by_cases h0:n0=0
  ·subst h0;have⟨bb,dz⟩:=az (cI [] f im);have hE:=zaW.o;rw[aG rfl,<-dz]at hE;have HE:=ae hE;have CA:=yQ f im [] (.slice none 0 0) _ _ w7 ⟨Ja,Jb,Jc,Jd,Je,Jf,Jg,Jh⟩ ⟨p0,p1,p2,p3,p4,p5,p6,p7⟩ (by have:=Cq.o.1.nodes;simp[fL];omega) Cq.o.1.fit Yw.o Mc.o.2.2.2 (cw.nil w7);simp only[FQ.val,List.reverse_nil,<-dz]at CA;have Ji:=ae CA;clear hE CA dz;cases bb
   ·go_wp2_with (go_at_call 92;refine Ji.o.mono ?_;rintro e w8 ⟨rfl,jc⟩;have H8:=ae jc;clear jc);go_ret;exact dq.bad HE.o (by decide) (Kp.below (H2.o.2.1.tr (Mc.o.1.tr H8.o)))
   ·go_wp2_with (go_at_call 92;refine Ji.o.mono ?_;rintro e w8 ⟨rfl,jc⟩;have H8:=ae jc;clear jc);go_ret;exact dq.good nF nT HE.o (Kp.below (H2.o.2.1.tr (Mc.o.1.tr H8.o))) (by omega) (by omega) ((_n.o.later H8.o).move (fun b hb _=>⟨hb.1,rfl⟩) rfl rfl rfl)
  have Yx:=zaW.o;rw[aw h0]at Yx;have sU:=ae (show n0<=400/\0<n0 by have:=Cq.o.1.nodes;have:=rT dM f;have:=HN0.o;omega);have qN:(0:Int)<(n0:Int):=by omega
  have zgw:=HF.o.2.2.1;have k0:w7.cell? ⟨kb,1,none⟩=some (.map (some mT)):=ao _n.o.box 1;clear h0;rcases _n.o.ts.look underlying9 underlying146 lx (x:=y) (by omega)with⟨hg,hlk⟩|⟨t,vt,hg,hvt,hlk⟩
  ·have l1:=(hlk w7 rfl).1;clear hlk;go_upto_region 14 with fail;clear k0 l1 qN e0 e1 e2 e3 z0 z1 z2 z3 f0 f1 f2 f3;have⟨W8,kM⟩:=az (w7.alloc (.cells #[.bool false,.string ⟨#[]⟩,.slice none 0 0] 43));have qAx:=();exact qkP
  ·obtain⟨⟨Jl,Ur,Us,Ut,Uu⟩,rfl,sV,hpt⟩:=hvt;simp only[TQ.val]at hlk;have l1:=(hlk w7 rfl).1;clear hlk;go_upto_region 18 with fail;clear k0 l1 qN;have⟨W8,kM⟩:=az (w7.alloc (.cells #[.bool Jl,.string Ur,.slice Us Ut Uu] 43));exact qkP):G:=h
theorem qbh(h:G:=by
 obtain⟨a1,a2,a3,a4⟩:=jz k g n m hw.2 hq1.2 (by omega)
 first
 |clear up;have hmx:m≠x:=fun e=>hm.1 (by rw[e];simpa using h1.2);have ZR:(aL u).contains m=false:=by simpa using hm.2
  have Px:ap (bj m)=1:=by simp[bj,ap,af]
  have hU:1<=ap u:=by obtain⟨_,_,_⟩:=u;simp[ap]
  simp only[li,hq,if_true,tK,fv];rw[rL k _ x u _ _ a1 a2 (by omega) (by omega),rL k g n (bj m) _ _ hw.2 hq1.2 (by omega) (by omega),KU ZR];congr 2;have e1:iH (jP (jP σ m (.lvl d)) x (iH σ u)) (bj m)=.lvl d:=by
   have:(m==x)=false:=by simpa using hmx
   simp[bj,iH,jP,this]
  rw[e1,DG _ hmx,DG (jP σ x (iH σ u)) (x:=m) (y:=n) (fun e=>by subst e;rw[h2]at ZR;cases ZR),To hm.1]
 |clear GB;have b0:=rN k g n (bj m) hw.2 hq1.2 (by omega) (by simp[bj,ap,af]at *;omega) hf.2.2.2 (Af hm);have b1:=rN k _ x u a1 a2 (by omega) (by rw[a4];simp[af]at hs;omega) b0 hu;simp only[mI,eu,ak,bM,fU,List.map_nil,d8];exact⟨hf.1,hm,trivial,b1,trivial⟩
 |clear an;obtain⟨b1,b2,b3,b4⟩:=jz k _ x y a1 a2 (by omega);simp only[iV,gy,il,hO,a_,bl,ag,ah,fU,List.map_nil,eC,b1,b2,b3,b4,a3,a4,hq];simp
 |clear it;have b1:=yN k _ x u a1 a2 (by omega);rw[a4]at b1;exact qkQ
 |obtain⟨b1,b2⟩:=rY hu k _ x a1 a2 (by omega);simp[iV,gy,il,hO,fU,eC,b1,b2]):G:=h
theorem qhb(h:G:=by
 clear CT NY Cm iX dQ _f hc;go_wp2_with (go_at_call 128;refine K_.o.mono ?_;rintro e w8 ⟨rfl,rfl⟩)
 first
 |clear up;obtain⟨W8,kM,x8,k8,g0,g1,g2⟩:=sT Kb.o.1 (.bool false) (.string ⟨#[]⟩) (.slice none 0 0);rw[<-kM];refine bX (v:=.tuple #[TQ.val ⟨false,⟨#[]⟩,none,0,0⟩,.bool false]) (by simp[TQ.val,results,results98,go_sem,g0,g1,g2]) rfl ⟨⟨⟨false,⟨#[]⟩,none,0,0⟩,by rw[HE.o];rfl,fun u hu=>by rw[HE.o]at hu;cases hu⟩,Below.kp1 Kb.o.2 k8 (by omega)⟩
 |go_roundw
  case rel=>exact⟨j3+1,by omega,by go_num,by simp,Bl.o⟩
  case measure=>simp[intOf];omega):G:=h
theorem qkR(h:G:=by
 exact⟨Kp.below H4.o,by rw[zk HG.o.1];exact Qj.o.symm,bY H4.o HG.o.2.1,HG.o.2.2.trans (Kp.below H4.o)⟩):G:=h
theorem qb6(h:G:=by
 obtain⟨k,hk,rfl,hR,aD⟩:=hrel;obtain⟨ra,rc,rfl⟩:=hR.slice
 first
 |clear qAC;have⟨W5,IU⟩:=az wr;subst IU;have cr:((d9 ns l).take k).length=k:=by rw[dO,pw,<-dN.o];omega
  rw[cr]at hR⊢
  by_cases hlt:k<k0
  ·have dG:=cG dN.o hlt;obtain⟨b,off,u,rfl,_,hu,c0,c1,c2⟩:=el.o.get dG;have xH:=lH.o.mem (aH dG);have HC:=HCp.o l[k] (aH dG);obtain⟨v,n,al,hel⟩:∃v n al,l[k]=.mk v n al:=by cases l[k];exact⟨_,_,_,rfl⟩
   have AR:(d9 ns l).take (k+1)=(d9 ns l).take k++[fZ ns v n al n2]:=by
    rw[Fh,<-List.map_take,<-List.map_take,lq dG,List.map_append,hel,Cb.o];simp[fZ,pu]
   rw[hel]at hu xH HC
   change MD ns al at HC
   obtain⟨s,hs,bN⟩:=aW.1 hu;obtain⟨qv,qn,qa,ql,qc⟩:=u;exact qam
  ·obtain rfl:k=k0:=by omega
   have ht:(d9 ns l).take k=d9 ns l:=gB (by rw[pw,dN.o];omega);rw[ht]at hR;have⟨HR,HB⟩:=bi hR aD;clear hR aD ht cr;go_wp2;go_ret;exact⟨⟨ra,rc,rfl,HR.o.terms⟩,HB.o⟩
 |clear qxX
  by_cases hlt:k<n1
  case pos=>
   have bA:k<bd.fs.length:=by rw[<-sU.o];exact hlt
   obtain⟨⟨nm,fm⟩,yB⟩:∃x,x=bd.fs[k]:=⟨_,rfl⟩;obtain⟨b,off,x,rfl,hok,hx,c0,c1,c2,c3,c4⟩:=(HQV.o.1).get bA;rw[<-yB]at hx c0;simp only at hx c0;have hm:(mm (bd.fs.take k)).length=2*k:=by rw[zu,dO];omega
   have⟨M,hMM⟩:=az (2*k);rw[hm,<-hMM]at hR⊢;rw[<-hMM]at hm;have Cu:(k:Int)<(n1:Int):=by omega
   have qAD:=();exact qkS
  obtain rfl:k=n1:=by omega
  have⟨wo,IU⟩:=az wr;subst IU;have hm:(mm (bd.fs.take k)).length=2*k:=by rw[zu,dO];have:=sU.o;omega
  rw[hm]at hR⊢;rw[gB (by rw[<-sU.o];exact aK _)]at hR;have d0:=aa aD kf.o.2.1;have⟨HR0,X_⟩:=bi hR aD;clear hR aD hm;go_wp2;go_loopw [3,5] (fun r i wr=>∃j:Nat,j<=n2/\i=.int .i64 j/\vA W1.heap.size r (mm bd.fs++nG (bd.ts.take j)) wr/\Below W1.heap.size W1 wr) (fun _ i _=>n2-(intOf i).toNat)
  case atStart=>exact⟨0,bn _,rfl,by simpa[nG]using HR0.o,X_.o⟩
  case round=>
   obtain⟨j,hj,rfl,hR,aD⟩:=hrel;obtain⟨ra,rc,rfl⟩:=hR.slice;clear d0
   by_cases fC:j<n2
   case pos=>
    have bA:j<bd.ts.length:=by rw[<-Cb.o];exact fC
    obtain⟨⟨nm,tm⟩,yB⟩:∃x,x=bd.ts[j]:=⟨_,rfl⟩;obtain⟨b,off,x,rfl,hok,hx,c0,c1,c2,c3⟩:=(HQV.o.2).get bA;rw[<-yB]at hx c0;simp only at hx c0;have hm:(mm bd.fs++nG (bd.ts.take j)).length=2*k+j:=by rw[ei,zu,<-sU.o];simp[nG];omega
    have⟨M,hMM⟩:=az (2*k+j);rw[hm,<-hMM]at hR⊢;rw[<-hMM]at hm;have Cu:(j:Int)<(n2:Int):=by omega
    exact qkS
   obtain rfl:j=n2:=by omega
   have hm:(mm bd.fs++nG (bd.ts.take j)).length=2*k+j:=by rw[ei,zu,<-sU.o];simp[nG];have:=Cb.o;omega
   rw[hm]at hR⊢;rw[gB (by rw[<-Cb.o];exact aK _)]at hR;have d0:=aa aD kf.o.2.2;have CS:=Ij (mm bd.fs++nG bd.ts) _q.o _ wr ra _ rc hR.forms;have⟨vQ,HB⟩:=bi CS aD;clear hR CS aD hm;exact qfv
 |clear qAE
  by_cases hlt:k<k0
  ·have dG:=cG dN.o hlt;have qwK:=();exact qah
  ·obtain rfl:k=k0:=by omega
   have an:=();exact qkK
 |by_cases hlt:k<k0
  ·have dG:=cG dN.o hlt;obtain⟨b,off,u,rfl,_,hu,c0,c1,c2,c3⟩:=el.o.get dG;exact qaK
  ·obtain rfl:k=k0:=by omega
   exact qkK):G:=h
theorem qek(h:G:=by
 rcases h.shape with⟨rfl,h0⟩|⟨g,cap,rfl,_⟩
 ·exact⟨none,0,by rw[h0]⟩
 ·exact⟨_,_,rfl⟩):G:=h
theorem qjF(h:G:=by
 have HB:=ae aD;clear CB aD iX hq c0 hok;go_wp2_with (go_at_fn g;refine HC.o.mono ?_;rintro e w4 ⟨rfl,aY⟩;have H4:=ae aY;clear aY)
 first
 |clear it;go_ret;exact⟨.inr ⟨k,_,HE.o.2.2,rfl,HE.o.1,HE.o.2.1⟩,HB.o.tr H4.o⟩
 |exact qdO):G:=h
theorem qfX(h:G:=by
 have hB:Below wr.heap.size wr (wr.alloc (.cells #[.int .u8 u.o,.string u.n,.slice u.a u.l u.c,.slice u.b u.m u.e] 36)):=dp
 first
 |clear up;have AS:=bD.size;have FT:∀b,M b->b<(wr.alloc (.cells #[.int .u8 u.o,.string u.n,.slice u.a u.l u.c,.slice u.b u.m u.e] 36)).heap.size:=fun b hb=>by have:=FD.o b hb;simp;omega
  have uY:(pre++([f]++eK (s.take k))++mK s[k]) <+: xs:=by
   have h1:eK s=eK (s.take (k+1))++eK (s.drop (k+1)):=by
    conv=>lhs;rw[<-List.take_append_drop (k+1) s]
    exact tD _ _
   have h2:=qG.o;rw[h1,jX]at h2;obtain⟨r,rfl⟩:=h2;exact⟨eK (s.drop (k+1))++r,by simp⟩
  have CC:=gZ.o s[k] (aH bA) M B l J xs (pre++([f]++eK (s.take k))) _ u FT (fun t=>(HJ.o t).mono (by simp;omega)) (HY.o.later (bD.trans (Kp.below hB))) (hu.kp (bD.trans (Kp.below hB))) uY (HJ.o _ _ _ (Nw.below hB) hj);exact qc5
 |have e1:(wr.alloc (.cells #[.int .u8 u.o,.string u.n,.slice u.a u.l u.c,.slice u.b u.m u.e] 36)).cell? ⟨W.heap.size+1,0,none⟩=some (.map (some mb)):=aa hB (ao b1 0);have e2:(wr.alloc (.cells #[.int .u8 u.o,.string u.n,.slice u.a u.l u.c,.slice u.b u.m u.e] 36)).cell? ⟨W.heap.size+2,0,none⟩=some (.func (.yield l) #[] #[]):=aa hB (ao b2 0);have uY:(pre++(A++bK bs' (ss.take k))++aP bs' ss[k]) <+: xs:=by
   have h1:bK bs' ss=bK bs' (ss.take (k+1))++bK bs' (ss.drop (k+1)):=by
    conv=>lhs;rw[<-List.take_append_drop (k+1) ss]
    exact qd _ _ _
   have h2:=qG.o;rw[h1,jX]at h2;obtain⟨r,rfl⟩:=h2;exact⟨bK bs' (ss.drop (k+1))++r,by simp⟩
  have hNn:=zK.o;have CC:=gZ.o ss[k] (aH bA) M B l J xs (pre++(A++bK bs' (ss.take k))) W0 _ u mb n' bs' FD.o HMb.o HJ.o HY.o hu (le.trans (Kp.below hB)) (hbd.same (hB.block mb hbd.lt)) (by omega) (by omega) uY (HJ.o _ _ _ ((Nw.below hB)) hj);unfold FQ.val at CC;have HC:=ae CC;have HS:=bS jX sH FE;have mJ:=ae (bD.trans (Kp.below hB));clear hu hB uY CC jX sH mn FE hbd le bD hj c0 c1 c2 c3 b0 b1 b2 hNn;go_wp2_with (go_at_call 149;refine HC.o.mono ?_;rintro e w3 ⟨rfl,tb,mq,aS,TO⟩;have HH:=cH tb mq aS TO;clear tb mq aS TO);go_roundw
  case rel=>
   obtain⟨n'',ze3,zap⟩:=HH.o.2.2.1;exact⟨k+1,by omega,by go_num,by rw[HS.o.1,<-List.append_assoc A];simpa using HH.o.1,HH.o.2.1,⟨n'',by have:=HS.o.2.1;have:=HS.o.2.2;omega,zap⟩,mJ.o.trans HH.o.2.2.2⟩
  case measure=>simp[intOf];omega):G:=h
theorem qkH(h:G:=by
 have CP:=ae (fun w:World=>hp▸Db s[k].toNat w);clear hp;go_wp2;go_quiet ((go_at_call 217;exact iF (CP.o _)))
 first
 |clear up;exact qkT
 |exact qj1):G:=h
theorem qgH(h:G:=by
 have CP:=ae (fun w:World=>hp▸ro s[k].toNat w);clear hp;go_wp2;go_quiet ((go_at_call 189;exact iF (CP.o _)))
 first
 |clear qrC;exact qkT
 |exact qj1):G:=h
theorem qfj(h:G:=by
 obtain⟨bb,off,⟨a0,a1,a2,a3,a4,a5,a6,a7⟩,⟨b0,b1,b2,b3,b4,b5,b6,b7⟩,rfl,hok,hs,hf,c0,c1,c2,c3,c4,c5,c6,c7⟩:=HV.o.1.get lG
 first
 |clear qnR;have⟨d0,d1,d2,d3,d4,d5,d6,d7⟩:=M_ l9 c0 c1 c2 c3 c4 c5 c6 c7;simp only at d0 d1 d2 d3 d4 d5 d6 d7;have cV:=JF lG;have rO:=HV.o.2.2.2.2 _ (aH lG);obtain⟨⟨s,f⟩,SM⟩:∃x,x=l[j]:=⟨_,rfl⟩;rw[<-SM]at cV rO hs hf;simp only at cV rO hs hf;have⟨W5,hZ⟩:=az (wr.alloc (.cells #[.int .u8 a0,.string a1,.slice a2 a3 a4,.slice a5 a6 a7,.int .u8 b0,.string b1,.slice b2 b3 b4,.slice b5 b6 b7] 50));have bE:=dj hZ;have x5:=cA hZ;have Cu:(j:Int)<(n2:Int):=by omega
  have CS:=EU W0 s rO.1 _ W5 ((HV.o.2.2.1.next l9).next bE) ⟨a0,a1,a2,a3,a4,a5,a6,a7⟩ ((hs.move (dT l9)).later bE);have CR:=fun(V:World)(h:Below W5.heap.size W5 V)=>oJ W0 f rO.2 _ V (((HV.o.2.2.1.next l9).next bE).next h) ⟨b0,b1,b2,b3,b4,b5,b6,b7⟩ (((hf.move (dT l9)).later bE).later h);simp only[FQ.val]at CS CR;have⟨gs,U5⟩:=az (eS s);have⟨gr,YD⟩:=az (bw f);rw[<-U5]at CS;rw[<-YD]at CR;rw[<-U5,<-YD]at cV;have⟨vQ,HCR,tS⟩:=cU CS CR hZ;have H5:=bS (l9.tr bE) bE x5;have cR:=ae aD;have SL:=((H3.o.2.1▸(aD.block _ (bQ H3.o.2.1))):wr.heap[w.heap.size+1]?=_);have kJ:=ae (bY bE SL);clear CS CR hZ bE x5 l9 aD hs hf rO SM U5 YD hok c0 c1 c2 c3 c4 c5 c6 c7 SL lG
  cases gs with
  |false=>
   have an:=();exact qkU
  |true=>
   cases gr with
   |false=>
    exact qkU
   |true=>
    have HG:=ae (show eT 0 l=eT (j+1) (l.drop (j+1)) by rw[jm,cV];rfl);clear jm cV;gi_wp2_with (first|(rw[<-tS.o];gi_at_call 26;refine aO.2 (vQ.o.mono ?_);rintro e w6 ⟨rfl,dh⟩;have U6:=bY dh H5.o.2.2;have i4:=ao U6 4;have i5:=ao U6 5;have i6:=ao U6 6;have i7:=ao U6 7;have H6:=ae dh;clear dh U6)|(gi_at_call 39;refine aO.2 ((HCR.o _ H6.o).mono ?_);rintro e w7 ⟨rfl,g_⟩;have H7:=ae (H6.o.tr g_);clear g_));go_roundw
    case rel=>exact⟨j+1,by omega,by go_num,(cR.o.tr H5.o.2.1).tr H7.o,HG.o⟩
    case measure=>simp[intOf];omega
 |have⟨d0,d1,d2,d3,d4,d5,d6,d7⟩:=M_ nX c0 c1 c2 c3 c4 c5 c6 c7;simp only at d0 d1 d2 d3 d4 d5 d6 d7;have cV:=EV (step:=bc) (k:=kj) lG;have rO:=HV.o.2.2.2.2 _ (aH lG);have EZ:=(gx l 0).1 HBp.o _ (aH lG);obtain⟨⟨s,f⟩,SM⟩:∃x,x=l[j]:=⟨_,rfl⟩;rw[<-SM]at cV rO hs hf EZ;simp only at cV rO hs hf EZ;rw[cV]at jm;have qqu:=();exact qgd):G:=h
theorem qjQ(h:G:=by
 rintro X Y hn ⟨h1,k',er,h2,h3,h4,h5,h6⟩;exact⟨h1,k',er,h2,h3,hn.cells h4,hn.cells h5,qh h6 hn⟩):G:=h
theorem qii(h:G:=by
 rw[bp]at oQ u0 u1 u2 u3 P0 P1 P2 P3 P4 P5 P6 P7 P8;have gh:=ae bp;clear hu c0 c1 c2 c3 Ck hF g9 eJ aE gM CC hts iX hU DP F5 aD bU bp
 first
 |clear qvd
  cases U with
  |none=>
   exact qg7
  |some u'=>
   go_wp2_with (first|(go_at_call 91;refine oQ.o.mono ?_;rintro e w4 ⟨⟨⟨po,pn,pa,pl,pc,pb,pm,pe⟩,rfl,hp⟩,aY⟩;simp only[Option.isSome]at hp⊢;rw[<-gh.o]at aY hp;have bE:Below w4.heap.size w4 (w4.alloc (.cells #[.int .u8 po,.string pn,.slice pa pl pc,.slice pb pm pe] 36)):=dp;have wK:=fk.o.later (aY.tr bE) (fun r=>r.below (aY.tr bE));have r2:(w4.alloc (.cells #[.int .u8 po,.string pn,.slice pa pl pc,.slice pb pm pe] 36)).cell? ⟨w.heap.size+1+1+1,3,none⟩=some (.slice ra k rc):=(wK.cell 3).trans rfl;have HF5:=ae wK;have NH:=aM ((hp u' rfl).later bE) (aY.tr bE);have HO:=ae (bh DQ.o.2.1 (fun b _ hlt=>(aY.tr bE).block b hlt));have p_:((w4.alloc (.cells #[.int .u8 po,.string pn,.slice pa pl pc,.slice pb pm pe] 36)).alloc (.cells #[.int .u8 po,.string pn,.slice pa pl pc,.slice pb pm pe] 36)).heap.size=w4.heap.size+2:=(by simp);have Nz:=wK.size;simp only[World.size_alloc]at Nz;clear hp aY bE wK)|(at_builtin;refine wpList_append_lies _ rfl _ _ 34 rfl X4.heap.size 36 GP (.agg #[.int .u8 0,.string ByteArray.empty,.slice none 0 0,.slice none 0 0]) 4 72 underlying34 hj lU Ba QR rfl (by decide) (.slice ra k rc) k _ rfl (HO.o.alloc _) ⟨w4.heap.size+1,0,none⟩ 1 1 [.int .u8 po,.string pn,.slice pa pl pc,.slice pb pm pe] rfl rfl (da (cs:=#[.int .u8 po,.string pn,.slice pa pl pc,.slice pb pm pe]) (t:=36) (fr:=(0,0)) (aq (by simp))) (by simp[Value.oneCell']) (by decide) (by unfold maxLen;omega) (by omega) (by simp;omega) (w4.heap.size+2) p_ ?_;intro g eP w6 aV au hg eM;have h4:=fk.o.at4 (kk:=3) DQ.o.2.1 NH.o.2 au;have d3:=h4.2.2;have z3:=h4.2.1;have HG:=cH aV au hg eM;clear aV au hg eM h4));exact qid
 |cases U with
  |none=>
   exact qg7
  |some u'=>
   go_wp2_with (first|(go_at_call 91;refine oQ.o.mono ?_;rintro e w4 ⟨⟨⟨po,pn,pa,pl,pc,pb,pm,pe⟩,rfl,hp⟩,aY⟩;simp only[Option.isSome]at hp⊢;rw[<-gh.o]at aY hp;have bE:Below w4.heap.size w4 (w4.alloc (.cells #[.int .u8 po,.string pn,.slice pa pl pc,.slice pb pm pe] 36)):=dp;have wK:=fk.o.later (aY.tr bE) (fun r=>r.below (aY.tr bE));have r2:(w4.alloc (.cells #[.int .u8 po,.string pn,.slice pa pl pc,.slice pb pm pe] 36)).cell? ⟨w.heap.size+1+1+1,3,none⟩=some (.slice ra k rc):=(wK.cell 3).trans rfl;have HF5:=ae wK;have NH:=aM ((hp u' rfl).later bE) (aY.tr bE);have HO:=ae (bh DQ.o.2.1 (fun b _ hlt=>(aY.tr bE).block b hlt));have p_:((w4.alloc (.cells #[.int .u8 po,.string pn,.slice pa pl pc,.slice pb pm pe] 36)).alloc (.cells #[.int .u8 po,.string pn,.slice pa pl pc,.slice pb pm pe] 36)).heap.size=w4.heap.size+2:=(by simp);have Nz:=wK.size;simp only[World.size_alloc]at Nz;clear hp aY bE wK)|(at_builtin;refine wpList_append_lies _ rfl _ _ 34 rfl X5.heap.size 36 GP (.agg #[.int .u8 0,.string ByteArray.empty,.slice none 0 0,.slice none 0 0]) 4 72 underlying34 hj lU Ba QR rfl (by decide) (.slice ra k rc) k _ rfl (HO.o.alloc _) ⟨w4.heap.size+1,0,none⟩ 1 1 [.int .u8 po,.string pn,.slice pa pl pc,.slice pb pm pe] rfl rfl (da (cs:=#[.int .u8 po,.string pn,.slice pa pl pc,.slice pb pm pe]) (t:=36) (fr:=(0,0)) (aq (by simp))) (by simp[Value.oneCell']) (by decide) (by unfold maxLen;omega) (by omega) (by simp;omega) (w4.heap.size+2) p_ ?_;intro g eP w6 aV au hg eM;have h4:=fk.o.at4 (kk:=3) DQ.o.2.1 NH.o.2 au;have d3:=h4.2.2;have z3:=h4.2.1;have HG:=cH aV au hg eM;clear aV au hg eM h4));exact qid):G:=h
theorem qhI(h:G:=by
 have aS:Below W2.heap.size W2 (W2.alloc (.cells #[.int .u8 0,.string ⟨#[]⟩,.slice none 0 0,.slice none 0 0] 36)):=dp
 first
 |clear qt9;have⟨g4,g5⟩:=C8 aS k0 e1;rcases H2.o.2.2.fs.look underlying9 underlying145 oD (x:=n) (by omega)with⟨hg,hlk⟩|⟨f,vf,hg,hvf,hlk⟩
  first
  |clear qAH
   ·have l1:=(hlk W2.drew rfl).1;have ZU:=();exact qdy
   ·obtain⟨⟨Ja,Jb,Jc,Jd,Je,Jf,Jg,Jh⟩,rfl,rS,Lw⟩:=hvf;simp only[FQ.val]at hlk;have l1:=(hlk W2.drew rfl).1;have qwi:=();exact qdy
  |·have l1:=(hlk W2.drew rfl).1;have l2:=(hlk (W2.alloc (.cells #[.int .u8 0,.string ⟨#[]⟩,.slice none 0 0,.slice none 0 0] 36)).drew (bZ _ _ _ (by have:=H2.o.2.2.fs.lt;omega))).1;have Rm:=ae (show R=true by rw[hE,hg]);have bV:=ae (H2.o.1.tr aS.drew);clear hlk hg aS hE;go_enter func124,ntmps124;go_upto_region 4 with fail;rw[<-gh.o];go_region
    all_goals
     go_wp2;go_ret;exact⟨by rw[Rm.o];rfl,bV.o⟩
   ·obtain⟨⟨Ja,Jb,Jc,Jd,Je,Jf,Jg,Jh⟩,rfl,rS,Lw⟩:=hvf;simp only[FQ.val]at hlk;have l1:=(hlk W2.drew rfl).1;exact qdy
 |have⟨k4,k5⟩:=C8 aS k0 e1;have l1:=zJ W2.drew rfl;have l2:=zJ (W2.alloc (.cells #[.int .u8 0,.string ⟨#[]⟩,.slice none 0 0,.slice none 0 0] 36)).drew (bZ _ _ _ (by omega));have⟨W3,ec⟩:=az (W2.alloc (.cells #[.int .u8 g0,.string g1,.slice g2 g3 g4,.slice g5 g6 g7] 36)).drew;have sX:Below W2.heap.size W2 W3:=by rw[ec];exact dp.drew
  have x3:=bY sX H2.o.2.1;have y3:W3.heap[W2.heap.size]?=some (.cells #[.int .u8 g0,.string g1,.slice g2 g3 g4,.slice g5 g6 g7] 36 (0,0)):=by rw[ec];exact aq rfl
  obtain⟨i0,i1,i2,i3,_,_,_,_⟩:=dw x3;have⟨n0,wE⟩:=az (fD dM f);have G':n0<=400:=by have:=rT dM f;have:=yU.o.2.2;omega
  have uW:=ae (Kf W3 sX);have Rr:=ae (fun(V:World)(h:Below W3.heap.size W3 V)=>lk dM f yU.o.2.1 _ V ⟨g0,g1,g2,g3,g4,g5,g6,g7⟩ ((yU.o.1.later sX).later h));have FJ:=ae (fun(V:World)(h:Below W3.heap.size W3 V)=>mV f yU.o.2.1 _ V ⟨g0,g1,g2,g3,g4,g5,g6,g7⟩ ((yU.o.1.later sX).later h));have⟨nf,yB⟩:=az (ag f);have hn5:nf<=400:=by have:=yU.o.2.2;omega
  simp only[FQ.val,<-wE,<-yB]at Rr FJ;rw[<-wE,<-yB]at hE;have H3:=bS sX y3 (H2.o.2.2.later sX);have HE3:=ae hE;have HY:=bS Lz G' hn5;clear hE x3 y3 Kf bq Bw gH M0 Jk SI wE yB sX aS zJ te Lz G' hn5 LC IY N9;have qxY:=();exact qdR):G:=h
theorem qkV(h:G:=by
 have sZ:Below W1.heap.size W1 (W1.alloc (.cells #[.int .u8 0,.string ⟨#[]⟩,.slice none 0 0,.slice none 0 0] 36)):=dp
 first
 |clear up;have⟨g4,g5⟩:=C8 sZ g0 P1;rcases xd.fs.look underlying9 underlying145 oD (x:=n) (by have:=nM.2.1;omega)with⟨hg,hlk⟩|⟨f,vf,hg,hvf,hlk⟩
  ·have l1:=(hlk W1.drew rfl).1;have qzJ:=();exact qkr
  ·obtain⟨⟨Ja,Jb,Jc,Jd,Je,Jf,Jg,Jh⟩,rfl,rS,Lw⟩:=hvf;simp only[FQ.val]at hlk;have l1:=(hlk W1.drew rfl).1;exact qkr
 |have⟨d00,d01,d02,d03,d04,d05,d06,d07⟩:=M_ sZ c0 c1 c2 c3 c4 c5 c6 c7;clear sZ;have hb1:Below W1.heap.size W1 ((W1.alloc (.cells #[.int .u8 0,.string ⟨#[]⟩,.slice none 0 0,.slice none 0 0] 36)).alloc (.cells #[.int .u8 0,.string ⟨#[]⟩,.slice none 0 0,.slice none 0 0] 36)):=dp.alloc (by simp) _;have⟨d10,d11,d12,d13,d14,d15,d16,d17⟩:=M_ hb1 c0 c1 c2 c3 c4 c5 c6 c7;clear hb1;have bU:Below W1.heap.size W1 ((W1.alloc (.cells #[.int .u8 so,.string ⟨n.toArray⟩,.slice sa n1 sc,.slice sb m1 se] 36)).alloc (.cells #[.int .u8 0,.string ⟨#[]⟩,.slice none 0 0,.slice none 0 0] 36)):=dp.alloc (by simp) _;have⟨d20,d21,d22,d23,d24,d25,d26,d27⟩:=M_ bU c0 c1 c2 c3 c4 c5 c6 c7;clear bU;have aS:Below W1.heap.size W1 ((W1.alloc (.cells #[.int .u8 0,.string ⟨#[]⟩,.slice none 0 0,.slice none 0 0] 36)).alloc (.cells #[.int .u8 so,.string ⟨n.toArray⟩,.slice sa n1 sc,.slice sb m1 se] 36)):=dp.alloc (by simp) _;have⟨d30,d31,d32,d33,d34,d35,d36,d37⟩:=M_ aS c0 c1 c2 c3 c4 c5 c6 c7;clear aS;go_region
  ·go_wp2_with fail;go_meet;exact⟨_,_,rfl,rfl,Cmp.one W W1 _ _⟩
  ·go_wp2_with fail;go_meet;exact⟨_,_,rfl,rfl,Cmp.two W W1 _ _⟩):G:=h
theorem qjS(h:G:=by
 rintro D c pre X _ hD dU ⟨rfl,k',er,h2,h3,h4,h5,h6⟩ hd;obtain⟨rs,hrs⟩:=dU;have hrp:=ui pre rs kj k' er h2 h3;rw[hrs]at hrp
 first
 |clear an;have hps:dt bc 0 k l=(k',j,er):=by rw[_o.o,hrp,aw h2]
  have HE:=ae (show R=(⟨[],[]⟩,j,er) by rw[Cj.o,<-qZ.o.1 (by simp),hps];exact aG h2);exact qgf
 |have hps:dt dE 0 k l=(k',j,er):=by rw[_o.o,hrp,aw h2]
  have HE:=ae (show R=(⟨[],[]⟩,j,er) by rw[Cj.o,qZ.o.2.1 (by simp)];simp only[ne_eq,not_true_eq_false,↓reduceIte];rw[hps];exact aG h2);exact qgf):G:=h
theorem qdc(h:G:=by
 clear dS ht;go_wp2;go_ret;exact⟨aJ HE.o.symm,cR.o⟩):G:=h
theorem qdX(h:G:=by
 exact⟨aJ HE.o.symm,cR.o.trans (dp.mono cR.o.size)⟩):G:=h
theorem qcf(h:G:=by
 go_enter func185,ntmps185
 first
 |clear up;exact qdG
 |clear Ss;exact qat
 |go_wp2_with (first|(go_at_call 191;refine(CP.o _).mono ?_;rintro e w' ⟨rfl,rfl⟩)|(go_at_call 120;refine(pX r _ hr).mono ?_;rintro e w' ⟨rfl,hb⟩));go_ret;exact⟨rfl,hb⟩):G:=h
theorem qcg(h:G:=by
 go_enter func186,ntmps186
 first
 |clear up;exact qdG
 |clear Ss;exact qat
 |go_wp2_with (first|(go_at_call 191;refine(CP.o _).mono ?_;rintro e w' ⟨rfl,rfl⟩)|(go_at_call 121;refine(n9 r _ hr).mono ?_;rintro e w' ⟨rfl,hb⟩));go_ret;exact⟨rfl,hb⟩):G:=h
theorem qfv(h:G:=by
 go_wp2_with (go_at_call 22;refine vQ.o.mono ?_;rintro e w' ⟨rfl,hb⟩;have jb:=ae hb;clear hb);go_ret
 first
 |clear an;exact⟨by rw[HE.o];rfl,HB.o.tr jb.o⟩
 |exact⟨by rw[HE.o];rfl,(kf.o.1.tr HB.o).tr jb.o⟩):G:=h
theorem qkW(h:G:=by
 obtain⟨b,off,u,rfl,_,hu,c0,c1,c2⟩:=HL.o.get bA;obtain⟨b',kQ,u',rfl,_,iA,kK,lW,lX⟩:=HM.o.get lj;have hf:=HF.o.mem (aH bA)
 first
 |clear qAJ;have AW:=fk.o.mem (aH lj);have sD:=gZ.o l[k] (aH bA);rw[Rg bA lj]at ht;have⟨e,he⟩:=az (yJ l[k] m[k]);have qwt:=();exact qbS
 |have sD:=gZ.o l[k] (aH bA);exact qd1):G:=h
theorem qca(h:G:=by
 obtain⟨qs,hk,ho,ht⟩:=h;rcases gR ho with⟨rfl,h0⟩|⟨g,cap,rfl,hg,_⟩
 first
 |clear an
  ·obtain rfl:=ku h0;exact cE
  ·refine⟨_,cap,fun j=>if h:j<qs.length then qs[j].val else .bool false,rfl,.inr ⟨g,0,rfl,hg,fun j hj=>?_⟩,fun j hj=>?_⟩
   ·have sA:j<qs.length:=by omega
    simp only[dif_pos sA,Nat.zero_add];exact Kv ho j sA
   ·have sA:j<qs.length:=by omega
    exact qkX
 |clear it
  ·obtain rfl:=ku h0;exact iE
  ·refine⟨_,cap,fun j=>if h:j<qs.length then qs[j].val else .bool false,rfl,.inr ⟨g,0,rfl,hg,fun j hj=>?_⟩,fun j hj=>?_⟩
   ·have sA:j<qs.length:=by omega
    exact qkY
   ·have sA:j<qs.length:=by omega
    exact qkX
 |·obtain rfl:=ku h0;exact iE
  ·refine⟨_,cap,fun j=>if h:j<qs.length then qs[j].val else .bool false,rfl,.inr ⟨g,0,rfl,trivial,fun j hj=>?_⟩,fun j hj=>?_⟩
   ·have sA:j<qs.length:=by omega
    exact qkY
   ·have sA:j<qs.length:=by omega
    simp only[dif_pos sA];exact(ht j sA hj).move (fun b _ _=>⟨trivial,rfl⟩)):G:=h
theorem qja(h:G:=by
 rw[<-hR];have HE:=ae hE;exact qi9):G:=h
theorem qc9(h:G:=by
 go_wp2;rw[<-gh.o];go_ret;exact⟨aJ HE.o.symm,cQ.o⟩):G:=h
theorem qb8(h:G:=by
 have Ta:∀b,M b->b<W.heap.size:=fun b hb=>bP (hM b hb) hk.size
 first
 |clear an;have CC:=QU f aI M B l J (mK f) [] W q Ta hJ (fun pre vs x W1 h1 h2 h3 h4=>by
   obtain⟨fn,tmps,assign,body,hy,hR⟩:=hY pre vs x W1 h1 h2 h3 h4;refine⟨fn,tmps,assign,body,hy,hR.mono ?_⟩;rintro e W' (h|⟨h,_⟩)
   ·exact h
   ·exact h.elim) (hq.kp hk) (by simp) hj
  have HC:=ae CC;clear CC hY hJ hj hX Cc hq Ta;unfold FQ.val at HC;go_enter func150,ntmps150;go_wp2_with (go_at_call 151;refine HC.o.mono ?_;rintro e W2 ⟨rfl,zG,ke⟩);exact⟨rfl,.tuple #[],by simp[results,results150,go_sem],⟨_,rfl⟩,.inl ⟨by simpa using zG,ke⟩⟩
 |clear it;have hB:Below W.heap.size W (W.alloc (.map #[] 0)):=dp;have CC:=F8 f aI M B l J (aP [] f) [] W (W.alloc (.map #[] 0)) q W.heap.size 0 [] Ta (aK _) hJ (fun pre vs x W1 h1 h2 h3 h4=>by
   obtain⟨fn,tmps,assign,body,hy,hR⟩:=hY pre vs x W1 h1 h2 h3 h4;refine⟨fn,tmps,assign,body,hy,hR.mono ?_⟩;rintro e W' (h|⟨h,_⟩)
   ·exact h
   ·exact h.elim) (hq.kp hk) (Kp.below hB) (gz.made W) (by omega) (by simp;omega) (by simp) (hJ _ _ _ (Nw.below hB) hj)
  have HC:=ae CC;clear CC hY hJ hj hX Cc hq Ta hB;unfold FQ.val at HC;go_enter func148,ntmps148;go_wp2_with (go_at_call 149;refine HC.o.mono ?_;rintro e W2 ⟨rfl,zG,ke,_,_⟩);exact⟨rfl,.tuple #[],by simp[results,results148,go_sem],⟨_,rfl⟩,.inl ⟨by simpa using zG,ke⟩⟩
 |clear up;have CC:=NZ s f aI [] (by simpa using Kc) M B l J Jx (bC [] s f) [] W ⟨q,r,none,0,0⟩ Ta ⟨hl,hlM⟩ hJ hJx (fun pre vs x W1 h1 h2 h3 h4=>by
   obtain⟨fn,tmps,assign,body,hy,hR⟩:=hY pre vs x W1 h1 h2 h3 h4;refine⟨fn,tmps,assign,body,hy,hR.mono ?_⟩;rintro e W' (h|⟨_,h⟩)
   ·exact .inl h
   ·exact .inr h) (hq.kp hk) (hr.kp hk) ⟨⟨none,0,rfl,aK _,.inl ⟨rfl,rfl,rfl⟩⟩,fun b h=>by simp[Value.ownBlock]at h⟩ (by simp) hj
  have HSp:=ae (show ∀ (e:Ending) (W2:World),((e=.returned (.bool true)/\J ([] ++ bC [].reverse s f) W2/\Kp M W W2)\/(e=.returned (.bool false)/\∃I5,I5 <+: bC [] s f/\Jx I5 W2/\jB M (l+1) W W2))->∃bb:Bool,e=.returned (.bool bb)/\((J (bC [] s f) W2/\Kp M W W2)\/(True/\∃pre,pre <+: bC [] s f/\Jx pre W2/\jB M (l+1) W W2)) by
   rintro e W2 (⟨rfl,h,h'⟩|⟨rfl,h⟩)
   ·exact⟨true,rfl,.inl ⟨by simpa using h,h'⟩⟩
   ·exact⟨false,rfl,.inr ⟨trivial,h⟩⟩)
  have XX:=ae CC;clear CC hY hJ hJx hj hX Cc hY0 hYW hq hr Ta;simp only[gd.val,gd.cells]at XX;go_enter func102,ntmps102;go_wp2_with (go_at_call 103;refine XX.o.mono ?_;rintro e W2 h2;obtain⟨bb,rfl,h3⟩:=HSp.o e W2 h2;have H2:=ae h3;clear h2 h3);exact⟨rfl,.tuple #[],by simp[results,results102,go_sem],⟨_,rfl⟩,H2.o⟩
 |have CC:=FU t aI M B l J (aL t) [] W q Ta hJ (fun pre vs x W1 h1 h2 h3 h4=>by
   obtain⟨fn,tmps,assign,body,hy,hR⟩:=hY pre vs x W1 h1 h2 h3 h4;refine⟨fn,tmps,assign,body,hy,hR.mono ?_⟩;rintro e W' (h|⟨h,_⟩)
   ·exact h
   ·exact h.elim) (hq.kp hk) (by simp) hj
  have HC:=ae CC;clear CC hY hJ hj hX Cc hq Ta;unfold TQ.val at HC;go_enter func270,ntmps270;go_wp2_with (go_at_call 214;refine HC.o.mono ?_;rintro e W2 ⟨rfl,zG,ke⟩);exact⟨rfl,.tuple #[],by simp[results,results270,go_sem],⟨_,rfl⟩,.inl ⟨by simpa using zG,ke⟩⟩):G:=h
theorem qaD(h:G:=by
 have dW:S W2.drew:=by rw[hS];exact(ar _ _).drew
 first
 |clear quu;have⟨c9,cQ,fk⟩:=cU hS ew g9;clear hS ew g9 xb
  first
  |clear qsD;refine lM S 7 dW fun jO b_=>?_
   refine bH 0 125 (.pointer (some ⟨w.heap.size+1+1,3,none⟩)) rfl b_ fun Vq=>?_;simp only[am];refine di 1 126 (.slice ra k rc) rfl (fun V hX=>by have g0:=f0 V hX;go_simp) Vq fun Vr=>?_;simp only[am];refine bH 2 127 (.pointer (some ⟨kb,0,none⟩)) rfl Vr fun OD=>?_;simp only[am];refine di 3 128 (.agg #[.int .u8 u.o,.string u.n,.slice u.a u.l u.c,.slice u.b u.m u.e]) rfl (fun V hX=>by obtain⟨g0,g1,g2,g3⟩:=f1 V hX;go_simp) OD fun Vs=>?_;simp only[am];refine bH 4 129 (vL) rfl Vs fun hT4=>?_;have qAN:=();exact qaT
  |clear qsF;refine lM S 7 dW fun jO b_=>?_
   refine bH 0 74 (.pointer (some ⟨w.heap.size+1+1+1,3,none⟩)) rfl b_ fun cK=>?_;simp only[am];refine di 1 75 (.slice ra k rc) rfl (fun V hX=>by have g0:=f0 V hX;go_simp) cK fun f_=>?_;simp only[am];refine di 2 76 (.agg #[.int .u8 u.o,.string u.n,.slice u.a u.l u.c,.slice u.b u.m u.e]) rfl (fun V hX=>by obtain⟨g0,g1,g2,g3⟩:=f1 V hX;go_simp) f_ fun gX=>?_;simp only[am];refine bH 3 77 (.map (some mf)) rfl gX fun iQ=>?_;simp only[am];refine di 4 78 (.slice va v0 vc) rfl (fun V hX=>by have g0:=f2 V hX;go_simp) iQ fun jM=>?_;have qAO:=();exact qaT
  |clear qsH;refine lM S 5 dW fun jO b_=>?_
   refine bH 0 35 (.pointer (some ⟨w.heap.size+1+1,3,none⟩)) rfl b_ fun cK=>?_;simp only[am];refine di 1 36 (.slice ra k rc) rfl (fun V hX=>by have g0:=f0 V hX;go_simp) cK fun f_=>?_;simp only[am];refine di 2 37 (.agg #[.int .u8 u.o,.string u.n,.slice u.a u.l u.c,.slice u.b u.m u.e]) rfl (fun V hX=>by obtain⟨g0,g1,g2,g3⟩:=f1 V hX;go_simp) f_ fun gX=>?_;have qAP:=();exact qaS
  |clear qwB;refine lM S 7 dW fun jO b_=>?_
   refine bH 0 94 (.pointer (some ⟨w.heap.size+1+1+1,3,none⟩)) rfl b_ fun cK=>?_;simp only[am];refine di 1 95 (.slice ra k rc) rfl (fun V hX=>by have g0:=f0 V hX;go_simp) cK fun f_=>?_;simp only[am];refine di 2 96 (.agg #[.int .u8 u.o,.string u.n,.slice u.a u.l u.c,.slice u.b u.m u.e]) rfl (fun V hX=>by obtain⟨g0,g1,g2,g3⟩:=f1 V hX;go_simp) f_ fun gX=>?_;simp only[am];refine bH 3 97 (.string ⟨nx.toArray⟩) rfl gX fun iQ=>?_;simp only[am];refine di 4 98 (.agg #[.bool zv,.string zn,.slice za zl zc]) rfl (fun V hX=>by obtain⟨h0,h1,h2⟩:=fu V hX;go_simp) iQ fun jM=>?_;have qAQ:=();exact qaT
  |clear qtC;refine lM S 5 dW fun jO b_=>?_
   refine bH 0 20 (.pointer (some ⟨w.heap.size+1+1,2,none⟩)) rfl b_ fun cK=>?_;simp only[am];refine di 1 21 (.slice fN k1 fO) rfl (fun V hX=>by have g0:=f0 V hX;go_simp) cK fun f_=>?_;simp only[am];refine di 2 22 (.agg #[.bool u.v,.string u.n,.slice u.a u.l u.c]) rfl (fun V hX=>by obtain⟨g0,g1,g2⟩:=f1 V hX;go_simp) f_ fun gX=>?_;have qAR:=();exact qaS
  |clear qwC;refine lM S 9 dW fun jO b_=>?_
   exact qht
  |clear qtF;refine lM S 7 dW fun jO b_=>?_
   refine bH 0 70 (.pointer (some ⟨w.heap.size+1+1,2,none⟩)) rfl b_ fun Vq=>?_;simp only[am];refine di 1 71 (.slice ra k1 rc) rfl (fun V hX=>by have g0:=f0 V hX;go_simp) Vq fun Vr=>?_;simp only[am];refine bH 2 72 (.pointer (some ⟨kb,0,none⟩)) rfl Vr fun OD=>?_;simp only[am];refine di 3 73 (.agg #[.bool u.v,.string u.n,.slice u.a u.l u.c]) rfl (fun V hX=>by obtain⟨g0,g1,g2⟩:=f1 V hX;go_simp) OD fun Vs=>?_;simp only[am];refine bH 4 74 (vL) rfl Vs fun hT4=>?_;have qAS:=();exact qaT
  |first
   |clear qu4;refine lM S 6 dW fun jO b_=>?_
    refine bH 0 34 (.pointer (some ⟨w3.heap.size+1,2,none⟩)) rfl b_ fun cK=>?_;exact qhE
   |clear qu6;refine lM S 7 dW fun jO b_=>?_
    refine bH 0 51 (.pointer (some ⟨w3.heap.size,2,none⟩)) rfl b_ fun cK=>?_;exact qhx
   |first
    |clear qow;refine lM S 5 dW fun jO b_=>?_
     refine bH 0 18 (.pointer (some ⟨w.heap.size+1+1,2,none⟩)) rfl b_ fun cK=>?_;simp only[am];refine di 1 19 (.slice ra k rc) rfl (fun V hX=>by have g0:=f0 V hX;go_simp) cK fun f_=>?_;simp only[am];refine di 2 20 (.agg #[.bool u.v,.string u.n,.slice u.a u.l u.c]) rfl (fun V hX=>by obtain⟨g0,g1,g2⟩:=f1 V hX;go_simp) f_ fun gX=>?_;have qAT:=();exact qj0
    |clear qoy;refine lM S 5 dW fun jO b_=>?_
     refine bH 0 29 (.pointer (some ⟨w.heap.size+1+1,2,none⟩)) rfl b_ fun cK=>?_;simp only[am];refine di 1 30 (.slice ra k rc) rfl (fun V hX=>by have g0:=f0 V hX;go_simp) cK fun f_=>?_;simp only[am];refine di 2 31 (.agg #[.bool u.v,.string u.n,.slice u.a u.l u.c]) rfl (fun V hX=>by obtain⟨g0,g1,g2⟩:=f1 V hX;go_simp) f_ fun gX=>?_;exact qj0
    |clear qzL;refine lM S 6 dW fun jO b_=>?_
     refine bH 0 34 (.pointer (some ⟨w.heap.size+1+1,2,none⟩)) rfl b_ fun cK=>?_;exact qhE
    |refine lM S 7 dW fun jO b_=>?_
     refine bH 0 51 (.pointer (some ⟨w.heap.size+1+1,2,none⟩)) rfl b_ fun cK=>?_;exact qhx
 |clear quL;have⟨HB,gh⟩:=bi bU bp;have jq:=fP;have hq1:(1:Int)<(ql:Int):=by omega
  have hqn:¬ql=0:=by omega
  have QV:(0:Int)<(ql:Int):=by omega
  clear hq j7 oY hu hz c0 c1 c2 d0 d1 d2 hx hlen vC hI bU x2 hS bp hok hql;unfold FQ.val;go_enter func96,ntmps96;go_wp2;rw[<-gh.o];refine(wpIn_wide (n:=3)).1 ?_;refine lM S 13 dW fun jO b_=>?_;refine bH 0 4 (.pointer (some ⟨w.heap.size,2,none⟩)) rfl b_ fun cK=>?_;simp only[am];refine di 1 5 (.slice (some ⟨b1,o1,none⟩) ql qc) rfl (fun V hX=>by obtain⟨h0,h1,h2⟩:=pp V hX;go_simp) cK fun f_=>?_;simp only[am];refine bH 2 6 (.pointer (some ⟨b1,o1+0*3,none⟩)) rfl f_ fun gX=>?_;simp only[am];refine bH 3 7 (.pointer (some ⟨b1,o1+0*3+1,none⟩)) rfl gX fun iQ=>?_;simp only[am];refine di 4 8 (.string ⟨x.toArray⟩) rfl (fun V hX=>by obtain⟨h0,h1,h2⟩:=pp V hX;go_simp) iQ fun jM=>?_;simp only[am];refine bH 6 10 (.pointer (some ⟨w.heap.size,2,none⟩)) rfl jM fun km=>?_;simp only[am];refine di 7 11 (.slice (some ⟨b1,o1,none⟩) ql qc) rfl (fun V hX=>by obtain⟨h0,h1,h2⟩:=pp V hX;go_simp) km fun mU=>?_;simp only[am];refine bH 8 12 (.pointer (some ⟨b1,o1+1*3,none⟩)) rfl mU fun q_=>?_;simp only[am];refine bH 9 13 (.pointer (some ⟨b1,o1+1*3+1,none⟩)) rfl q_ fun D2=>?_;simp only[am];refine di 10 14 (.string ⟨y.toArray⟩) rfl (fun V hX=>by obtain⟨h0,h1,h2⟩:=pp V hX;go_simp) D2 fun vi=>?_;have qAU:=();exact qaT
 |clear quN;have f0:∀V,S V->V.cell? ⟨nB,0,none⟩=some (.int .i64 S0):=fun V h=>by rw[hS]at h;exact aa h (ao HGs.o.2.1 0)
  have f1:∀V,S V->V.cell? ⟨w.heap.size,0,none⟩=some (.pointer (some ⟨kb,0,none⟩)):=fun V h=>by rw[hS]at h;exact aa h ck
  have f2:∀V,S V->V.cell? ⟨W.heap.size,0,none⟩=some (.int .u8 u0)/\V.cell? ⟨W.heap.size,1,none⟩=some (.string u1)/\V.cell? ⟨W.heap.size,2,none⟩=some (.slice u2 u3 u4)/\V.cell? ⟨W.heap.size,3,none⟩=some (.slice u5 u6 u7)/\V.cell? ⟨W.heap.size,4,none⟩=some (.int .u8 v0)/\V.cell? ⟨W.heap.size,5,none⟩=some (.string v1)/\V.cell? ⟨W.heap.size,6,none⟩=some (.slice v2 v3 v4)/\V.cell? ⟨W.heap.size,7,none⟩=some (.slice v5 v6 v7)/\V.cell? ⟨W.heap.size,8,none⟩=some (.slice ca cl cc):=fun V h=>by rw[hS]at h;exact⟨aa h P0,aa h P1,aa h P2,aa h P3,aa h P4,aa h P5,aa h P6,aa h P7,aa h P8⟩
  have aS:=HSz.o;have wA:=HGs.o.1;have⟨S1,cK⟩:=az (S0+bv);have hwr:IntKind.i64.wrap ((S0:Int)+(bv:Int))=(S1:Int):=by rw[jD _ (by omega)];omega
  have Vp:=ae (cK▸zfO.o:((pre++[x]).map JL).sum=S1);have HS:=ae hS;have HWr:=aM hwr aS;clear hS cK ck P0 P1 P2 P3 P4 P5 P6 P7 P8 aS wA hwr;gi_wp2_with fail;refine lM S 5 dW fun jO b_=>?_;refine di 0 27 (.int .i64 S0) rfl (fun V hX=>by have g0:=f0 V hX;go_simp) b_ fun cK=>?_;simp only[am];refine di 1 28 (.pointer (some ⟨kb,0,none⟩)) rfl (fun V hX=>by have g0:=f1 V hX;go_simp) cK fun f_=>?_;simp only[am];refine di 2 29 (.agg #[.int .u8 u0,.string u1,.slice u2 u3 u4,.slice u5 u6 u7,.int .u8 v0,.string v1,.slice v2 v3 v4,.slice v5 v6 v7,.slice ca cl cc]) rfl (fun V hX=>by obtain⟨g0,g1,g2,g3,g4,g5,g6,g7,g8⟩:=f2 V hX;go_simp) f_ fun gX=>?_;exact qaS
 |clear quP;have⟨c9,cQ,kJ⟩:=cU hS ew x1;clear hS ew x0 x1;refine lM S 11 dW fun jO b_=>?_;have qAV:=();exact qkZ
 |clear quR;have c9:=ae hS;clear hS;refine lM S 7 dW fun jO b_=>?_;refine di 0 73 (.agg #[.int .u8 go,.string gn,.slice ga gl gc,.slice gb gm ge]) rfl (fun V hX=>by obtain⟨g0,g1,g2,g3⟩:=ft V hX;go_simp) b_ fun cK=>?_;simp only[am];refine bH 1 74 (.pointer (some ⟨w.heap.size,1,none⟩)) rfl cK fun f_=>?_;simp only[am];refine di 2 75 (.string ⟨n.toArray⟩) rfl (fun V hX=>by have g0:=fn0 V hX;go_simp) f_ fun gX=>?_;simp only[am];refine bH 3 76 (.pointer (some ⟨w.heap.size+1+1+1,1,none⟩)) rfl gX fun iQ=>?_;simp only[am];refine di 4 77 (.string ⟨m.toArray⟩) rfl (fun V hX=>by have g0:=fm V hX;go_simp) iQ fun jM=>?_;exact qaT
 |clear qu0;have⟨c9,cQ,kJ⟩:=cU hS ew x1;clear hS ew x0 x1;refine lM S 8 dW fun jO b_=>?_;exact qkZ
 |have hR:RS=f:=by rw[IV,hf];simp only[dF,if_true]
  have HC:=ae (fun(V:World)(h:Below W2.heap.size W2 V)=>qQ f LC _ V ⟨g0,g1,g2,g3,g4,g5,g6,g7⟩ (rS.later h));have HB:=gN bU iG x1 x2 hR;have⟨gh,c9⟩:=bi bp hS;simp only[FQ.val]at HC⊢;clear hS bU iG x1 x2 hR bp IV hf rS LC IY XK XL zJ ia kH hq j7 oY hL Yc Uv eB jQ dz nM mn hs;exact qk0):G:=h
theorem qfB(h:G:=by
 have e2:(z==n)=false:=by
  rw[Bool.eq_false_iff];intro e2;rw[ef]at e2;exact e (by simp[e2])
 simp only[jP,e1,e2,bR,↓reduceIte]
 first
 |clear an;exact h.s z y hy
 |exact h.n z hy hf):G:=h
theorem qbk(h:G:=by
 obtain⟨_,_,_,hv,_⟩:=h;injection hv):G:=h
theorem qeX(h:G:=by
 obtain⟨⟨a,cap,rfl,hc,h⟩,hM⟩:=h;refine⟨⟨a,cap,rfl,hc,?_⟩,hM⟩;rcases h with h|⟨b,off,rfl,h⟩
 ·exact .inl h
 first
 |clear an
  ·exact .inr ⟨b,off,rfl,fun j hj=>⟨hk.cell (hM b rfl) (h j hj).1,hk.cell (hM b rfl) (h j hj).2⟩⟩
 |·exact .inr ⟨b,off,rfl,fun j hj=>⟨hb.cell hl (h j hj).1,hb.cell hl (h j hj).2⟩⟩):G:=h
theorem qdh(h:G:=by
 rw[Ci.o]at e0 e1 e2 f0 f1 f2;have qt1:=();exact qbA):G:=h
theorem qk0(h:G:=by
 go_enter func72,ntmps72;go_upto_region 1 with fail;rw[<-gh.o]
 first
 |clear qAW;go_upto_region 6 with(go_at_call 96;refine HIN.o.mono ?_;rintro e w4 ⟨rfl,aY⟩;have H4:=ae aY;clear aY);clear c0 c1 c2 c3;have aS:Below w4.heap.size w4 (w4.alloc (.cells #[.int .u8 0,.string ⟨#[]⟩,.slice none 0 0,.slice none 0 0] 36)):=dp;have rQ:=MZ.o.later H4.o;have k0:w4.cell? ⟨kb,0,none⟩=some (.map (some mF)):=ao rQ.box 0;have k1:w4.drew.cell? ⟨kb,0,none⟩=some (.map (some mF)):=k0;have x14:=bY H4.o HB.o.2.2.1;have e1:=ao x14 1;have k3:w4.drew.cell? ⟨w.heap.size,1,none⟩=some (.string ⟨n.toArray⟩):=e1;have⟨k4,k5⟩:=C8 aS k0 e1;have te:=rQ.fs.lt;have l1:=HGl.o w4.drew (H4.o.block _ MZ.o.fs.lt);have l2:=HGl.o (w4.alloc (.cells #[.int .u8 0,.string ⟨#[]⟩,.slice none 0 0,.slice none 0 0] 36)).drew ((bZ _ _ _ te).trans (H4.o.block _ MZ.o.fs.lt));have⟨W3,ec⟩:=az (w4.alloc (.cells #[.int .u8 g0,.string g1,.slice g2 g3 g4,.slice g5 g6 g7] 36)).drew;have zbd:Below w4.heap.size w4 W3:=by rw[ec];exact dp.drew
  have y3:W3.heap[w4.heap.size]?=some (.cells #[.int .u8 g0,.string g1,.slice g2 g3 g4,.slice g5 g6 g7] 36 (0,0)):=by rw[ec];exact aq rfl
  have H3:=bS (H4.o.tr zbd) y3 (MZ.o.later (H4.o.tr zbd));clear aS rQ x14 e1 te zbd y3;go_region
  all_goals
   rw[<-ec];clear ec l1 l2 k0 k1 k3 k4 k5;have Rr:=ae (fun(V:World)(h:Below W3.heap.size W3 V)=>lk dM f yU.o.2.1 _ V ⟨g0,g1,g2,g3,g4,g5,g6,g7⟩ ((yU.o.1.later H3.o.1).later h));have oQ:=ae (fun(V:World)(h:Below W3.heap.size W3 V)=>qQ f yU.o.2.1 _ V ⟨g0,g1,g2,g3,g4,g5,g6,g7⟩ ((yU.o.1.later H3.o.1).later h));simp only[FQ.val,<-HN0.o]at Rr oQ;obtain⟨j0,j1,j2,j3,_,_,_,_⟩:=dw H3.o.2.1;have HC4:=ae (Rr.o W3 (ar _ _))
   by_cases h0:n0=0
   ·have oO:((n0:Int)==0)=true:=by simp;omega
    have qx1:=();exact qjv
   ·have oO:((n0:Int)==0)=false:=by simp;omega
    have jv:¬((n0:Int)=0):=by omega
    have iG:decide ((n0:Int)=0)=false:=by simp;omega
    exact qjv
 |have e0:=ao HB.o.2.2.1 0;go_upto_region 3 with fail;clear e0;have qz8:=();exact qa9):G:=h
theorem qhq(h:G:=by
 go_ret;exact eF.no HE.o (rA.o.1.trans (Kp.below bV.o)) (rA.o.2.1.later bV.o) (by omega) (by omega)):G:=h
theorem qiZ(h:G:=by
 have Cd:IntKind.i64.wrap ((q:Nat):Int)=q:=jD _ (by omega);have SA:IntKind.i64.wrap (1+((q:Nat):Int))=1+(q:Int):=jD _ (by omega)
 first
 |clear qwx;have hw3:IntKind.i64.wrap (left-(m:Int))=left-(m:Int):=jD _ (by omega);have SJ:IntKind.i64.wrap (1+(q:Int)+(R:Int))=1+(q:Int)+(R:Int):=jD _ (by omega);have hw5:IntKind.i64.wrap ((m:Int)+(1+(q:Int)+(R:Int)))=((m+(1+q+R):Nat):Int):=by rw[jD _ (by omega)];omega
  have⟨HC,HB⟩:=bi CC aD;have HS:=aM vw Od;clear hu sD hf hx gH aD hcut CC hq δ vw Od hR hRb DI c0 c1 c2;go_wp2;have qtg:=();exact qac
 |have SJ:IntKind.i64.wrap (1+(q:Int)+(R:Int))=((1+q+R:Nat):Int):=by rw[jD _ (by omega)];omega
  have hNb:1+q+R<=100002000000:=by omega
  have⟨FJ,HC⟩:=bi hcF CT;clear hq bN em aI ih cD eh hR hRb gY hcF V_ CT;exact qi7):G:=h
theorem qiL(h:G:=by
 have b0:=(bD.same W.heap.size sU.o.1 sU.o.2.1).trans KA.o;have b1:=(bD.same (W.heap.size+1) sU.o.2.2.1 sU.o.2.2.2.1).trans kJ.o
 first
 |clear up;have b2:=(bD.same (W.heap.size+2) sU.o.2.2.2.2.1 sU.o.2.2.2.2.2).trans HX2.o
  by_cases hlt:k<m0
  ·have bA:=cG gT.o hlt;have qpb:=();exact qbz
  first
  |clear qAX
   ·obtain rfl:m0=k:=by omega
    have ht:ss.take m0=ss:=by rw[gT.o];exact dA
    rw[ht]at hj FE;have Cb:=ae FE;have HH:=cH hj le hbd bD;clear hj le hbd bD ht b0 b1 b2 FE;go_wp2;simp only[bodyPostD];refine⟨.bool true,by simp[results,results149,go_sem],rfl,HH.o.1,HH.o.2.1,⟨n',by have:=Cb.o;have:=zK.o;omega,by have h:=HH.o.2.2.1;rw[jb.o]at h;exact h⟩,(Kp.below eQ.o).trans HH.o.2.2.2⟩
  |·obtain rfl:m0=k:=by omega
    have ht:ss.take m0=ss:=by rw[gT.o];exact dA
    rw[ht]at hj FE;have Cb:=ae FE;have HH:=cH hj le hbd bD;have f1:wr.cell? ⟨W.heap.size+1,0,none⟩=some (.map (some mb)):=ao b1 0;have f0:wr.cell? ⟨W.heap.size,1,none⟩=some (.string ⟨nm.toArray⟩):=ao b0 1;have CD:=XH mb n' W.heap.size bs nm KH.o (by have:=Cb.o;have:=zK.o;omega) (by have:=zK.o;omega) .returning wr f1 f0 (jb.o▸hbd);have HCD:=ae CD;clear hj le hbd bD ht b0 b1 b2 FE CD f0 f1;go_wp2;refine leaves_cons (f:=215) (args:=#[.pointer (some ⟨W.heap.size+1,0,none⟩),.pointer (some ⟨W.heap.size,0,none⟩)]) (by simp) (by simp[go_sem]) ?_;refine HCD.o.mono ?_;rintro e u' w5 ⟨rfl,rfl,bE,hg5,NS,hn5⟩;have hmS:=HMS.o;refine⟨.bool true,by simp[results,results149,go_sem],rfl,HJ.o _ _ _ (hn5 _ HMb.o) HH.o.1,TM HH.o.2.1 (hn5 _ HMb.o) (aK _),⟨n'+1,by have:=Cb.o;have:=zK.o;omega,bE⟩,((Kp.below eQ.o).trans HH.o.2.2.2).trans ⟨hg5.os,hg5.tape,hg5.output,Nat.le_of_eq NS.symm,fun b hb hm=>hg5.block b hb (fun h=>hm (.inr (by cases h;rfl)))⟩⟩
 |have x0:wr.cell? ⟨W.heap.size,0,none⟩=some (.int .u8 uo):=ao b0 0;have x1:wr.cell? ⟨W.heap.size,1,none⟩=some (.string ⟨nm.toArray⟩):=ao b0 1;have x2:wr.cell? ⟨W.heap.size,2,none⟩=some (.slice ua k0 uc):=ao b0 2;have x3:wr.cell? ⟨W.heap.size,3,none⟩=some (.slice ub m0 ue):=ao b0 3;have x4:wr.cell? ⟨W.heap.size+1,0,none⟩=some (.map (some mb)):=ao b1 0
  cases td:br uo with
  |false=>
   have jb:Hd (bs'=bs):=ae (by rw[jb.o,td];rfl);have qAY:=();exact qk1
  |true=>
   have jb:Hd (bs'=nm::bs):=ae (by rw[jb.o,td];rfl);exact qk1):G:=h
theorem qgk(h:G:=by
 refine oM func69 ?_;simp only[ntmps69,Nat.reduceAdd,Nat.reduceSub,ng]
 first
 |clear qqF;have jq:=fP
  first
  |clear qz5;gi_wp2_with (gi_at_call 123;refine aO.2 ((CP.o _).mono ?_);rintro e w3 ⟨rfl,aS⟩;obtain⟨b1,b2,b3,b0⟩:=S4 HY.o aS;have p1:w3.cell? ⟨w.heap.size,1,none⟩=some (.string ⟨n.toArray⟩):=ao b0 1;have p2:w3.cell? ⟨w.heap.size,2,none⟩=some (.slice qa k0 qc):=ao b0 2;have bV:=ae b1;have Κ:=ae b2;have xW:=ae b3;clear aS b1 b2 b3 b0);have⟨W1,cC⟩:=az w3;have jN:Below w.heap.size w W1:=by rw[cC];exact bV.o
   have x1:W1.heap[w.heap.size+1]?=some (.cells #[.bool false,.string ⟨#[]⟩,.slice none 0 0] 43 (0,0)):=by rw[cC];exact Κ.o
   have x2:W1.heap[w.heap.size+1+1]?=some (.cells #[.bool true,.string ⟨n.toArray⟩,.slice none 0 0] 43 (0,0)):=by rw[cC];exact xW.o
   have qAZ:=();exact qaP
  |gi_wp2_with (gi_at_call 123;refine aO.2 ((CP.o _).mono ?_);rintro e w3 ⟨rfl,aS⟩;obtain⟨b1,b2,b3,b0⟩:=S4 HY.o aS;have p1:w3.cell? ⟨w.heap.size,1,none⟩=some (.string ⟨n.toArray⟩):=ao b0 1;have p2:w3.cell? ⟨w.heap.size,2,none⟩=some (.slice qa k0 qc):=ao b0 2;have bV:=ae b1;have Κ:=ae b2;have xW:=ae b3;have e1:w3.cell? ⟨w.heap.size+1+1,1,none⟩=some (.string ⟨n.toArray⟩):=ao b3 1;have z1:w3.frozen? ⟨w.heap.size+1+1,1,none⟩=false:=ai b3 1;clear aS b1 b2 b3 b0);have⟨W1,cC⟩:=az (w3.setCell ⟨w.heap.size+1+1,1,none⟩ (.string ⟨r.toArray⟩));have jN:Below w.heap.size w W1:=by rw[cC];exact bV.o.setCell (by simp;omega) _
   have x1:W1.heap[w.heap.size+1]?=some (.cells #[.bool false,.string ⟨#[]⟩,.slice none 0 0] 43 (0,0)):=by rw[cC];exact(e_ _ _ _ _ (by simp)).trans Κ.o
   have x2:W1.heap[w.heap.size+1+1]?=some (.cells #[.bool true,.string ⟨r.toArray⟩,.slice none 0 0] 43 (0,0)):=by rw[cC];exact(bJ xW.o _).trans rfl
   have qA0:=();exact qaP
 |have qA1:=();exact qda):G:=h
theorem qdL(h:G:=by
 go_ret;exact⟨by simp,hb.trans (bU.mono hb.size)⟩):G:=h
theorem qfp(h:G:=by
 intro m ok ok' w a n c a' n' c' aI hl hm;obtain rfl:=hl.len;obtain rfl:=hm.len;have hlen:=aI.len
 by_cases qq:l.length=m.length
 first
 |clear qn1
  ·have⟨k0,cD⟩:=az l.length;rw[<-qq,<-cD];rw[<-cD]at hlen;have⟨dN,XN,HL,HM,gZ,HF⟩:=Xg cD qq hl hm ih aI;clear cD qq hl hm ih aI;exact qju
  ·have jd:kx l m=false:=by
    cases he:kx l m with
    |false=>rfl
    |true=>exact absurd (by rw[(jw _ _).1 he]) qq
   have an:=();exact qjt
 |·have⟨k0,cD⟩:=az l.length;rw[<-qq,<-cD];rw[<-cD]at hlen;have⟨dN,XN,HL,HM,gZ,HF⟩:=Xg cD qq hl hm ih aI;clear cD qq hl hm ih aI;go_enter func52,ntmps52;exact qjV
  ·have jd:qC l m=false:=by
    cases he:qC l m with
    |false=>rfl
    |true=>exact absurd (by rw[(qH _ _).1 he]) qq
   exact qjt):G:=h
theorem qgm(h:G:=by
 go_roundw
 case rel=>exact⟨k+1,by omega,by go_num,e9.o,HT.o⟩
 case measure=>simp[intOf];omega):G:=h
theorem qkg(h:G:=by
 have oq:Below w8.heap.size w8 (w8.alloc (.cells #[.int .u8 po,.string pn,.slice pa pl pc,.slice pb pm pe] 36)):=dp
 first
 |clear qzq;have yE:=(yF.o.later jc).later oq;exact qhY
 |have yE:=(I0.o.later jc).later oq;have ZU:=();exact qhY):G:=h
theorem qk2(h:G:=by
 have sP:W2.heap.size=w.heap.size+1+1:=by omega
 have HZ3:=ae sP;rw[sP]at C2;have⟨vI,cQ,gh,WM⟩:=f8 C2 bU bp qY;rw[bp]at vI
 first
 |clear an;clear C2 bU bp qY hx2 hq aI iG sP;obtain⟨qv,qn,qa,ql,qc⟩:=q;unfold TQ.val;go_enter func166,ntmps166;go_wp2_with (go_at_call 220;refine(FV ⟨qv,qn,qa,ql,qc⟩ _).mono ?_;rintro e w2 ⟨rfl,rfl⟩);exact qhC
 |clear C2 bU bp qY hx2 hq aI iG sP Kc;obtain⟨qo,qn,qa,ql,qc,qb,qm,qe⟩:=q;unfold FQ.val;go_enter func40,ntmps40;go_wp2_with (go_at_call 85;refine(vN ⟨qo,qn,qa,ql,qc,qb,qm,qe⟩ _).mono ?_;rintro e w2 ⟨rfl,rfl⟩);exact qhC):G:=h
theorem qg8(h:G:=by
 obtain⟨W6,dr,x6,k6,g0,g1,g2,g3⟩:=tP H3.o.2 (.int .u8 0) (.string ⟨#[]⟩) (.slice none 0 0) (.slice none 0 0);rw[<-dr]
 first
 |clear Ss;have HE:=ae (show RS=none from TH.o.2.1 (Bl.o (by simp)));exact qix
 |have HE:=ae (show RS=none from Cj.o.1 (Bl.o (by simp)));exact qix):G:=h
theorem qbp(h:G:=by
 obtain⟨a',cap,hv,_,h⟩:=h;injection hv with hv _ _;subst hv
 first
 |clear up;rcases h with rfl|⟨b,off,ha,hc⟩
  ·simp at hj
  ·exact⟨b,off,ha,hc⟩
 |clear an;rcases h with rfl|⟨b,off,ha,hok,hc⟩
  ·simp at hj
  ·exact⟨b,off,ha,hok,hc j hj⟩
 |clear it;rcases h with rfl|⟨b,off,ha,hc⟩
  ·exact absurd rfl hl
  ·exact⟨b,off,ha,hc⟩
 |rcases h with⟨rfl,_⟩|⟨b,off,ha,hc⟩
  ·simp at hj
  ·exact⟨b,off,ha,(hc j hj).1,(hc j hj).2⟩):G:=h
theorem qb5(h:G:=by
 refine hK _ _ (fun _=>by rw[c9.o];exact H7.o.2.2.1) (fun _=>?_)
 first
 |clear qxz;clear hK K sG Al wS Hm PS hp hA cd;exact qj8
 |clear up;clear hK K hp hA cd;refine bH 17 32 (.agg #[.bool qv,.string ⟨n.toArray⟩,.slice r1 m0 r2]) rfl (by rw[c9.o];exact H7.o.2.2.1) fun zgn=>?_
  simp only[am];exact qj8
 |clear Ss;clear hK K hp hA cd;refine bH 8 15 (.agg #[.int .u8 qo,.string ⟨n.toArray⟩,.slice r1 k0 r2,.slice none 0 0]) rfl (by rw[c9.o];exact H7.o.2.2.1) fun D2=>?_
  simp only[am];exact qka
 |clear hK K sG Al wS Hm PS hp hA cd;exact qka):G:=h
theorem qk3(h:G:=by
 rw[aw gq]at hE;have j8:(so==16)=false:=by simp[gq]
 have uN:=ae hE;have Ly:=HQ.o.2.1;have HAv:=ae Ly;clear hE LC IY zJ te Ly
 first
 |clear qA5;exact qdR
 |exact qdP):G:=h
theorem qif(h:G:=by
 have c1:W.cell? ⟨X,1,none⟩=some (.string q.n):=ao Cc 1;have c2:W.cell? ⟨X,2,none⟩=some (.slice q.a q.l q.c):=ao Cc 2
 first
 |clear Ss;have c3:W.cell? ⟨X,3,none⟩=some (.slice q.b q.m q.e):=ao Cc 3
  first
  |clear qzW;have an:=();exact qb8
  |clear qzX;have it:=();exact qb8
  |have e0:W.cell? ⟨Y,0,none⟩=some (.int .u8 r.o):=ao hYW 0;have e1:W.cell? ⟨Y,1,none⟩=some (.string r.n):=ao hYW 1;have e2:W.cell? ⟨Y,2,none⟩=some (.slice r.a r.l r.c):=ao hYW 2;have e3:W.cell? ⟨Y,3,none⟩=some (.slice r.b r.m r.e):=ao hYW 3;have up:=();exact qb8
 |exact qb8):G:=h
theorem qig(h:G:=by
 have f0:∀V,S V->V.cell? ⟨w.heap.size+1+1,3,none⟩=some (.slice ra k rc):=fun V h=>by rw[hS]at h;exact aa h (g9.cell 3)
 first
 |clear quU;have qsC:=();exact qbL
 |have qsG:=();exact qbL):G:=h
theorem qg9(h:G:=by
 have zcz:∀p,S=some p->p≠[]/\p.length<=2000000:=fun p hp=>by
  rw[hS]at hp;exact⟨Ac hp,aR (oV xa 0 p hp) hf.args.1⟩
 first
 |clear qA6;rw[<-hS]at ht C1;have⟨HC,HT⟩:=bi C1 ht;have HB:=ae (aD.trans (hW.mono aD.size));have HSo:=ae zcz;have S8:uv=true->(xn==x)=false:=fun h=>by simpa using fun h'=>hc ⟨h,h'⟩
  clear aD hW hu gH hf sD hx ht c0 c1 c2 hS zcz C1 hpt hc;cases uv
  ·clear S8;exact qgl
  ·have iZ:(xn==x)=false:=S8 rfl;clear S8;exact qgl
 |have⟨k0,cD⟩:=az xs.length;rw[<-cD]at eN hX DI;rw[<-cD]at bp;rw[<-cD];have⟨dN,HL,gZ,HF,HX,cQ,gh,HC,HR,HSo⟩:=Pa cD DI ih Ka hX bU bp C1 tN zcz;clear cD DI ih Ka hX bU bp C1 tN zcz hR hS hq gH hf zcy;unfold FQ.val;go_enter func165,ntmps165
  cases S with
  |some p=>
   exact qgn
  |none=>
   clear HSo;go_wp2_with (rw[<-gh.o];go_at_call 229;refine HC.o.mono ?_;rintro e w2 ⟨⟨v2,rfl,ll⟩,bU⟩;obtain⟨a2,c2,rfl⟩:=ll.slice;simp only[Option.getD,List.length_nil]at ll⊢;have x3:w2.cell? ⟨w.heap.size,3,none⟩=some (.slice ub k0 ue):=aa bU (ao HX.o 3);have bV:=ae (cQ.o.trans (bU.mono cQ.o.size));clear bU ll);clear x3;go_loopw [22] (fun i wr=>∃k:Nat,k<=k0/\i=.int .i64 k/\Below w.heap.size w wr/\R=mE x (xs.drop k) k) (fun i _=>k0-(intOf i).toNat)
   case atStart=>exact⟨0,bn _,rfl,bV.o,by simpa using HR.o⟩
   case round=>
    exact qaX):G:=h
theorem qjC(h:G:=by
 rw[vd]at f0 f1 f2 f3 r0 r1 r2 r3 z0 z1 z2 z3;have HW9:=ae vd;clear TW jc zav hwX oq yE hx9 vd pF Z' Z6 DX;gi_wp2;rw[<-HW9.o]
 first
 |clear qyd;have x6:=nJ (v0:=.int .u8 qo) (v1:=.string ⟨n.toArray⟩) (v2:=.slice fN 0 fO) (v3:=.slice (some ⟨w8.heap.size,0,none⟩) 1 1) PD.o.b1;have k6:=ev (W:=W9) (b:=w.heap.size+1+1) (v0:=.int .u8 qo) (v1:=.string ⟨n.toArray⟩) (v2:=.slice fN 0 fO) (v3:=.slice (some ⟨w8.heap.size,0,none⟩) 1 1);have⟨W6,dr⟩:=az ((((W9.setCell ⟨w.heap.size+1+1,0,none⟩ (.int .u8 qo)).setCell ⟨w.heap.size+1+1,1,none⟩ (.string ⟨n.toArray⟩)).setCell ⟨w.heap.size+1+1,2,none⟩ (.slice fN 0 fO)).setCell ⟨w.heap.size+1+1,3,none⟩ (.slice (some ⟨w8.heap.size,0,none⟩) 1 1));exact qjT
 |have x6:=nJ (v0:=.int .u8 qo) (v1:=.string ⟨m.toArray⟩) (v2:=.slice fN 0 fO) (v3:=.slice (some ⟨w8.heap.size,0,none⟩) 1 1) PD.o.b1;have k6:=ev (W:=W9) (b:=w.heap.size+1+1) (v0:=.int .u8 qo) (v1:=.string ⟨m.toArray⟩) (v2:=.slice fN 0 fO) (v3:=.slice (some ⟨w8.heap.size,0,none⟩) 1 1);have⟨W6,dr⟩:=az ((((W9.setCell ⟨w.heap.size+1+1,0,none⟩ (.int .u8 qo)).setCell ⟨w.heap.size+1+1,1,none⟩ (.string ⟨m.toArray⟩)).setCell ⟨w.heap.size+1+1,2,none⟩ (.slice fN 0 fO)).setCell ⟨w.heap.size+1+1,3,none⟩ (.slice (some ⟨w8.heap.size,0,none⟩) 1 1));exact qjU):G:=h
theorem qhS(h:G:=by
 have hli:¬((n1:Int)=(n2:Int)):=by omega
 have hlb:((n1:Int)==(n2:Int))=false:=by simp[hli]
 have Ae:(n==n)=true:=by simp
 first
 |clear quo;exact qdg
 |exact qdh):G:=h
theorem qgy(h:G:=by
 refine oM func154 ?_;simp only[ntmps154,Nat.reduceAdd,Nat.reduceSub,ng]
 first
 |clear qqZ;have jq:=fP;have Tv:Below w.heap.size w ((w.alloc (.cells #[.bool true,.string ⟨n.toArray⟩,.slice qa k0 qc] 43)).alloc (.cells #[.bool false,.string ⟨#[]⟩,.slice none 0 0] 43)):=dp.alloc (by simp) _;have y1:((w.alloc (.cells #[.bool true,.string ⟨n.toArray⟩,.slice qa k0 qc] 43)).alloc (.cells #[.bool false,.string ⟨#[]⟩,.slice none 0 0] 43)).heap[w.heap.size+1]?=some (.cells #[.bool false,.string ⟨#[]⟩,.slice none 0 0] 43 (0,0)):=aq (by simp);have y0:((w.alloc (.cells #[.bool true,.string ⟨n.toArray⟩,.slice qa k0 qc] 43)).alloc (.cells #[.bool false,.string ⟨#[]⟩,.slice none 0 0] 43)).heap[w.heap.size]?=some (.cells #[.bool true,.string ⟨n.toArray⟩,.slice qa k0 qc] 43 (0,0)):=(bZ _ _ _ (by simp)).trans (aq rfl);have uX:((w.alloc (.cells #[.bool true,.string ⟨n.toArray⟩,.slice qa k0 qc] 43)).alloc (.cells #[.bool false,.string ⟨#[]⟩,.slice none 0 0] 43)).heap.size=w.heap.size+2:=by simp
  have CI:=hI n ((w.alloc (.cells #[.bool true,.string ⟨n.toArray⟩,.slice qa k0 qc] 43)).alloc (.cells #[.bool false,.string ⟨#[]⟩,.slice none 0 0] 43)) mn (PC.o.tr Tv);rw[vD]at CI;have HY:=cH Tv y1 y0 uX;have ZT:=ae CI
  first
  |clear qyA;clear Tv y1 y0 uX CI vD;gi_wp2_with (gi_at_fn g;refine aO.2 (ZT.o.mono ?_);rintro e w3 ⟨⟨q3,rfl,Ny⟩,aS⟩;obtain⟨ZW,ZX,ZY,ZZ,Z0⟩:=q3;simp only[TQ.val,Option.isSome]at Ny⊢;have b1:=HY.o.1.tr aS;have y1:=(aS.block _ (by have:=HY.o.2.2.2;omega)).trans HY.o.2.1;have y0:=(aS.block _ (by have:=HY.o.2.2.2;omega)).trans HY.o.2.2.1;have sP:=aS.size;have p_:=HY.o.2.2.2;have Nz:w.heap.size+2<=w3.heap.size:=(by omega);have bV:=cH b1 y1 y0 Ny;clear aS b1 sP p_ Ny;have p0:w3.cell? ⟨w.heap.size,0,none⟩=some (.bool true):=ao y0 0;have p1:w3.cell? ⟨w.heap.size,1,none⟩=some (.string ⟨n.toArray⟩):=ao y0 1;have p2:w3.cell? ⟨w.heap.size,2,none⟩=some (.slice qa k0 qc):=ao y0 2;have aY:Below w3.heap.size w3 (w3.alloc (.cells #[.bool ZW,.string ZX,.slice ZY ZZ Z0] 43)):=dp;have q0:=aa aY p0;have q1:=aa aY p1;have q2:=aa aY p2;have dh:Below (w3.alloc (.cells #[.bool ZW,.string ZX,.slice ZY ZZ Z0] 43)).heap.size (w3.alloc (.cells #[.bool ZW,.string ZX,.slice ZY ZZ Z0] 43)) ((w3.alloc (.cells #[.bool ZW,.string ZX,.slice ZY ZZ Z0] 43)).alloc (.cells #[.bool true,.string ⟨n.toArray⟩,.slice none 0 0] 43)):=dp;have r2:=aa dh q2;clear y1 y0 aY dh);clear p0 p1 p2 q0 q1 q2 r2;have⟨W1,cC⟩:=az ((w3.alloc (.cells #[.bool ZW,.string ZX,.slice ZY ZZ Z0] 43)).alloc (.cells #[.bool true,.string ⟨n.toArray⟩,.slice none 0 0] 43));have jN:Below w.heap.size w W1:=by rw[cC];exact bV.o.1.tr ((dp.alloc (by simp) _))
   have x1:W1.heap[w.heap.size+1]?=some (.cells #[.bool false,.string ⟨#[]⟩,.slice none 0 0] 43 (0,0)):=by rw[cC];exact(bZ _ _ _ (by simp;omega)).trans ((bZ _ _ _ (by omega)).trans bV.o.2.1)
   have x2:=kv cC;exact qaP
  |clear Tv y1 y0 uX CI;clear vD;have HCu:=ae hcu;clear hcu;gi_wp2_with (first|(gi_at_fn g;refine aO.2 (ZT.o.mono ?_);rintro e w3 ⟨⟨q3,rfl,Ny⟩,aS⟩;obtain⟨ZW,ZX,ZY,ZZ,Z0⟩:=q3;simp only[TQ.val,Option.isSome]at Ny⊢;have b1:=HY.o.1.tr aS;have y1:=(aS.block _ (by have:=HY.o.2.2.2;omega)).trans HY.o.2.1;have y0:=(aS.block _ (by have:=HY.o.2.2.2;omega)).trans HY.o.2.2.1;have sP:=aS.size;have p_:=HY.o.2.2.2;have Nz:w.heap.size+2<=w3.heap.size:=(by omega);have bV:=cH b1 y1 y0 Ny;clear aS b1 sP p_ Ny;have aY:Below w3.heap.size w3 (w3.alloc (.cells #[.bool ZW,.string ZX,.slice ZY ZZ Z0] 43)):=dp;have z1:=(aY.block _ (by omega)).trans y1;have HE:=ae (HCu.o _ _ ⟨ZW,ZX,ZY,ZZ,Z0⟩ ((bV.o.2.2.2 u rfl).later aY));simp only[TQ.val]at HE;have HZ:=aM z1 (bV.o.1.tr aY);clear y1 y0 aY z1)|(gi_at_call 218;refine aO.2 (HE.o.mono ?_);rintro e w5 ⟨⟨p5,rfl,sS⟩,bE⟩;obtain⟨pv,pn,pa,pl,pc⟩:=p5;simp only at sS⊢;have x1:=(bE.block _ (by simp;omega)).trans HZ.o.1;have e0:=ao x1 0;have e1:=ao x1 1;have e2:=ao x1 2;have z0:=ai x1 0;have z1:=ai x1 1;have z2:=ai x1 2;have H5:=cH sS (HZ.o.2.tr bE) x1 bE.size;clear bE sS x1));exact qcr
 |have qA7:=();exact qda):G:=h
theorem qeb(h:G:=by
 refine⟨fun h=>(by rw[h]at hr;cases hr),fun j hj=>?_⟩
 by_cases C7:j=i
 ·subst C7;exact C5 tf hi hy hS ⟨fun _=>hS,H⟩
 first
 |clear an
  ·have:=ready_mono hj C7;rw[H.1]at this;cases this
 |·have h1:=H.2 j (ready_mono hj C7);obtain⟨zcf,oj,hoj,gt⟩:=mem_ready.1 hj;have M7:∀e∈oj.after,Region.binds md e=true->e.on≠i:=fun e he hb heq=>by
    have h1:=gt e he hb;have h0:=(mem_ready.1 hr).1;rw[heq]at h1;rcases Nat.lt_or_ge i listed.size with h'|h'
    ·simp[h']at h0 h1;rw[h0]at h1;cases h1
    ·simp[Array.getElem?_eq_none h']at h1
   have h2:=Kk tf hoj (ZF j oj hoj C7 zcf M7) (fun cs b=>zce i oi cs b hi) (fun cs b=>zce j oj cs b hoj) hQ hy h1;have Δ:∀k ok,ops[k]?=some ok->k≠i->(listed.setIfInBounds j true).getD k true=false→
     (∀e∈ok.after,Region.binds md e=true->e.on≠i)->oi.apart ops ok=true:=fun k ok hk Cu Sx iX=>by
    refine ZF k ok hk Cu ?_ iX
    by_cases uD:j=k
    ·subst uD;exact zcf
    ·rw[getD_set_ne true uD]at Sx;exact Sx
   have hje:j<e:=by
    have lG:j<ops.size:=(bQ hoj);have h7:=List.all_eq_true.1 zcd j (List.mem_range.2 lG);simp only[Bool.or_eq_true,bM]at h7;rcases h7 with h7|h7
    ·exact h7
    ·have h5:=QK hcl hj h7;have h6:=(mem_ready.1 hr).1;rcases Nat.lt_or_ge i listed.size with h'|h'
     ·simp[h']at h5 h6;rw[h5]at h6;cases h6
     ·simp[Array.getElem?_eq_none h']at h6
   refine wpOpIn_mono (fun a' w' h3=>⟨h3.2.1,ih (listed.setIfInBounds j true) a' w' (M6 hcl hj) Δ (ready_mono hr (Ne.symm C7)) h3.1 (h3.2.1 hje) ?_⟩) h2;rw[Array.setIfInBounds_comm _ _ C7];exact h3.2.2):G:=h
theorem qfq(h:G:=by
 refine⟨some ⟨b,0,none⟩,c,fun j=>if j=0 then p.val else q.val,rfl,.inr ⟨b,0,rfl,hok,fun j hj=>?_⟩,fun j hj=>?_⟩
 first
 |clear an
  ·rcases j with _|_|j
   ·exact⟨_,_,_,rfl,ao hb 0,ao hb 1,ao hb 2⟩
   ·exact⟨_,_,_,rfl,ao hb 3,ao hb 4,ao hb 5⟩
   ·simp at hj;omega
  ·rcases j with _|_|j
   ·exact hx
   ·exact hy
   ·simp at hj;omega
 |·rcases j with _|_|j
   ·exact⟨_,_,_,_,rfl,ao hb 0,ao hb 1,ao hb 2,ao hb 3⟩
   ·exact⟨_,_,_,_,rfl,ao hb 4,ao hb 5,ao hb 6,ao hb 7⟩
   ·simp at hj;omega
  ·rcases j with _|_|j
   ·exact hx
   ·exact hy
   ·simp at hj;omega):G:=h
theorem qeG(h:G:=by
 rw[IK];exact⟨by simp only[ak];exact⟨⟨hn,ht⟩,hk.1⟩,wu n t k ((jy _ _).1 hg) hk.2⟩):G:=h
theorem qkO(h:G:=by
 go_enter func106,ntmps106;go_wp2
 first
 |clear qA8;go_ret;exact⟨none,0,rfl,cE,ar _ _⟩
 |go_loopw [5,16] (fun r i wr=>∃k:Nat,k<=k0/\i=.int .i64 k/\dH w.heap.size r (l.take k) wr/\Below w.heap.size w wr) (fun _ i _=>k0-(intOf i).toNat)
  case atStart=>exact⟨0,bn _,rfl,TP.o,dp⟩
  case round=>
   have qAE:=();exact qb6):G:=h
theorem qgC(h:G:=by
 go_roundw
 case rel=>exact⟨k+1,by omega,by go_num,_,oa.o⟩
 case measure=>simp[intOf];omega):G:=h
theorem qk4(h:G:=by
 have f0:∀V,S V->V.cell? ⟨w.heap.size,1,none⟩=some (.string ⟨xn.toArray⟩):=fun V h=>by rw[hS]at h;exact aa h hx1
 first
 |clear qA9;have f1:∀V,S V->V.cell? ⟨w.heap.size+1,1,none⟩=some (.string ⟨yn.toArray⟩):=fun V h=>by rw[hS]at h;exact aa h uX
  have qBa:=();exact qk5
 |have f1:∀V,S V->V.cell? ⟨w.heap.size+1,1,none⟩=some (.string ⟨xn.toArray⟩):=fun V h=>by rw[hS]at h;exact aa h uX
  exact qk5):G:=h
theorem qdD(h:G:=by
 have f4:=fun x:aA wr=>x.get (aa aD lW);have f5:=fun x:aA wr=>x.get (aa aD lX)
 first
 |clear Ss;have CC:=ae (fun(x:aA wr)=>sJ l[k] sD m[k] ok ok' x.w u u' hf AW ((hu.later aD).later x.below) ((iA.later aD).later x.below));unfold TQ.val at CC;rw[<-he]at ht CC;have⟨HB,HT⟩:=bi aD ht;clear hu iA sD hf AW aD ht c0 c1 c2 kK lW lX he;go_wp2;have qtb:=();exact qac
 |clear qww;have f6:=fun x:aA wr=>x.get (aa aD kK);have f7:=fun x:aA wr=>x.get (aa aD Bu);have DH:(k:Int)<(k0:Int):=by omega
  have⟨HB,HT⟩:=bi aD ht;have jd:∀(h:l[k]≠m[k]),qC l m=false:=fun h=>by
   cases he:qC l m with
   |false=>rfl
   |true=>exact absurd (by rw[List.getElem_of_eq ((qH _ _).1 he)]) h
  have HNe:=ae jd;have CC:=fun(x:aA wr)=>sD m[k] ok ok' x.w u u' hf ((hu.later aD).later x.below) ((iA.later aD).later x.below);have⟨R,hR⟩:=az (zT l[k] m[k]);rw[<-hR]at CC;have⟨HC,HR⟩:=bi CC hR;clear hu iA sD hf aD ht jd hR CC c0 c1 c2 c3 lW lX kK Bu;go_wp2;have qte:=();exact qac
 |have DH:(k:Int)<(k0:Int):=by omega
  have⟨HB,HT⟩:=bi aD ht;have HX:=aM hx hy;have jd:∀(h:l[k]≠m[k]),kx l m=false:=fun h=>by
   cases he:kx l m with
   |false=>rfl
   |true=>exact absurd (by rw[List.getElem_of_eq ((jw _ _).1 he)]) h
  have HNe:=ae jd;have CC:=ae (fun(x:aA wr)=>sD ya ok ok' x.w ua ul uc va vl vc hf.args ((gH.later aD).later x.below) ((xG.later aD).later x.below));clear hu iA sD hf hx hy gH xG aD ht jd c0 c1 c2 kK lW lX
  by_cases hv:uv=vv
  ·subst hv;have PA:(uv !=uv)=false:=by simp
   by_cases hn:xn=yn
   ·subst hn;have⟨R,hR⟩:=az (kx xa ya);have CC:=ae (show ∀x:aA wr,Calls prog 19 #[.slice ua ul uc,.slice va vl vc] x.w fun e w'=>e=.returned (.bool R)/\Below x.w.heap.size x.w w' from fun x=>by rw[hR];exact CC.o x);have HR:=ae hR;clear hR;go_wp2;have qtc:=();exact qac
   ·have iZ:(xn==yn)=false:=by simpa using hn
    have lw:(!(xn==yn))=true:=by simpa using hn
    go_wp2;have qtd:=();exact qac
  ·cases uv<;>cases vv
   all_goals
    first
    |exact absurd rfl hv
    | (go_wp2
       refine aQ (by kernel_rfl) (by kernel_rfl) ?_
       repeat (go_big_quiet_step (fail))
       refine wpQuiet_nil ?_;rintro _ ⟨x',rfl⟩;clear f0 f1 f2 f3 f4 f5;go_wp2;go_ret;exact⟨aJ (HNe.o (by rw[HX.o.1,HX.o.2];intro h;injection h with h _ _;exact hv h)).symm,HB.o.trans (x'.below.mono HB.o.size)⟩)):G:=h
theorem qcF(h:G:=by
 obtain⟨b,rfl,h1,h2,_⟩:=hv;obtain⟨b',cs,rfl,h3,q,hq,h4⟩:=hf;cases h1
 first
 |clear an;simp only[FQ.val,c_]at hq;exact qdw
 |clear it;simp only[TQ.val,c_]at hq;exact qdw
 |simp only[BQ.val,c_]at hq;exact qdw):G:=h
theorem qb4(h:G:=by
 rw[<-Ch.o]at CC;unfold TQ.val at CC;clear ec gU kl d0 d1 d2 y2
 first
 |clear qwG;have qtq:=();exact qac
 |clear qwH;have qts:=();exact qac
 |clear Ss;have qtt:=();exact qac
 |exact qac):G:=h
theorem qfh(h:G:=by
 rw[hb]at C;have⟨HC,HB⟩:=bi C hB;clear C hB hJ hb hn hq hf;have HW:=ae bp;rw[bp]at HC;clear bp;unfold FQ.val at HC⊢
 first
 |clear an;have⟨bb,dz⟩:=az (bw t);rw[<-dz]at HC⊢;clear dz;cases bb
  all_goals
   go_enter func39,ntmps39;go_wp2_with (go_at_call 64;refine HC.o.mono ?_;rintro e w3 ⟨rfl,mq,_⟩;have pE:=ae mq;clear mq);go_ret;refine⟨rfl,?_⟩;rw[<-HW.o]at pE;exact Below.kp1 HB.o pE.o (by omega)
 |have⟨bb,dz⟩:=az (eS t);rw[<-dz]at HC⊢;clear dz;cases bb
  all_goals
   go_enter func26,ntmps26;go_wp2_with (go_at_call 64;refine HC.o.mono ?_;rintro e w3 ⟨rfl,mq,_⟩;have pE:=ae mq;clear mq);go_ret;refine⟨rfl,?_⟩;rw[<-HW.o]at pE;exact Below.kp1 HB.o pE.o (by omega)):G:=h
theorem qaS(h:G:=by
 simp only[am];refine cb 3 rfl fun K hK=>?_;go_simp
 first
 |clear qBc;refine aO.2 ((ie n w3.drew (by have:=KH.o;omega)).mono ?_);have up:=();exact qk6
 |clear qx4;refine aO.2 ((ie n _ (by have:=WR.o.2.1;omega)).mono ?_);rintro _ _ ⟨rfl,rfl⟩;refine hK _ _ (fun _=>dW) (fun _=>?_);clear hK K;refine cb 6 rfl fun K hK=>?_;go_simp
  first
  |clear que;refine aO.2 ((jh n _).mono ?_);have qys:=();exact qiO
  |refine aO.2 ((jh m _).mono ?_);exact qiO
 |clear qy3;refine aO.2 ((gZ.o a[k] (aH dG) (lH.o.mem (aH dG)) _ W2.drew u (HU.o.later (cQ.o.drew))).mono ?_);rintro _ A ⟨p,rfl,hp,hA⟩
  first
  |clear qAT;have qBe:=();exact qak
  |have qBf:=();exact qak
 |clear qAP;refine aO.2 ((gZ.o s[k] (aH dG) (sC.o.mem (aH dG)) _ W2.drew u (HU.o.later (cQ.o.drew))).mono ?_);rintro _ A ⟨p,rfl,hp,hA⟩;have qBg:=();exact qak
 |clear qAR;refine aO.2 ((vF a[k1] (xZ.o.mem (aH dG)) _ W2.drew u (HU.o.later (cQ.o.drew))).mono ?_);rintro _ A ⟨p,rfl,hp,hA⟩;have qBh:=();exact qak
 |refine CallsIn.inRound lR (aO.2 (vQ.o.mono ?_));rintro _ w4 ⟨rfl,aY⟩;have cd:Below W2.heap.size W2 w4:=((ar W2.heap.size W2).drew).trans aY;refine hK _ _ (fun _=>by rw[HS.o];exact cd) (fun iQ=>?_);clear hK K;refine di 4 31 (.int .i64 (S1:Int)) rfl (fun V hX=>by have hwr:=HWr.o.1;go_simp) (iQ (by omega)) fun jM=>?_;simp only[am];have xn4:=bY cd HGs.o.2.1;have RT:=bY cd HGs.o.2.2.1;have n4:=ao xn4 0;have z4:=ai xn4 0;refine cb 5 rfl fun K hK=>?_;have qrr:=();exact qaa):G:=h
theorem qaT(h:G:=by
 simp only[am];refine cb 5 rfl fun K hK=>?_;go_simp
 first
 |clear qAN;refine aO.2 ((gZ.o ss[k] (aH dG) c L _ W2.drew vL u (HL.o.2.2.2.tr ((cR.o.tr cQ.o).tr (ar _ _).drew)) (HL.o.1.later ((cR.o.tr cQ.o).tr (ar _ _).drew)) (by have:=i9 (aH dG);have:=HL.o.2.1;simp only[ag]at this;omega) HL.o.2.2.1 (HU.o.later (cQ.o.drew))).mono ?_);rintro _ A ⟨⟨p,rfl,hp⟩,hA⟩;have qBi:=();exact qak
 |clear qAO;refine aO.2 ((gZ.o s[k] (aH dG) (sC.o.mem (aH dG)) fr cc _ W2.drew u mf nf (.slice va v0 vc) (HT.o.next OG) (HU.o.later (cQ.o.drew)) (zbT.o.same (OG.block mf HMl.o)) HPz.o HFr.o (zbX.o _ (aH dG)) zbY.o).mono ?_);rintro _ A ⟨⟨p,rfl,hp⟩,hA⟩;have qBj:=();exact qak
 |clear qAQ;refine aO.2 ((gZ.o W0 s[k] nx z (sC.o.mem (aH dG)) (HS4.o _ (aH dG)).1 (HS4.o _ (aH dG)).2.1 (HS4.o _ (aH dG)).2.2.1 (HS4.o _ (aH dG)).2.2.2 PG.o TR.o.1 TR.o.2 _ _ W2.drew u ⟨zv,zn,za,zl,zc⟩ (TS.o.next ((cR.o.tr cQ.o).tr ((ar _ _).drew))) (HU.o.later (cQ.o.drew)) (((HZ.o.later cR.o).later cQ.o).later ((ar _ _).drew))).mono ?_);rintro _ A ⟨⟨p,rfl,hp⟩,hA⟩;exact qak
 |clear qAS;refine aO.2 ((HFT.o a[k1] (zdp.o _ (aH dG)) _ W2.drew u ((cR.o.tr cQ.o).tr (ar _ _).drew) (HU.o.later (cQ.o.drew))).mono ?_);rintro _ A ⟨⟨p,rfl,hp⟩,hA⟩;have qBk:=();exact qak
 |clear qAU;refine aO.2 ((ie x W2.drew z8).mono ?_);exact qk6
 |refine aO.2 ((jh m _).mono ?_);rintro _ A1 ⟨rfl,sG⟩;have cd:Below W2.heap.size W2 A1:=((ar W2.heap.size W2).drew).trans sG;have qBl:=();exact qao):G:=h
theorem qkC(h:G:=by
 simp only[gd.cells,gd.val,TQ.val]at CC P0 P1 P2 P3 P4 P5 P6 P7 P8;have hts:=sE (c:=ps.reverse) (ins:=ins) dG;rw[DP]at hts
 first
 |clear up;have iX:=fun(h:iO ps.reverse ins a[k]=none)=>DN (c:=ps.reverse) (ins:=ins) (aH dG) h;have⟨U,hU⟩:=az (iO ps.reverse ins a[k]);have qvf:=();exact qbV
 |have iX:=fun(h:iO ps.reverse ins a[k1]=none)=>DN (c:=ps.reverse) (ins:=ins) (aH dG) h;have⟨U,hU⟩:=az (iO ps.reverse ins a[k1]);exact qbV):G:=h
theorem qep(h:G:=by
 have C1:=ae (fun w=>h1▸pZ n w hn);clear h1;go_enter func119,ntmps119
 first
 |clear an;go_wp2_with (go_at_call 185;refine(C1.o _).mono ?_;rintro e w' ⟨rfl,hb⟩);go_ret;exact⟨by simp,hb⟩
 |go_wp2_with (first|(go_at_call 185;refine(C1.o _).mono ?_;rintro e w' ⟨rfl,hb⟩)|(go_at_call 186;refine(m7 n _ hn).mono ?_;rintro e Iw ⟨rfl,bU⟩));exact qdL):G:=h
theorem qk1(h:G:=by
 have CQ:=lg ⟨uo,⟨nm.toArray⟩,ua,k0,uc,ub,m0,ue⟩ wr;simp only[FQ.val,td]at CQ;have MR:=ae CQ;have HE:=bS hj GP bD
 first
 |clear qAY;have ji:=ae x3;have qBm:=();exact qk7
 |have⟨ji,HX4,lT⟩:=cU x3 x4 x1;exact qk7):G:=h
theorem qfM(h:G:=by
 have hW:Below wr.heap.size wr (wr.alloc (.cells #[.bool uv,.string ⟨xn.toArray⟩,.slice ua ul uc] 43)):=dp
 first
 |clear up;have DH:(k:Int)<(k0:Int):=by omega
  by_cases hc:uv=true/\xn=x
  ·obtain⟨rfl,rfl⟩:=hc;have iZ:(xn==xn)=true:=by simp
   have HE:=ae (show R=some [k] by rw[ht];simp[nR]);have HB:=ae (aD.trans (hW.mono aD.size));clear aD hW hu gH hf sD hx ht c0 c1 c2;go_wp2;go_ret;refine⟨⟨_,rfl,?_⟩,?_⟩
   ·rw[HE.o];exact gj.one 1 (aK _) (aq (by simp))
   ·exact HB.o.trans (dp.mono HB.o.size)
  ·have hpt:nR x (.mk uv xn xa)=fh x xa 0:=by
    rw[nR,aw];simpa using hc
   rw[hpt]at ht;have C1:=sD x ok _ ua ul uc hf.args ((gH.later aD).later hW);simp only[Tm.a]at C1;have⟨S,hS⟩:=az (fh x xa 0);have qA6:=();exact qg9
 |have hx2:(wr.alloc (.cells #[.bool uv,.string ⟨xn.toArray⟩,.slice ua ul uc] 43)).heap[wr.heap.size]?=some (.cells #[.bool uv,.string ⟨xn.toArray⟩,.slice ua ul uc] 43 (0,0)):=aq rfl;have hL1:Ca L 9223372036854775807 wr:=HL.o.kp bD (fun h=>hNL h.symm);have zgV:N<wr.heap.size:=(bQ hn);have C1:=Ng N L hNL (k+af (l.take j)) _ ⟨uv,⟨xn.toArray⟩,ua,ul,uc⟩ (hn.later hW) (hL1.later hW) (by omega) (by omega);unfold TQ.val at C1;have CC:=fun(W:World)(h:Kp (fun c=>c=N) wr W)(hN:Ca N (k+af (l.take j)+1) W)=>sD N L ok (k+af (l.take j)+1) W ua ul uc hNL hf.args (gH.move (fun b hb hlt=>⟨hb,h.same b hlt (s_.o b hb)⟩)) s_.o hN (hL1.kp h (fun h=>hNL h.symm)) (by omega) (by simp only[Tm.a];omega);simp only[Tm.a]at CC;have⟨P,hP⟩:=az (af (l.take j));have⟨M,hM⟩:=az (af xa);rw[<-hP,<-hM]at jX;rw[<-hP]at C1;rw[<-hP,<-hM]at CC;have⟨uW,oQ,HS,mJ⟩:=f8 C1 CC jX bD;have HW:=aM hW hx2;clear hu iA sD hf hx gH hn C1 CC jX bD hW hx2 hL1 hP hM uF c0 c1 c2;go_wp2_with (first|(go_at_call 231;refine uW.o.mono ?_;rintro e w1 ⟨rfl,le,eB⟩;have e2:w1.cell? ⟨wr.heap.size,2,none⟩=some (.slice ua ul uc):=ao ((le.same _ (by simp) (by omega)).trans HW.o.2) 2;have HH1:=aM ((Kp.below HW.o.1).trans le) eB;clear le eB)|(go_at_call 230;refine(oQ.o _ HH1.o.1 HH1.o.2).mono ?_;rintro e w2 ⟨rfl,ke,jY⟩;have HH2:=aM ke jY;clear ke jY));go_roundw
  case rel=>exact⟨j+1,by omega,by go_num,mJ.o.trans (HH1.o.1.trans HH2.o.1),by have h:=HH2.o.2;rw[HS.o];rw[show k+((P+(M+1):Nat):Int)=k+(P:Int)+1+(M:Int) by omega];exact h⟩
  case measure=>simp[intOf];omega):G:=h
theorem qbn(h:G:=by
 go_ret;exact⟨rfl,HH.o.1,HH.o.2⟩):G:=h
theorem qfG(h:G:=by
 have:=congrArg (fun v=>match v with|Value.agg xs=>xs.toList|_=>[]) hq;simpa using this):G:=h
theorem qhR(h:G:=by
 obtain⟨hs,hf,hc,he,hl⟩:=hpv;simp only at hs hf hc he hl uM;have hps:=hp.ps he;obtain⟨v1,v2,h1,j7,oY⟩:=aX.1 hs
 first
 |clear qul;obtain⟨v3,v4,h2,I7,zaD⟩:=aX.1 hf;exact qct
 |have qsq:=();exact qal):G:=h
theorem qdm(h:G:=by
 go_simp;refine aO.2 ((HC.o _ (by have h:=b_;rw[c9.o]at h;exact h)).mono ?_)
 first
 |clear qu9
  first
  |clear qAq;rintro e w5 ⟨⟨pv,pn,pa,pl,pc⟩,rfl,Oc,g_⟩;simp only at Oc⊢;have jc:=((ar w3.heap.size w3).drew).trans g_;have x7:=(jc.block _ (by omega)).trans bV.o.2.1;obtain⟨d0,d1,d2,f0,f1,f2⟩:=ir x7;have TW:=Oc.move (ok':=(w.heap.size+2<=·)) (fun b hok hlt=>⟨by have hzd:w3.drew.heap.size=w3.heap.size:=rfl;simp only at hok⊢;omega,rfl⟩);have H7:=bS jc x7 TW;have hz7:=jc.size;refine hK _ _ (fun _=>by rw[c9.o];exact H7.o.1) (fun _=>?_);clear hK K g_ jc x7 Oc TW;refine cb 8 rfl fun K hK=>?_;have qrd:=();exact qaa
  |clear qxN;rintro e w7 ⟨⟨v7,rfl,MW⟩,g_⟩;have H7:=ae (((ar W5.heap.size W5).drew).trans g_);have HCH:=ae (uQ m (by have:=HM.o.2.1;omega) HM.o.1 _ w7 v7 MW.1);have qyk:=();exact qaB
  |clear qsZ
   first
   |clear qAb;rintro e w7 ⟨rfl,g_⟩;have H7:=ae (((ar w3.heap.size w3).drew).trans g_);have qym:=();exact qaB
   |rintro e w7 ⟨⟨v7,rfl,MW⟩,g_⟩;have H7:=ae (((ar w3.heap.size w3).drew).trans g_);have CH:=uQ m HM.o.2 HM.o.1 _ w7 v7 MW.1;have HCH:=ae CH;have qyn:=();exact qaB
  |clear qz9;rintro e w7 ⟨⟨p0,p1,p2,p3,p4,p5,p6,p7⟩,rfl,hp,g_⟩;have H7:=ae (((ar W2.heap.size W2).drew).trans g_);have HP7:=ae hp;have x7:=bY H7.o HB.o.2.2.2.1;have Ic:=ae x7;obtain⟨e0,e1,e2,e3,z0,z1,z2,z3⟩:=dw x7;have qyp:=();exact qaB
  |clear qAd;rintro e w7 ⟨rfl,g_⟩;have H7:=ae (((ar W2.heap.size W2).drew).trans g_);have qyq:=();exact qaB
  |rintro e w7 ⟨⟨v7,rfl,MW⟩,g_⟩;have H7:=ae (((ar W2.heap.size W2).drew).trans g_);have HCH:=ae (uQ m HM.o.2 HM.o.1 _ w7 v7 MW.1);have qyr:=();exact qaB
 |clear qBn;rintro _ A ⟨⟨n2,p1,p2,p3,p4,p5,p6,p7⟩,rfl,hp,hA⟩;have qz0:=();exact qib
 |rintro _ A ⟨⟨n2,p1,p2,p3,p4⟩,rfl,hp,hA⟩;exact qib):G:=h
theorem qcv(h:G:=by
 obtain⟨fa,fl,fc,ta,tl,tc⟩:=q;obtain⟨Bp,sV⟩:=hq;simp only at Bp sV
 first
 |clear I8;obtain rfl:=Bp.len;have⟨n1,eB⟩:=az b.fs.length;have⟨R,hR⟩:=az (bG b.fs n);rw[<-eB]at hF Bp;rw[<-eB,<-hR];have⟨W2,bp⟩:=az ((w.alloc (.cells #[.slice fa n1 fc,.slice ta tl tc] 26)).alloc (.cells #[.int .u8 0,.string ⟨#[]⟩,.slice none 0 0,.slice none 0 0] 36));have bU:=mo bp;have iG:=zP bp;have x1:=kv bp;have⟨HFv,HP,HN⟩:=cU Bp aI eB;have GB:=();exact qk8
 |clear Ss;obtain rfl:=sV.len;have⟨n1,eB⟩:=az b.ts.length;have⟨R,hR⟩:=az (bG b.ts n);rw[<-eB]at hF sV;rw[<-eB,<-hR];have⟨W2,bp⟩:=az ((w.alloc (.cells #[.slice fa fl fc,.slice ta n1 tc] 26)).alloc (.cells #[.bool false,.string ⟨#[]⟩,.slice none 0 0] 43));have bU:=mo bp;have iG:=zP bp;have x1:=kv bp;have⟨HFv,HP,HN⟩:=cU sV aI eB;exact qk8
 |obtain rfl:=Bp.len;obtain rfl:=sV.len;have⟨n1,eB⟩:=az b.fs.length;have⟨n2,jY⟩:=az b.ts.length
  first
  |clear qm4;obtain⟨M,hM⟩:∃M:Nat->Prop,M=fun b=>b=w.heap.size+1\/b=w.heap.size+1+1:=⟨_,rfl⟩;rw[<-eB]at hF;rw[<-jY]at hT;have⟨W4,vE⟩:=az ((((w.alloc (.cells #[.slice fa n1 fc,.slice ta n2 tc] 26)).alloc (.map #[] 0)).alloc (.map #[] 0)).alloc (.cells #[.map (some (w.heap.size+1)),.map (some (w.heap.size+1+1))] 148));have aY:=Xj vE;have p_:=Β vE;have x0:=SV vE;have kn4:ly (fun b=>b<w.heap.size) PF PT W4 (w.heap.size+1+1+1) (w.heap.size+1) (w.heap.size+1+1) 0 0 ⟨[],[]⟩:=by
    refine⟨by rw[vE];exact aq (by simp),?_,?_,by omega,by omega,by omega⟩
    ·have h:=ms.made (P:=prog) (k:=9) (V:=T4 (fun b=>b<w.heap.size) PF W4) (w.alloc (.cells #[.slice fa n1 fc,.slice ta n2 tc] 26));have hz:(w.alloc (.cells #[.slice fa n1 fc,.slice ta n2 tc] 26)).heap.size=w.heap.size+1:=by simp
     rw[hz]at h;exact h.move (by rw[vE];exact(bZ _ _ _ (by simp <;>omega)).trans (bZ _ _ _ (by simp))) (fun _ _ _ _ h=>h)
    ·have h:=ms.made (P:=prog) (k:=9) (V:=PJ (fun b=>b<w.heap.size) PT W4) ((w.alloc (.cells #[.slice fa n1 fc,.slice ta n2 tc] 26)).alloc (.map #[] 0));have hz:((w.alloc (.cells #[.slice fa n1 fc,.slice ta n2 tc] 26)).alloc (.map #[] 0)).heap.size=w.heap.size+1+1:=by simp
     rw[hz]at h;exact h.move (by rw[vE];exact(bZ _ _ _ (by simp))) (fun _ _ _ _ h=>h)
   rw[<-eB]at Bp;rw[<-jY]at sV;rw[<-eB,<-jY];have⟨HFv,HTv⟩:=bi Bp sV;have HP:=uU vh tC hdF hdT hPF _g;have HN:=aM eB jY;have H4:=cH aY p_ x0 kn4;have⟨HM,HW4⟩:=bi hM vE;clear Bp sV vh tC hdF hdT hPF _g eB jY aY p_ x0 kn4 vE hM;unfold BQ.val;go_enter func46,ntmps46;go_wp2_with fail;rw[<-HW4.o];go_loopw [15] (fun i wr=>∃k:Nat,k<=n1/\i=.int .i64 k/\Kp M W4 wr/\ly (fun b=>b<w.heap.size) PF PT wr (w.heap.size+1+1+1) (w.heap.size+1) (w.heap.size+1+1) k 0 ⟨b.fs.take k,[]⟩) (fun i _=>n1-(intOf i).toNat)
   case atStart=>exact⟨0,bn _,rfl,Kp.refl _,by simpa using H4.o.2.2.2⟩
   case round=>
    obtain⟨k,hk,rfl,bD,eR⟩:=hrel
    by_cases hlt:k<n1
    ·have bA:k<b.fs.length:=by rw[<-HN.o.1];exact hlt
     have up:=();exact qd7
    ·obtain rfl:k=n1:=by omega
     have cr:b.fs.take k=b.fs:=by rw[HN.o.1];exact dA
     rw[cr]at eR;have⟨wo,IU⟩:=az wr;subst IU;have x0:=(bD.same _ (by have:=H4.o.2.1;omega) (by rw[HM.o];omega)).trans H4.o.2.2.1;have⟨y0,y1⟩:=QN x0;have HO:=aM bD eR;clear bD eR cr x0;go_wp2_with fail;clear y0 y1;go_loopw [31] (fun i wr=>∃j:Nat,j<=n2/\i=.int .i64 j/\Kp M W4 wr/\ly (fun b=>b<w.heap.size) PF PT wr (w.heap.size+1+1+1) (w.heap.size+1) (w.heap.size+1+1) k j ⟨b.fs,b.ts.take j⟩) (fun i _=>n2-(intOf i).toNat)
     case atStart=>exact⟨0,bn _,rfl,HO.o.1,by simpa using HO.o.2⟩
     case round=>
      obtain⟨j,hj,rfl,bD,eR⟩:=hrel
      by_cases fC:j<n2
      ·have bA:j<b.ts.length:=by rw[<-HN.o.2];exact fC
       obtain⟨bb,off,⟨qv,qn,qa,ql,qc⟩,rfl,hok,hf,c0,c1,c2,c3⟩:=HTv.o.get bA;exact qjb
      ·obtain rfl:j=n2:=by omega
       have cr:b.ts.take j=b.ts:=by rw[HN.o.2];exact dA
       rw[cr]at eR;have HE:=aM bD eR;clear bD eR cr;go_wp2;go_ret;refine⟨rfl,HE.o.2,?_⟩;exact⟨HE.o.1.os.trans H4.o.1.os,HE.o.1.tape.trans H4.o.1.tape,HE.o.1.output.trans H4.o.1.output,aR H4.o.1.size HE.o.1.size,fun b hb=>(HE.o.1.same b (bP hb H4.o.1.size) (by rw[HM.o];omega)).trans (H4.o.1.block b hb)⟩
  |have⟨R,hR⟩:=az (bF b);rw[<-eB]at hF Bp;rw[<-jY]at hT sV;rw[<-eB,<-jY,<-hR];have⟨W1,cC⟩:=az (w.alloc (.cells #[.slice fa n1 fc,.slice ta n2 tc] 26));have hb1:=dj cC;have jv:=Kh cC;have x1:=cA cC;have⟨HFv,HTv⟩:=bi Bp sV;have HP:=aM vh tC;have HN:=aM eB jY;have H1:=bS hb1 jv x1;have⟨WW,kf,HR⟩:=cU ht cC hR;clear Bp sV vh tC eB jY hb1 jv x1 cC ht hR;unfold BQ.val;go_enter func27,ntmps27;go_wp2_with fail;rw[<-kf.o];go_loopw [3,12] (fun v i wr=>∃k:Nat,k<=n1/\i=.int .i64 k/\Below W1.heap.size W1 wr/\fK W1.heap.size wr v ((b.fs.take k).map (·.1))/\(b.fs.take k).all (fun x=>ej x.1&&bw (bI x.2))=true) (fun _ i _=>n1-(intOf i).toNat)
   case atStart=>exact⟨0,bn _,rfl,ar _ _,fK.nil _ _,by simp⟩
   case round=>
    obtain⟨k,hk,rfl,aD,aE,gt⟩:=hrel
    by_cases hlt:k<n1
    ·have bA:k<b.fs.length:=by rw[<-HN.o.1];exact hlt
     exact qd7
    ·obtain rfl:k=n1:=by omega
     have cr:b.fs.take k=b.fs:=by rw[HN.o.1];exact dA
     rw[cr]at aE gt;have⟨wo,IU⟩:=az wr;subst IU;have y1:=aa aD (ao H1.o.2.2 1);have HO1:=cH aD aE gt (H1.o.1.tr aD);clear aD aE gt cr;go_wp2_with fail;clear y1;go_loopw [4,36] (fun v i wr=>∃j:Nat,j<=n2/\i=.int .i64 j/\Below wo.heap.size wo wr/\fK wo.heap.size wr v ((b.ts.take j).map (·.1))/\(b.ts.take j).all (fun x=>dI x.1&&jA false (aU x.2))=true) (fun _ i _=>n2-(intOf i).toNat)
     case atStart=>exact⟨0,bn _,rfl,ar _ _,fK.nil _ _,by simp⟩
     case round=>
      obtain⟨j,hj,rfl,aD,aE,gt⟩:=hrel
      by_cases fC:j<n2
      ·have lG:j<b.ts.length:=by rw[<-HN.o.2];exact fC
       obtain⟨bb,off,⟨qv,qn,qa,ql,qc⟩,rfl,hok,hf,c0,c1,c2,c3⟩:=HTv.o.get lG;have l9:=HO1.o.2.2.2.tr aD;have⟨d0,d1,d2,d3⟩:=mH l9 c0 c1 c2 c3;have⟨nm,dQ⟩:=az (b.ts[j].1);have⟨g,hg⟩:=az (b.ts[j].2);have oA:=HP.o.2 _ (aH lG);rw[<-dQ]at d0;rw[<-dQ,<-hg]at oA;rw[<-hg]at hf;exact qjc
      ·obtain rfl:j=n2:=by omega
       have cr:b.ts.take j=b.ts:=by rw[HN.o.2];exact dA
       rw[cr]at aE gt;have hE:R=(eq (b.fs.map (·.1))&&eq (b.ts.map (·.1))):=by rw[HR.o];unfold bF;rw[HO1.o.2.2.1,gt];simp
       have HE3:=ae hE;have C1:=yu (b.fs.map (·.1)) (by simp;have:=HN.o.1;omega) wr u3 (Me (HO1.o.2.1.later aD).strs);have HS2:=ae (fun(W:World)(hb:Below wr.heap.size wr W)=>yu (b.ts.map (·.1)) (by simp;have:=HN.o.2;omega) W u4 (Me (aE.later hb).strs));have⟨B1,jN⟩:=az (eq (b.fs.map (·.1)));have⟨B2,ew⟩:=az (eq (b.ts.map (·.1)));rw[<-jN,<-ew]at HE3;rw[<-jN]at C1;rw[<-ew]at HS2;have SE:=ae C1;have cR:=ae (HO1.o.2.2.2.tr aD);clear hE C1 jN ew aE gt aD cr
       cases B1 with
       |false=>
        go_wp2_with (go_at_call 70;refine SE.o.mono ?_;rintro e w6 ⟨rfl,dh⟩;have H6:=ae dh;clear dh);go_ret;exact⟨by rw[HE3.o];rfl,cR.o.tr H6.o⟩
       |true=>
        go_wp2_with fail;refine SE.o.mono ?_;rintro e w6 ⟨rfl,dh⟩;have H6:=ae dh;clear dh;go_wp2_with fail;refine(HS2.o w6 H6.o).mono ?_;rintro e w7 ⟨rfl,g_⟩;have H7:=ae (H6.o.tr g_);clear g_;go_wp2;go_ret;exact⟨by rw[HE3.o];rfl,cR.o.tr H7.o⟩):G:=h
theorem qfu(h:G:=by
 refine⟨by omega,by omega,fun h=>?_⟩;have h3:=h2.2.2 h;have h4:=h1.2 (by omega);omega):G:=h
theorem qc0(h:G:=by
 have Lz:=iI Jk;have SI:dM.length<=17:=by rw[Bw];have:=ko M0;simp[cg];omega
 first
 |clear qsr;have xd:=eR.later hb1;have Kf:=fun (V:World) (h:Below W1.heap.size W1 V)=>iu (.mk 16 n a s) (by simp[Fm.a,gH]) (by simp[Fm.a,gH]) (fun t ht=>by
   have h2:=ii.1 nM.2.2.1 t (by simpa[Fm.a]using ht);obtain⟨tv,tn,ta⟩:=t;simp only[kI,ak,bM]at h2;have:=h2.1;simp only;omega) _ V ⟨16,⟨n.toArray⟩,sa,n1,sc,sb,m2,se⟩ ((hs.later hb1).later h)
  simp only[FQ.val]at Kf;rw[bq,<-Bw]at Kf;have⟨HIN,HR,HP⟩:=cU Kf tN hp;have HG:=gN WP WO WQ hM0 hMs;have HV:=cH hf hc xd (Ec.next hb1);have HB:=cH vh tC hl hps;have kf:=ae cC;have H1:=bS hb1 jv x1;have HF:=gN aI nM.2.1 Lz SI Jk;have g0:W1.cell? ⟨kb,0,none⟩=some (.map (some mF)):=ao xd.box 0;have g1:W1.drew.cell? ⟨kb,0,none⟩=some (.map (some mF)):=ao xd.box 0;have g3:W1.drew.cell? ⟨W.heap.size,1,none⟩=some (.string ⟨n.toArray⟩):=P1;have up:=();exact qkV
 |clear qBp;have Kf:=fun (V:World) (h:Below W2.heap.size W2 V)=>iu (.mk 16 n a ss) (by simp[Fm.a,gH]) (by simp[Fm.a,gH]) (fun t ht=>by
   have h2:=ii.1 HQ.o.2.2.2.2.2.2.1 t (by simpa[Fm.a]using ht);obtain⟨tv,tn,ta⟩:=t;simp only[kI,ak,bM]at h2;have:=h2.1;simp only;omega) _ V ⟨16,⟨n.toArray⟩,sa,n1,sc,sb,m1,se⟩ (HQ.o.1.later h)
  simp only[FQ.val,bq]at Kf
  first
  |clear qvP;have HIN:=ae Kf;have HY:=aM Lz SI;have qAH:=();exact qhH
  |have k0:W2.cell? ⟨kb,0,none⟩=some (.map (some mF)):=ao H2.o.2.2.box 0;have k1:W2.drew.cell? ⟨kb,0,none⟩=some (.map (some mF)):=k0;have k3:W2.drew.cell? ⟨w.heap.size+1,1,none⟩=some (.string ⟨n.toArray⟩):=e1;exact qhI
 |have uW:=iu (.mk 16 n a ss) (by simp[Fm.a,gH]) (by simp[Fm.a,gH]) (fun t ht=>by
   have h2:=ii.1 nM.2.2.1 t (by simpa[Fm.a]using ht);obtain⟨tv,tn,ta⟩:=t;simp only[kI,ak,bM]at h2;have:=h2.1;simp only;omega) _ W2 ⟨16,⟨n.toArray⟩,sa,n1,sc,sb,m1,se⟩ (hq.later bU)
  simp only[FQ.val,bq]at uW;have⟨n0,wE⟩:=az (fD dM f);rw[<-wE]at hR;have G':n0<=400:=by have:=rT dM f;omega
  have HB:=gN bU iG x1 x2 hR;have yU:=gN rS LC IY XK XL;have⟨HGl,MZ,gh,HIN⟩:=f8 zJ ia bp uW;have HY:=bS Lz SI G';have HN0:=ae wE;have TS:=ae (mY.next (dz.tr bU));clear bU iG x1 x2 hR rS LC IY XK XL zJ ia bp uW Lz SI G' wE IV hf gH M0 Jk bq Bw kH hq j7 oY hL Yc Uv eB jQ dz nM mn hs;simp only[FQ.val];have⟨c0,c1,c2,c3⟩:=pC HB.o.2.2.1;have qAW:=();exact qk0):G:=h
theorem qfo(h:G:=by
 have HE:=ae (show R=(oN,2) by rw[HR.o];rfl);go_enter func32,ntmps32
 first
 |clear it;go_wp2_with (rw[<-gh.o];go_at_call 26;refine vQ.o.mono ?_;rintro e w4 ⟨rfl,aY⟩;have x4:=bY aY HB.o.2.2.2.2;obtain⟨i0,i1,i2,i3,z0,z1,z2,z3⟩:=dw x4;have Ic:=ae x4;have H4:=ae aY;clear aY x4);have an:=();exact qbs
 |go_wp2_with (first|(rw[<-gh.o];go_at_call 26;refine vQ.o.mono ?_;rintro e w3 ⟨rfl,aS⟩;have x3:=bY aS HB.o.2.2.2.1;have j0:=ao x3 0;have j1:=ao x3 1;have H3:=ae aS;clear aS x3)|(go_at_call 27;refine(U4.o _ H3.o).mono ?_;rintro e w4 ⟨rfl,aY⟩;have x4:=bY (H3.o.tr aY) HB.o.2.2.2.2;obtain⟨i0,i1,i2,i3,z0,z1,z2,z3⟩:=dw x4;have Ic:=ae x4;have H4:=ae (H3.o.tr aY);clear aY x4));have an:=();exact qbs):G:=h
theorem qkS(h:G:=by
 have⟨wz,hwz⟩:=az wr;subst hwz;obtain⟨S,hS⟩:∃S:World->Prop,S=fun V=>Below W1.heap.size W1 V:=⟨_,rfl⟩
 first
 |clear qAD;have g0:=kf.o.2.1;have f0:∀V,S V->V.cell? ⟨w.heap.size,0,none⟩=some (.slice (some ⟨b,off,none⟩) n1 qc):=fun V h=>by rw[hS]at h;exact aa h g0
  have ff:∀V,S V->V.cell? ⟨b,off+k*5,none⟩=some (.string ⟨nm.toArray⟩)/\V.cell? ⟨b,off+k*5+1,none⟩=some (.int .u8 x.o)/\V.cell? ⟨b,off+k*5+2,none⟩=some (.string x.n)/\V.cell? ⟨b,off+k*5+3,none⟩=some (.slice x.a x.l x.c)/\V.cell? ⟨b,off+k*5+4,none⟩=some (.slice x.b x.m x.e):=fun V h=>by
   rw[hS]at h;exact⟨aa (kf.o.1.tr h) c0,aa (kf.o.1.tr h) c1,aa (kf.o.1.tr h) c2,aa (kf.o.1.tr h) c3,aa (kf.o.1.tr h) c4⟩
  have qzr:=();exact qkh
 |have g0:=kf.o.2.2;have f0:∀V,S V->V.cell? ⟨w.heap.size,1,none⟩=some (.slice (some ⟨b,off,none⟩) n2 qe):=fun V h=>by rw[hS]at h;exact aa h g0
  have ff:∀V,S V->V.cell? ⟨b,off+j*4,none⟩=some (.string ⟨nm.toArray⟩)/\V.cell? ⟨b,off+j*4+1,none⟩=some (.bool x.v)/\V.cell? ⟨b,off+j*4+2,none⟩=some (.string x.n)/\V.cell? ⟨b,off+j*4+3,none⟩=some (.slice x.a x.l x.c):=fun V h=>by
   rw[hS]at h;exact⟨aa (kf.o.1.tr h) c0,aa (kf.o.1.tr h) c1,aa (kf.o.1.tr h) c2,aa (kf.o.1.tr h) c3⟩
  exact qkh):G:=h
theorem qdA(h:G:=by
 go_enter func92,ntmps92
 first
 |clear qBq;exact qhp
 |clear up
  by_cases dQ:xn=yn
  ·subst dQ;exact qdB
  ·have iZ:(xn==yn)=false:=by simpa using dQ
   have lw:(!(xn==yn))=true:=by simpa using dQ
   rw[iZ,Bool.false_or]at PQ;subst PQ;have HM:Hd (R=(ct ps.reverse xa ya&&cX (ps++[(xn,yn)]).reverse xs ys)):=ae (by rw[hm];simp);clear hm;go_wp2_with (go_at_call 93;refine(Lr.o _).mono ?_;rintro e X0 ⟨rfl,nX⟩;have o7:Below W2.heap.size W2 X0:=(by rw[gh.o];exact nX);have ot:=ae (bY o7 HX.o);have pP:=ae (bY o7 HY.o);have rf:=ae ((HP.o.later cQ.o).later o7);have jb:=ae (cQ.o.trans (o7.mono cQ.o.size));have z2:X0.cell? ⟨w.heap.size,2,none⟩=some (.slice ua k0 uc):=ao ot.o 2;clear nX o7);clear z2;exact qhP
 |go_wp2_with (go_at_call 93;refine(Lr.o _).mono ?_;rintro e X0 ⟨rfl,nX⟩;have La:Hd (Below W2.heap.size W2 X0):=ae (by rw[gh.o];exact nX);clear nX);go_ret;exact⟨aJ HE.o.symm,cQ.o.trans (La.o.mono cQ.o.size)⟩):G:=h
theorem qeN(h:G:=by
 have hba:Below W.heap.size W (W.alloc (.cells #[.bool false,.string ⟨#[]⟩,.slice none 0 0] 43)):=dp
 first
 |clear it;have e0:(W.alloc (.cells #[.bool false,.string ⟨#[]⟩,.slice none 0 0] 43)).cell? ⟨W.heap.size,0,none⟩=some (.bool false):=ao hx1 0;have e1:(W.alloc (.cells #[.bool false,.string ⟨#[]⟩,.slice none 0 0] 43)).cell? ⟨W.heap.size,1,none⟩=some (.string ⟨#[]⟩):=ao hx1 1;have e2:(W.alloc (.cells #[.bool false,.string ⟨#[]⟩,.slice none 0 0] 43)).cell? ⟨W.heap.size,2,none⟩=some (.slice none 0 0):=ao hx1 2;have HB:=ae hba;clear hx1 hba;go_enter func268,ntmps268;go_wp2;refine bX (v:=.tuple #[TQ.val ⟨false,⟨#[]⟩,none,0,0⟩,.bool false]) (by simp[TQ.val,results,results268,go_sem,e0,e1,e2]) rfl ⟨⟨⟨false,⟨#[]⟩,none,0,0⟩,rfl,fun u h=>by cases h⟩,HB.o⟩
 |have hx:(W.alloc (.cells #[.bool false,.string ⟨#[]⟩,.slice none 0 0] 43)).heap[W.heap.size]?=some (.cells #[.bool false,.string ⟨#[]⟩,.slice none 0 0] 43 (0,0)):=aq rfl;have an:=();exact qk9):G:=h
theorem qhB(h:G:=by
 clear aD ea cr;go_wp2;go_ret;exact⟨⟨_,rfl,by rw[uN.o];exact HK.o.2⟩,HK.o.1⟩):G:=h
theorem qkz(h:G:=by
 have⟨d0,d1,d2,d3,d4⟩:=zcp l9 c0 c1 c2 c3 c4;have⟨nm,dQ⟩:=az (b.fs[k].1);have⟨g,hg⟩:=az (b.fs[k].2)
 first
 |clear it;have it:=();exact qla
 |have oA:=HP.o.1 _ (aH bA);rw[<-dQ]at d0;rw[<-dQ,<-hg]at oA;rw[<-hg]at hf;exact qdu):G:=h
theorem qiQ(h:G:=by
 clear CC jm cV XY hx hy ia bD rR Aj MS zO bE x6 zM xu6 WS xuw tT c0 c1 c2 y0 y1 y2 vj vk hS hZ;go_wp2;rw[<-XR.o]
 first
 |clear qv9;have qz6:=();exact qgQ
 |exact qgQ):G:=h
theorem qaR(h:G:=by
 have dW:S w3.drew:=by rw[hS];exact(ar _ _).drew
 first
 |clear qxO;have c9:=ae hS;clear hS;refine lM S 5 dW fun jO b_=>?_;refine di 0 8 (.agg #[.int .u8 qo,.string qn,.slice qa ql qc,.slice qb qm qe]) rfl (fun V hX=>by obtain⟨g0,g1,g2,g3⟩:=ff V hX;go_simp) b_ fun cK=>?_;simp only[am];refine di 1 9 (.agg #[.int .u8 qo,.string qn,.slice qa ql qc,.slice qb qm qe]) rfl (fun V hX=>by obtain⟨g0,g1,g2,g3⟩:=ff V hX;go_simp) cK fun f_=>?_;simp only[am];refine cb 2 rfl fun K hK=>?_;go_simp;refine aO.2 ((vN ⟨qo,qn,qa,ql,qc,qb,qm,qe⟩ _).mono ?_);rintro e w4 ⟨rfl,SJ⟩;have aY:Below w3.heap.size w3 w4:=by rw[SJ];exact(ar _ w3).drew.alloc (aK _) _
  have x4:w4.heap[w3.heap.size]?=some (.cells #[.int .u8 qo,.string qn,.slice qa ql qc,.slice qb qm qe] 36 (0,0)):=by rw[SJ];exact aq rfl
  have H8:=aM aY x4;clear aY x4 SJ;refine hK _ _ (fun _=>by rw[c9.o];exact H8.o.1) (fun _=>?_);clear hK K;refine cb 3 rfl fun K hK=>?_;go_simp;have hqw:=HQ.o.later H3.o.1;have MO:w.heap.size<=w3.heap.size:=H3.o.1.size;have h34:=H8.o.1.size;have zef:=(bQ H8.o.2);have Xd:aC (fun b=>b<w3.heap.size) w4 (FQ.val ⟨qo,qn,qa,ql,qc,qb,qm,qe⟩) t:=(hqw.lt).later H8.o.1;have C2:=Cw (aP [] t) (by have:=WM.o;omega) (oo t [] HF.o.2) 148 #[.pointer (some ⟨w3.heap.size,0,none⟩)] w4 (enters_of func148 (by kernel_rfl) rfl) (fun w1 hb hl=>vO t HF.o (by have:=HN4.o;omega) (fun b=>b=w4.heap.size) w4.heap.size w3.heap.size w1 ⟨qo,qn,qa,ql,qc,qb,qm,qe⟩ ((hb.block _ zef).trans H8.o.2) (by omega) ((Xd.later hb).move (fun b zcu hlt=>⟨⟨by omega,by omega⟩,rfl⟩)));refine aO.2 (C2.mono ?_);rintro e w5 ⟨rfl,NS,bE⟩;have lJ:=H8.o.1.tr bE;have H5:=aM NS lJ;clear C2 Xd hqw zef h34 MO NS bE lJ;refine hK _ _ (fun _=>by rw[c9.o];exact H5.o.2) (fun _=>?_);clear hK K;refine cb 4 rfl fun K hK=>?_;go_simp;have Zr:=H3.o.1.tr H5.o.2;refine aO.2 ((O1 W0 t HF.o (aP [] t) [] _ w5 ⟨qo,qn,qa,ql,qc,qb,qm,qe⟩ w4.heap.size _ (.slice none 0 0) (HT.o.next Zr) (HQ.o.later Zr) H5.o.1 (cw.nil _) (by have:=WM.o;omega) (by have:=HN4.o;simp;omega) (fun _ h=>by cases h)).mono ?_);rintro e w6 ⟨⟨p,rfl,hp6⟩,dh⟩;have vM:=H5.o.2.tr dh;have y6:=bY vM H3.o.2.2;have zeg:aC (fun b=>w.heap.size+2<=b) w6 p.val (eb (aP [] t) [] t):=hp6.move (fun b hb _=>⟨by have h1:=Zr.size;have h2:=(bQ H3.o.2.2);have h3:=H5.o.2.size;have h4:w5.heap.size<=b:=hb;omega,rfl⟩);have H7:=bS vM y6 zeg;clear Zr vM y6 hp6 zeg dh;refine hK _ _ (fun _=>by rw[c9.o];exact H7.o.1) (fun _=>?_);clear hK K;obtain⟨po,pn,pa,pl,pc,pb,pm,pe⟩:=p;simp only[FQ.val];have⟨c0,c1,c2,c3,z0,z1,z2,z3⟩:=dw H7.o.2.1;refine cb 5 rfl fun K hK=>?_;go_simp;refine eX hK ?_;clear hK K c0 c1 c2 c3 z0 z1 z2 z3;refine cb 6 rfl fun K hK=>?_;have qrn:=();exact qaa
 |clear qxP
  first
  |clear qBt;have HC:=ae (fun(V:World)(h:Below w3.heap.size w3 V)=>nd _ Lx (by omega) _ V ⟨z0,z1,z2,z3,z4⟩ (hz.later h));simp only[TQ.val]at HC;have⟨m,hm⟩:=az (ap (b8 k.ts n));rw[<-hm]at HC uN;have c9:=ae hS;clear hS nL x3 hz Lx MT Ed bA hm e0 e1 e2;have qAa:=();exact qa9
  |clear qxv;have Eg:=oT _ Uw;have hlen:=aR (gp (aL (b8 k.ts n))) (oS (b8 k.ts n));have HC:=ae (fun(V:World)(h:Below w3.heap.size w3 V)=>og _ Lx _ V ⟨z0,z1,z2,z3,z4⟩ (hz.later h));simp only[TQ.val]at HC;have⟨m,hm⟩:=az (dX (aL (b8 k.ts n)));have Od:∀x∈m,x.length<=2000000:=fun x hx=>by rw[hm,eG]at hx;exact aR (Eg x hx) (by decide)
   have te:m.length<=2000000:=by rw[hm];omega
   rw[<-hm]at HC uN;have HM:=aM Od te;clear Od te hlen Eg;have c9:=ae hS;clear hS nL x3 hz Lx MT Uw Ed bA hm e0 e1 e2;exact qdQ
  |have HC:=ae (fun(V:World)(h:Below w3.heap.size w3 V)=>rq _ Lx _ V ⟨z0,z1,z2,z3,z4⟩ (hz.later h));simp only[TQ.val]at HC;rw[<-HU.o]at HC;have c9:=ae hS;clear hS nL x3 hz Lx MT Ed bA;have qAc:=();exact qa9
 |clear qxQ;have c9:=ae hS;clear hS t0 t1 t2 u0 u1 u2;have jq:=fP;refine(wpIn_wide (n:=3)).1 ?_;refine lM S 5 dW fun jO b_=>?_;refine di 0 56 (.agg #[.bool uv,.string ⟨n'.toArray⟩,.slice ua n2 uc]) rfl (fun V hX=>by obtain⟨h0,h1,h2⟩:=v0 V hX;go_simp) b_ fun cK=>?_;simp only[am];refine bH 1 57 (.pointer (some ⟨W.heap.size+1,1,none⟩)) rfl cK fun f_=>?_;simp only[am];refine di 2 58 (.string ⟨n.toArray⟩) rfl (fun V hX=>by have h0:=s1 V hX;go_simp) f_ fun gX=>?_;have qBc:=();exact qaS
 |clear qxS;have c9:=ae hS;clear hS;refine lM S 12 dW fun jO b_=>?_;refine di 0 54 (.slice pa p0 pc) rfl (fun V hX=>by have g0:=f0 V hX;go_simp) b_ fun cK=>?_;simp only[am];refine di 1 55 (.slice pa p0 pc) rfl (fun V hX=>by have g0:=f0 V hX;go_simp) cK fun f_=>?_;simp only[am];refine bH 2 56 (.int .i64 (p0:Int)) rfl f_ fun gX=>?_;simp only[am];refine di 3 57 (.slice pa p0 pc) rfl (fun V hX=>by have g0:=f0 V hX;go_simp) gX fun iQ=>?_;simp only[am];refine bH 4 58 (.int .i64 (p0:Int)) rfl iQ fun jM=>?_;simp only[am];refine di 5 59 (.slice pa p0 p0) rfl (fun V hX=>by have XI:=zed.o;rcases Ui.o with⟨rfl,rfl,rfl⟩|⟨b,off,rfl⟩<;>go_simp) jM fun km=>?_;simp only[am];refine bH 6 60 (.pointer (some ⟨w.heap.size,1,none⟩)) rfl km fun mU=>?_;simp only[am];refine di 7 61 (.string ⟨n.toArray⟩) rfl (fun V hX=>by have g1:=f1 V hX;go_simp) mU fun q_=>?_;simp only[am];refine bH 8 62 (.pointer (some ⟨w.heap.size+1+1+1,1,none⟩)) rfl q_ fun D2=>?_;simp only[am];refine di 9 63 (.string ⟨m.toArray⟩) rfl (fun V hX=>by have g2:=f2 V hX;go_simp) D2 fun vi=>?_;simp only[am];refine bH 10 64 (.agg #[.string ⟨n.toArray⟩,.string ⟨m.toArray⟩]) rfl vi fun D3=>?_;have qBu:=();exact qbt
 |clear qxU;have NT:=ae (fun(V:World)(h:Below w3.heap.size w3 V)=>yG WB G (cg n) (bj n) ⟨by have:=qr.o.1;omega,qr.o.2.1⟩ (by have:=qr.o.1;omega) qr.o.2.2.1 qr.o.2.2.2 (by have:=WR.o.2.1;simp[cg];omega) ⟨by simp[bj,ap,af],Af HM.o⟩ (by simp[bj,ap,af]) _ (fun _=>True) V q ⟨true,⟨n.toArray⟩,none,0,0⟩ (TS.o.next (La.o.1.tr h)) (La.o.2.2.later h) (aW.2 ⟨_,rfl,cE⟩));have qud:=();exact qhK
 |have NT:=ae (fun(V:World)(h:Below w3.heap.size w3 V)=>yG WB G (cg n) (bj m) ⟨by have:=qr.o.1;omega,qr.o.2.1⟩ (by have:=qr.o.1;omega) qr.o.2.2.1 qr.o.2.2.2 (by have:=WR.o.2.1;simp[cg];omega) ⟨by simp[bj,ap,af],Af HM.o⟩ (by simp[bj,ap,af]) _ (fun _=>True) V q ⟨true,⟨m.toArray⟩,none,0,0⟩ (TS.o.next (La.o.1.tr h)) (La.o.2.2.later h) (aW.2 ⟨_,rfl,cE⟩));exact qhK):G:=h
theorem qen(h:G:=by
 go_enter func242,ntmps242;go_wp2;go_ret
 first
 |clear an;simp
 |refine⟨aJ ?_,rfl⟩;rw[S3,iM];simp):G:=h
theorem qjo(h:G:=by
 obtain⟨⟨z0,z1,z2,z3,z4⟩,hz,Lx,MT,_,_,Ed⟩:=nL.termOf (x:=n) mn;simp only[TQ.val]at Ed;have bA:=nL.ts.lt
 first
 |clear qxu;have qBt:=();exact qc3
 |have x3:=bV.o.2.2.1;exact qc3):G:=h
theorem qlb(h:G:=by
 split
 ·exact⟨rfl,fun _=>⟨hk.f,hk.t⟩⟩
 ·exact⟨rfl,fun h=>by cases h⟩):G:=h
theorem qcu(h:G:=by
 go_ret;exact⟨by rw[<-H4.o.1];rfl,H4.o.2⟩):G:=h
theorem qgU(h:G:=by
 have CT:=ae (fun w=>ht▸m7 n w wi);have HE:=ae (hb.trans (by rw[hv,ht]<;>rfl));clear hv ht hb nH Sy wk sM
 first
 |clear an;have qtu:=();exact qap
 |have qtw:=();exact qap):G:=h
theorem qgX(h:G:=by
 have Ε:¬bB<=bT:=fun h=>QT ⟨hl,h⟩;simp only[decide_eq_false_iff_not];omega):G:=h
theorem qaX(h:G:=by
 obtain⟨k,hk,rfl,aD,ht⟩:=hrel
 by_cases hlt:k<k0
 first
 |clear qmF
  ·have bA:=cG dN.o hlt;have qzc:=();exact qd0
  ·obtain rfl:k0=k:=by omega
   have HE:=ae (show R=none by rw[ht,iW (by rw[dN.o];exact aK _)];simp[fh]);have HB:=ae aD;clear aD ht;go_wp2;go_ret;exact⟨⟨_,rfl,by rw[HE.o];exact gj.nil _⟩,HB.o⟩
 |clear qx0
  ·have bA:=cG dN.o hlt;have lj:k<m.length:=by rw[<-gT.o,<-HKM.o];exact hlt
   have zaB:k<m0:=by rw[<-HKM.o];exact hlt
   have qAJ:=();exact qkW
  ·obtain rfl:k=k0:=by omega
   have he:R=0:=by rw[ht,iW (by rw[dN.o];exact aK _),D4]
   have⟨HE,HB⟩:=bi he aD;clear he aD ht;go_wp2;go_ret;exact⟨uE HE.o.symm,HB.o⟩
 |clear qyL
  ·have bA:=cG dN.o hlt;have lj:=cG XN.o bA;exact qkW
  ·obtain rfl:k=k0:=by omega
   have up:=();exact qj4
 |clear qyM
  ·have bA:=cG dN.o hlt;have lj:=cG XN.o bA;obtain⟨b,off,u,rfl,_,hu,c0,c1,c2,c3⟩:=HL.o.get bA;obtain⟨b',kQ,u',rfl,_,iA,lW,lX,kK,Bu⟩:=HM.o.get lj;have hf:=HF.o.mem (aH bA);have sD:=gZ.o l[k] (aH bA);have qwv:=();exact qbS
  ·obtain rfl:k=k0:=by omega
   exact qj4
 |·have bA:=cG dN.o hlt;obtain⟨b,off,u,rfl,_,hu,c0,c1,c2,c3⟩:=HL.o.get bA;have hf:=HF.o.mem (aH bA);have sD:=gZ.o xs[k] (aH bA);rw[K5 bA]at ht;have qBv:=();exact qi8
  ·obtain rfl:k0=k:=by omega
   have HE:=ae (show R=none by rw[ht,iW (by rw[dN.o];exact aK _)];simp[mE]);have HB:=ae aD;clear aD ht;go_wp2;refine bX (v:=.tuple #[.slice none 0 0,.slice none 0 0]) (by simp[results,results165,go_sem]) rfl ⟨⟨_,_,rfl,?_,?_⟩,HB.o⟩
   ·rw[HE.o];exact gj.nil _
   ·rw[HE.o];exact gj.nil _):G:=h
theorem qa7(h:G:=by
 obtain⟨k,hk,rfl,dS,ht⟩:=hrel
 by_cases hlt:k<k1
 first
 |clear qrz
  ·have bA:=cG MX.o hlt;have qs7:=();exact qbb
  ·obtain rfl:k1=k:=by omega
   exact qbd
 |clear qxr
  ·have bA:=cG MX.o hlt;have qs9:=();exact qbb
  ·obtain rfl:k1=k:=by omega
   exact qbd
 |clear qxs
  ·have bA:=cG MX.o hlt;exact qbb
  ·obtain rfl:k1=k:=by omega
   exact qbd
 |clear qx3
  ·have bA:=cG MX.o hlt;have qs5:=();exact qbb
  ·obtain rfl:k1=k:=by omega
   exact qbd
 |·have bA:=cG MX.o hlt;have qs3:=();exact qbb
  ·obtain rfl:k1=k:=by omega
   exact qbd):G:=h
theorem qfA(h:G:=by
 rw[hp];exact⟨w'.heap.size,aK _,ea,fun Iw h=>ea.kept h,fun b e=>by cases e⟩):G:=h
theorem qie(h:G:=by
 exact⟨k+1,by omega,by go_num,_,us++[u'],cV,yw.o.1,by rw[ei,yw.o.2];rfl⟩):G:=h
theorem qe9(h:G:=by
 have e:dF k c (.mk o n [] [g])=rk o n [] (dF k (n::c) g):=by
  simp only[dF,aw kL,aw gq,aG hq,iD,iC]
 rw[e]
 first
 |clear an;generalize dF k (n::c) g=r at i1 i2;unfold rk;generalize (if(aP [] r).contains n then dy (aP [] r)else n)=m';obtain⟨p1,p2,_⟩:=jz (a_ r) r (cg n) m' i1 i2 (aK _);exact⟨by simp[iV,gy,eC,gQ,p1],by simp[il,hO,gQ,p2]⟩
 |generalize dF k (n::c) g=r at ih iw;have hm:=Ou (n:=n) (r:=r) dQ.2.1 (by omega);unfold rk;generalize (if(aP [] r).contains n then dy (aP [] r)else n)=m' at hm;have hp:=yN (a_ r) r (cg n) (bj m') iw.1 iw.2 (aK _);have hv:ap (bj m')=1:=by simp[bj,ap,af]
  have Ke:=rN (a_ r) r (cg n) (bj m') iw.1 iw.2 (aK _) (by rw[hv];omega) ih.2 (Af hm);rw[hv]at hp;refine⟨?_,?_⟩
  ·simp only[ag,af,ah,gQ];omega
  ·simp only[mI,d8,eu,gQ,Ke,Bool.and_true,ak,bM];exact⟨dQ.1,hm⟩):G:=h
theorem qlc(h:G:=by
 simp only[dif_pos sA];exact(ht j sA hj).2.move (fun b hok _=>⟨hok.1,rfl⟩)):G:=h
theorem qfr(h:G:=by
 subst hq;exact⟨q,hs,h3,h4.move (fun c hc _=>⟨⟨hc.1,hc.2.1⟩,rfl⟩)⟩):G:=h
theorem qeI(h:G:=by
 have bU:RowKit.Below w.heap.size w W2:=by rw[bp];exact dp.alloc (by simp) _
 have iG:=zP bp;have hx2:=kv bp
 first
 |clear it;have C2:=Cw (aL t) qY (oT t aI.2) 270 #[.pointer (some ⟨w.heap.size+1,0,none⟩)] W2 (enters_of func270 (by kernel_rfl) rfl) (fun w1 hb hl=>FW t aI (fun b=>b=W2.heap.size) W2.heap.size (w.heap.size+1) w1 q (bY hb hx2) (by omega) ((hq.later (bU.trans (hb.mono bU.size))).move (fun b zcu hlt=>⟨⟨by omega,by omega⟩,rfl⟩)));have an:=();exact qk2
 |have C2:=Cw (aP [] t) qY (oo t [] aI.2) 148 #[.pointer (some ⟨w.heap.size+1,0,none⟩)] W2 (enters_of func148 (by kernel_rfl) rfl) (fun w1 hb hl=>vO t aI Kc (fun b=>b=W2.heap.size) W2.heap.size (w.heap.size+1) w1 q (bY hb hx2) (by omega) ((hq.later (bU.trans (hb.mono bU.size))).move (fun b zcu hlt=>⟨⟨by omega,by omega⟩,rfl⟩)));exact qk2):G:=h
theorem qdB(h:G:=by
 have iZ:(xn==xn)=true:=by simp
 have lw:(!(xn==xn))=false:=by simp
 first
 |clear qwn;have HM:Hd (R=(ct ps.reverse xa ya&&cX ps.reverse xs ys)):=ae (by rw[hm];simp);clear hm;go_wp2_with (go_at_call 146;refine(Lr.o _).mono ?_;rintro e X0 ⟨rfl,nX⟩;have o7:Below W2.heap.size W2 X0:=(by rw[gh.o];exact nX);have ot:=ae (bY o7 HX.o);have pP:=ae (bY o7 HY.o);have rf:=ae ((HP.o.later cQ.o).later o7);have jb:=ae (cQ.o.trans (o7.mono cQ.o.size));have z1:X0.cell? ⟨w.heap.size,1,none⟩=some (.string ⟨xn.toArray⟩):=ao ot.o 1;have z3:X0.cell? ⟨w.heap.size+1,1,none⟩=some (.string ⟨xn.toArray⟩):=ao pP.o 1;have z2:X0.cell? ⟨w.heap.size,2,none⟩=some (.slice ua k0 uc):=ao ot.o 2;clear nX o7);clear z1 z2 z3;go_loopw [47] (fun i wr=>∃k:Nat,k<=k0/\i=.int .i64 k/\Below X0.heap.size X0 wr/\R=(ct ps.reverse (xa.drop k) (ya.drop k)&&cX ps.reverse xs ys)) (fun i _=>k0-(intOf i).toNat)
  case atStart=>exact⟨0,bn _,rfl,ar _ _,by simpa using HM.o⟩
  case round=>
   have quE:=();exact qaA
 |clear qw3;have HMt:Hd (R=ct ps.reverse xa ya):=ae (by rw[tO.o];simp);clear tO;go_wp2
  first
  |clear qBw;rw[<-gh.o];have qzR:=();exact qkt
  |clear qBx;exact qkt
  |rw[<-gh.o];go_loopw [36] (fun i wr=>∃k:Nat,k<=k0/\i=.int .i64 k/\Below W2.heap.size W2 wr/\R=ct ps.reverse (xa.drop k) (ya.drop k)) (fun i _=>k0-(intOf i).toNat)
   case atStart=>exact⟨0,bn _,rfl,(ar _ _),by simpa using HMt.o⟩
   case round=>
    have quy:=();exact qaA
 |have jb:=cQ;have ot:=HX;have pP:=HY;have rf:=ae (HP.o.later cQ.o);cases qb
  ·have HM:Hd (R=(ct ps.reverse xa ya&&cX ps.reverse xs ys)):=ae (by rw[hm];simp);clear hm;go_wp2;rw[<-gh.o];go_loopw [47] (fun i wr=>∃k:Nat,k<=k0/\i=.int .i64 k/\Below W2.heap.size W2 wr/\R=(ct ps.reverse (xa.drop k) (ya.drop k)&&cX ps.reverse xs ys)) (fun i _=>k0-(intOf i).toNat)
   case atStart=>exact⟨0,bn _,rfl,ar _ _,by simpa using HM.o⟩
   case round=>
    have quz:=();exact qaA
  ·have HM:Hd (R=(ct ps.reverse xa ya&&cX (ps++[(xn,xn)]).reverse xs ys)):=ae (by rw[hm];simp);clear hm;go_wp2;rw[<-gh.o];go_loopw [47] (fun i wr=>∃k:Nat,k<=k0/\i=.int .i64 k/\Below W2.heap.size W2 wr/\R=(ct ps.reverse (xa.drop k) (ya.drop k)&&cX (ps++[(xn,xn)]).reverse xs ys)) (fun i _=>k0-(intOf i).toNat)
   case atStart=>exact⟨0,bn _,rfl,ar _ _,by simpa using HM.o⟩
   case round=>
    have quB:=();exact qaA):G:=h
theorem qe3(h:G:=by
 have⟨k0,cD⟩:=az l.length;rw[<-cD]at hlen⊢;have⟨dN,HL,gZ,HF⟩:=f8 cD hl ih aI;clear cD hl ih aI
 first
 |clear qnm;go_enter func164,ntmps164;go_wp2;go_loopw [5,10] (fun r i wr=>∃k:Nat,k<=k0/\i=.int .i64 k/\Below w.heap.size w wr/\r=.int .i64 (fV x (l.take k))) (fun _ i _=>k0-(intOf i).toNat)
  case atStart=>exact⟨0,bn _,rfl,ar _ _,by simp[fV]⟩
  case round=>
   obtain⟨k,hk,rfl,aD,rfl⟩:=hrel
   by_cases hlt:k<k0
   ·have bA:=cG dN.o hlt;have qzd:=();exact qd0
   ·obtain rfl:k=k0:=by omega
    have h1:l.take k=l:=by rw[dN.o];exact dA
    rw[h1];have HB:=ae aD;clear h1 aD;go_wp2;go_ret;exact⟨rfl,HB.o⟩
 |go_enter func54,ntmps54;go_wp2;go_loopw [5,6] (fun r i wr=>∃k m:Nat,k<=k0/\i=.int .i64 k/\r=.int .i64 m/\Below w.heap.size w wr/\kX l left 0=kX (l.drop k) left m/\m<=100002000000) (fun _ i _=>k0-(intOf i).toNat)
  case atStart=>exact⟨0,0,bn _,rfl,rfl,ar _ _,by simp,by omega⟩
  case round=>
   obtain⟨k,m,hk,rfl,rfl,aD,hcut,FG⟩:=hrel
   by_cases hlt:k<k0
   ·by_cases te:(m:Int)<=left
    ·have bA:=cG dN.o hlt;exact qd0
    ·have LG:decide ((m:Int)<=left)=false:=by simp;omega
     exact qcG
   ·obtain rfl:k=k0:=by omega
    have hd:l.drop k=[]:=by rw[dN.o];exact List.drop_length
    rw[hd]at hcut;have he:kX l left 0=m:=hcut;have⟨HE,HB⟩:=bi he aD;clear he hcut aD hd;exact qld):G:=h
theorem qhn(h:G:=by
 go_wp2;have⟨W3,ec⟩:=az (wr.alloc (.cells #[.bool u.v,.string u.n,.slice u.a u.l u.c] 43))
 first
 |clear qs2;have qwF:=();exact qdI
 |exact qdI):G:=h
theorem qle(h:G:=by
 have g3:W6.cell? ⟨w.heap.size+1+1,3,none⟩=some (.slice (some ⟨w8.heap.size,0,none⟩) 1 1):=ao x6 3
 first
 |clear up;refine bX (v:=FQ.val ⟨qo,⟨n.toArray⟩,fN,0,fO,some ⟨w8.heap.size,0,none⟩,1,1⟩) (by simp[FQ.val,results,results101,go_sem,g0,g1,g2,g3]) rfl ⟨⟨⟨qo,⟨n.toArray⟩,fN,0,fO,some ⟨w8.heap.size,0,none⟩,1,1⟩,rfl,Ah.o▸HP.o.move (fun b hok hlt=>⟨by omega,k6.same b hlt (by omega)⟩)⟩,Below.kp1 PD.o.below k6 (by omega)⟩
 |refine bX (v:=FQ.val ⟨qo,⟨m.toArray⟩,fN,0,fO,some ⟨w8.heap.size,0,none⟩,1,1⟩) (by simp[FQ.val,results,results101,go_sem,g0,g1,g2,g3]) rfl ⟨⟨⟨qo,⟨m.toArray⟩,fN,0,fO,some ⟨w8.heap.size,0,none⟩,1,1⟩,rfl,Ah.o▸HP.o.move (fun b hok hlt=>⟨by omega,k6.same b hlt (by omega)⟩)⟩,Below.kp1 PD.o.below k6 (by omega)⟩):G:=h
theorem qeP(h:G:=by
 obtain⟨g,cap,rfl,_,_⟩:=h2.form (by omega);exact⟨g,cap,w',hr,h2,h3⟩):G:=h
theorem qkX(h:G:=by
 simp only[dif_pos sA];exact(ht j sA hj).move (fun b hok _=>⟨hok.1,rfl⟩)):G:=h
theorem qej(h:G:=by
 have c0:=h.cells (g:=g) rfl _ _ h0;have c1:=h.cells (g:=g) rfl _ _ h1;have c2:=h.cells (g:=g) rfl _ _ h2
 first
 |clear an;rw[oy]at c0 c1 c2;exact⟨_,_,_,rfl,c0,c1,c2⟩
 |have c3:=h.cells (g:=g) rfl _ _ h3;rw[oy]at c0 c1 c2 c3;exact⟨_,_,_,_,rfl,c0,c1,c2,c3⟩):G:=h
theorem qe6(h:G:=by
 obtain⟨y,hy,e⟩:=List.mem_map.1 this;rw[qT,<-hn,<-e,<-qT];exact hz y hy):G:=h
theorem qjM(h:G:=by
 refine d_ rfl rfl jq rfl (fun a γ wz bq=>⟨rfl,.int .i64 (l0:Int),γ,wz,?_,Gr.refl,fun _ _ h=>h,?_⟩)
 first
 |clear up
  ·obtain⟨v88,t88,f88⟩:=bq.val 6 _ 88 rfl rfl (by kernel_rfl);rw[ky]at f88;obtain rfl:=f88;have e88:=bL t88;go_simp
  ·rw[ky];exact rfl
 |·obtain⟨v90,t90,f90⟩:=bq.val 8 _ 90 rfl rfl (by kernel_rfl);rw[ky]at f90;obtain rfl:=f90;have e90:=bL t90;go_simp
  ·rw[ky];exact rfl):G:=h
theorem qjU(h:G:=by
 rw[<-dr]at x6 k6⊢;clear dr;have g0:W6.cell? ⟨w.heap.size+1+1,0,none⟩=some (.int .u8 qo):=ao x6 0
 first
 |clear qyJ;have g1:W6.cell? ⟨w.heap.size+1+1,1,none⟩=some (.string ⟨n.toArray⟩):=ao x6 1
  first
  |clear qBz;have g2:W6.cell? ⟨w.heap.size+1+1,2,none⟩=some (.slice fN k1 fO):=ao x6 2;have g3:W6.cell? ⟨w.heap.size+1+1,3,none⟩=some (.slice ra k rc):=ao x6 3;have hz:=Bb.o;have h6:aC (w.heap.size<=·) W6 (FQ.val ⟨qo,⟨n.toArray⟩,fN,k1,fO,ra,k,rc⟩) (.mk qo n (a.map (nl nx z)) (s.map (h_ kk nx z))):=eO.form (S5.o.kp1 k6 (by omega)) (HR.o.kp1 k6 (by have:=B_.o;omega)) eQ.o.size (by have:=B_.o;have:=eQ.o.size;omega);refine bX (v:=FQ.val ⟨qo,⟨n.toArray⟩,fN,k1,fO,ra,k,rc⟩) (by simp[FQ.val,results,results101,go_sem,g0,g1,g2,g3]) rfl (⟨⟨⟨qo,⟨n.toArray⟩,fN,k1,fO,ra,k,rc⟩,rfl,Ah.o▸h6⟩,Below.kp1 cR.o k6 (by omega)⟩)
  |have g2:W6.cell? ⟨w.heap.size+1+1,2,none⟩=some (.slice fN 0 fO):=ao x6 2;have up:=();exact qle
 |have g1:W6.cell? ⟨w.heap.size+1+1,1,none⟩=some (.string ⟨m.toArray⟩):=ao x6 1;have g2:W6.cell? ⟨w.heap.size+1+1,2,none⟩=some (.slice fN 0 fO):=ao x6 2;exact qle):G:=h
theorem qh3(h:G:=by
 have Uh:=ae (show R=cX (ps++[(xn,yn)]).reverse xs ys by rw[ht,iW (by rw[dN.o];exact aK _)];simp[ct])
 first
 |clear quD;have qqA:=();exact qa4
 |exact qa4):G:=h
theorem qke(h:G:=by
 have h1:=ih u (fT ..) (nM u (fT ..));have h3:=Ti (fun t ht=>ih t (fS _ ht)) (fun t ht=>nM t (fS _ ht))
 first
 |clear an;simp only[fj,af];omega
 |simp only[eH,af,ei];omega):G:=h
theorem qlf(h:G:=by
 have h1:x∈l.map (·.1):=by
  by_cases h:x∈l.map (·.1)
  ·exact h
  ·rw[(jy l x).2 h]at hg;cases hg
 first
 |clear an;exact⟨fun _=>((hx x).2 a hg).1,fun _=>h1⟩
 |exact⟨fun _=>h1,fun _=>((hx x).2 a hg).1⟩):G:=h
theorem qiB(h:G:=by
 have hE:=HE.o;rw[<-hf]at hE;have te:=H2.o.2.2.fs.lt;have yU:=bS rS LC IY;clear rS hf
 by_cases kL:so=15
 first
 |clear qvR
  ·subst kL;rw[aG rfl]at hE;have⟨m,hm⟩:=az (ag f);rw[<-hm]at hE;have qu7:=();exact qhV
  rw[aw kL]at hE;have N9:(so==15)=false:=by simp[kL]
  by_cases gq:so=16
  ·subst gq;rw[aG rfl]at hE;exact qhW
  have qA5:=();exact qk3
 |·subst kL;rw[aG rfl]at hE;have qAm:=();exact qkG
  rw[aw kL]at hE;have N9:(so==15)=false:=by simp[kL]
  by_cases gq:so=16
  ·subst gq;rw[aG rfl]at hE;exact qhX
  exact qk3):G:=h
theorem qlg(h:G:=by
 rintro _ A ⟨rfl,hA⟩;have e9:=ae (cd.tr hA);clear hA hb1 cd;exact qaN):G:=h
theorem qjR(h:G:=by
 rintro lR pre vs x W hl Ce ⟨k',Bv,yL,h1,h2,h3,h4,h5,h6,h7,h8⟩ ⟨q,ps,rfl,Ql,oe,xI,F_,hps⟩ J9 dU
 first
 |clear qyH;have qqV:=();exact qa6
 |exact qa6):G:=h
theorem qlh(h:G:=by
 simp only[am];refine bH 2 5 (.pointer (some ⟨w.heap.size,1,none⟩)) rfl f_ fun gX=>?_;simp only[am]
 first
 |clear qBB;refine di 3 6 (.string ⟨n.toArray⟩) rfl (fun V hX=>by obtain⟨g0,g1,g2,g3⟩:=f0 V hX;go_simp) gX fun iQ=>?_
  have qBC:=();exact qli
 |refine di 3 6 (.string ⟨n.toArray⟩) rfl (fun V hX=>by obtain⟨g0,g1,g2⟩:=f0 V hX;go_simp) gX fun iQ=>?_
  exact qli):G:=h
theorem qli(h:G:=by
 simp only[am];refine bH 4 7 (.pointer (some ⟨w.heap.size,2,none⟩)) rfl iQ fun jM=>?_;simp only[am]
 first
 |clear qBC;refine di 5 8 (.slice qa k0 qc) rfl (fun V hX=>by obtain⟨g0,g1,g2,g3⟩:=f0 V hX;go_simp) jM fun km=>?_
  simp only[am];refine bH 7 10 (.pointer (some ⟨w.heap.size,3,none⟩)) rfl km fun mU=>?_;simp only[am];refine di 8 11 (.slice qb m0 qe) rfl (fun V hX=>by obtain⟨g0,g1,g2,g3⟩:=f0 V hX;go_simp) mU fun q_=>?_;have qyt:=();exact qjE
 |refine di 5 8 (.slice qa k0 qc) rfl (fun V hX=>by obtain⟨g0,g1,g2⟩:=f0 V hX;go_simp) jM fun km=>?_
  exact qjE):G:=h
theorem qeF(h:G:=by
 simp only[br,Bool.or_eq_true,ef]at hq;rcases hq with rfl|rfl<;>decide):G:=h
theorem qjx(h:G:=by
 have bA:k<x.fs.length:=by rw[<-HN.o.1];exact hlt
 have lj:k<y.fs.length:=by rw[<-HN.o.2.2.1];exact hlt
 first
 |clear qx2;have qwJ:=();exact qi3
 |have nH:=HF.o.2.2.2.1 k bA lj;exact qi3):G:=h
theorem qbC(h:G:=by
 refine eX hK ?_;clear hK K;refine cb 9 rfl fun K hK=>?_
 first
 |clear qqf;have I8:=();exact qaa
 |clear qqm;have it:=();exact qaa
 |clear qz7;have qro:=();exact qaa
 |have qrp:=();exact qaa):G:=h
theorem qgD(h:G:=by
 rw[<-dr]at x6 k6⊢;clear dr;have g0:W6.cell? ⟨w.heap.size+1,0,none⟩=some (.int .u8 qo):=ao x6 0
 first
 |clear up;have qvv:=();exact qay
 |have qvB:=();exact qay):G:=h
theorem qeo(h:G:=by
 clear h hp;go_enter func123,ntmps123
 first
 |clear up;exact qdG
 |go_wp2_with (first|(go_at_call 191;refine(CP.o _).mono ?_;rintro e w' ⟨rfl,rfl⟩)|(go_at_call 152;refine(jg r _ hr).mono ?_;rintro e w' ⟨rfl,hb⟩));go_ret;exact⟨rfl,hb⟩):G:=h
theorem qkT(h:G:=by
 go_wp2;go_ret;exact⟨aJ (wa (v_ s k le hlt _ HP.o)).symm,GM HW.o _⟩):G:=h
theorem qkU(h:G:=by
 have HE:=ae (show R=(⟨[],[]⟩,j,2) by rw[HR.o];exact zh Qj.o.symm (by rw[jm,cV];rfl));clear jm cV
 first
 |clear an;gi_wp2_with (rw[<-tS.o];gi_at_call 26;refine aO.2 (vQ.o.mono ?_);rintro e w6 ⟨rfl,dh⟩;have WX:=bY dh kJ.o;obtain⟨y0,y1,z0,z1⟩:=w_ WX;have H6:=aM dh WX;clear dh WX);obtain⟨W8,kM,x8,k8,g0,g1⟩:=Gj H6.o.2 (.slice none 0 0) (.slice none 0 0);rw[<-kM,Exit.noGoto_ret];have xh:Below w.heap.size w W8:=Below.kp1 (H5.o.1.tr H6.o.1) k8 (by omega);exact qcB
 |gi_wp2_with (first|(rw[<-tS.o];gi_at_call 26;refine aO.2 (vQ.o.mono ?_);rintro e w6 ⟨rfl,dh⟩;have U6:=bY dh H5.o.2.2;have i4:=ao U6 4;have i5:=ao U6 5;have i6:=ao U6 6;have i7:=ao U6 7;have H6:=ae dh;clear dh U6)|(gi_at_call 39;refine aO.2 ((HCR.o _ H6.o).mono ?_);rintro e w7 ⟨rfl,g_⟩;have x17:=bY (H6.o.tr g_) kJ.o;obtain⟨y0,y1,z0,z1⟩:=w_ x17;have H7:=aM (H6.o.tr g_) x17;clear g_ x17));obtain⟨W8,kM,x8,k8,g0,g1⟩:=Gj H7.o.2 (.slice none 0 0) (.slice none 0 0);rw[<-kM,Exit.noGoto_ret];have xh:Below w.heap.size w W8:=Below.kp1 (H5.o.1.tr H7.o.1) k8 (by omega);exact qcB):G:=h
theorem qfm(h:G:=by
 have hmp:L.map encStr++[.string ⟨n.toArray⟩]=(L++[n]).map encStr:=by rw[List.map_append];rfl
 first
 |clear qnW;rw[hmp]at h2;refine⟨_,w',hr,js.own h2,⟨h3.os,h3.tape,h3.output,h3.size,fun b hb=>h3.block b hb (by simp)⟩,fun b hb=>?_⟩
  obtain rfl:g=b:=by simpa[Value.ownBlock]using hb
  exact h2.lt g rfl
 |rw[hmp]at aE;have sS:=js.own aE;have zJ:(X4.alloc (.cells #[.string ⟨n.toArray⟩] 9)).drew.heap.size<=g/\g<X5.heap.size:=aE.lt g rfl;have hzz:(X4.alloc (.cells #[.string ⟨n.toArray⟩] 9)).drew.heap.size=X4.heap.size+1:=by show(X4.alloc _).heap.size=_;simp
  have Z3:X4.heap.size<g/\g<X5.heap.size:=⟨by have:=zJ.1;rw[hzz]at this;omega,zJ.2⟩;have NK:=ae (And.intro sS (show ∀ b,(Value.slice (some ⟨g,0,none⟩) (l0+1) cap).ownBlock=some b->b≠w.heap.size+1+1+1/\b<X5.heap.size from fun b hb=>by
   obtain rfl:g=b:=by simpa[Value.ownBlock]using hb
   have:=TD.o.1;have:=eQ.o.2;exact⟨by omega,Z3.2⟩))
  have TE:=aM (La.o.tr vM) (aR TD.o.1 vM.size);have TF:=ae (bY vM zcD.o);have zai:=ae (bY vM zah.o);have TG:=ae (bY vM zcE.o);have zaj:=ae (bY vM zcF.o);have NJ:=ae (Z2.o.below vM);have zcG:Hd (∀ y,(L ++ [n]).contains y=(n :: ins).contains y):=ae (fun y=>by
   have:=NI.o.1 y;rw[iM]at this⊢;simp only[List.contains_iff_mem,List.mem_append,dc,List.not_mem_nil,or_false]at this⊢;rw[this];exact or_comm)
  clear aE au lJ vM hmp sS zJ Z3 hzz;refine eX hK ?_;clear hK K;refine cb 10 rfl fun K hK=>?_;have qq0:=();exact qaa):G:=h
theorem qhX(h:G:=by
 obtain⟨x,y,gH,M0,Jk,bq⟩:=lA HQ.o.2.2.1;rw[bq]at hE;have⟨dM,Bw⟩:=az (cg x);rw[<-Bw]at bq hE
 first
 |clear qus;have qBp:=();exact qc0
 |have Lz:=iI Jk;have uW:=iu (.mk 16 n a ss) (by simp[Fm.a,gH]) (by simp[Fm.a,gH]) (fun t ht=>by
   have h2:=ii.1 HQ.o.2.2.2.2.2.2.1 t (by simpa[Fm.a]using ht);obtain⟨tv,tn,ta⟩:=t;simp only[kI,ak,bM]at h2;have:=h2.1;simp only;omega) _ W2 ⟨16,⟨n.toArray⟩,sa,n1,sc,sb,m1,se⟩ HQ.o.1
  simp only[FQ.val,bq]at uW;have uW:=ae uW;exact qkG):G:=h
theorem qgO(h:G:=by
 rw[<-dr]at x6 k6⊢;clear dr;have g0:W6.cell? ⟨w.heap.size+1,0,none⟩=some (.bool true):=ao x6 0
 first
 |clear Ss;have qvx:=();exact qay
 |have g1:W6.cell? ⟨w.heap.size+1,1,none⟩=some (.string ⟨r.toArray⟩):=ao x6 1;exact qbX):G:=h
theorem qey(h:G:=by
 simp only[cY,dn]at h;subst h;exact⟨rB.refl _,fun _ _=>by simp[cY]⟩):G:=h
theorem qez(h:G:=by
 simp only[dB,dn]at h;subst h;exact⟨rB.refl _,fun _ _=>by simp[dB]⟩):G:=h
theorem qgS(h:G:=by
 have ew:=dj bp;have xb:=cA bp;rw[<-bp];clear bp d0 d1 d2;have g9:=HF.o.later ew (fun r=>r.below ew)
 first
 |clear qrP;have quX:=();exact qan
 |have qu2:=();exact qan):G:=h
theorem qgn(h:G:=by
 obtain⟨F0,F1⟩:=HSo.o p rfl;have⟨p0,mx⟩:=az p.length;have qN:0<p0:=by rw[mx];exact jR.2 F0
 first
 |clear up;have zcx:p0<=2000000:=by rw[mx];exact F1
  have Tr:(0:Int)<(p0:Int):=by omega
  have⟨wH,zad⟩:=bi mx F0;clear mx F0 F1 HSo;go_wp2_with (first|(go_at_call 229;refine HC.o.mono ?_;rintro e w2 ⟨⟨v2,rfl,ll⟩,bU⟩;obtain⟨a2,c2,rfl⟩:=ll.slice;simp only[Option.getD]at ll⊢;obtain⟨b2,off2,rfl,GN⟩:=ll.get zad.o;have HO:=ae ll.olds;have e9:=ae (HB.o.trans (bU.mono HB.o.size));rw[<-wH.o];clear bU ll GN)|(at_builtin;refine wpList_append_lies _ rfl _ _ 218 rfl 0 3 i0 (.int .i64 0) 1 8 underlying218 hi oO jv iG rfl (by decide) _ 1 [.int .i64 (k:Int)] rfl (zab 0 (bn _) (aq rfl)) ⟨b2,off2,none⟩ p0 c2 (wG p) rfl (by rw[wH.o];simp[wG]) (fun j u h=>aa dp (HO.o j u h)) (by simp[wG,Value.oneCell']) qN (by unfold maxLen;omega) (by omega) (bn _) (w2.heap.size+1) (by simp) ?_;intro g eP w4 aV au hg eM;have HG:=aM aV au;clear aV au hg eM));go_ret;refine⟨⟨_,rfl,?_⟩,?_⟩
  ·rw[HT.o];exact gj.own (l:=k::p) HG.o.1
  ·have aY:Below w2.heap.size w2 w4:=by
    have hg:=HG.o.2;have hs:=hg.size;exact⟨hg.os,hg.tape,hg.output,by simp at hs;omega,fun b hb=>(hg.block b (by simp;omega) (fun h=>by injection h with h;simp at h;omega)).trans (bZ _ _ _ hb)⟩
   exact e9.o.trans (aY.mono e9.o.size)
 |have Tr:(0:Int)<(p0:Int):=by omega
  have wH:=ae mx;clear mx F0 F1 HSo;go_wp2_with (rw[<-gh.o];go_at_call 229;refine HC.o.mono ?_;rintro e w2 ⟨⟨v2,rfl,ll⟩,bU⟩;obtain⟨a2,c2,rfl⟩:=ll.slice;simp only[Option.getD]at ll⊢;have K6:=ae ll;have bV:=ae (cQ.o.trans (bU.mono cQ.o.size));rw[<-wH.o];clear bU ll);have HE:=ae (show R=some ([],p) by rw[HR.o]);refine bX (v:=.tuple #[.slice none 0 0,.slice a2 p0 c2]) (by simp[results,results165,go_sem]) rfl ⟨⟨_,_,rfl,?_,?_⟩,bV.o⟩
  ·rw[HE.o];exact gj.nil _
  ·rw[HE.o,wH.o];exact K6.o):G:=h
theorem qgz(h:G:=by
 rw[<-dr]at x6 k6⊢;clear dr;have g0:W6.cell? ⟨w.heap.size+1,0,none⟩=some (.bool qv):=ao x6 0
 first
 |clear up;have qvt:=();exact qay
 |have qvr:=();exact qay):G:=h
theorem qkb(h:G:=by
 exact Iy _ _ (hK v eZ w' (fun h0=>by rw[hd]at h0;cases h0) hG QM ky)):G:=h
theorem qkp(h:G:=by
 go_enter func94,ntmps94
 first
 |clear qzI;go_wp2_with fail;rw[<-Ci.o];have CT:=io L NE.o.2.2.1 n okL W3 vL (oa.o.later bV.o.1);rw[NE.o.2.2.2]at CT;have K_:=ae CT;clear CT
  cases hc:ins.contains n with
  |true=>
   rw[hc]at K_ Cj;have HE:=ae (show R=some (bj n) by rw[Cj.o];rfl);have HV:=ae (jh n W3);clear hc p0;refine K_.o.mono ?_;rintro e w4 ⟨rfl,rfl⟩;go_wp2_with (go_at_call 131;refine HV.o.mono ?_;rintro e w5 ⟨rfl,bE⟩;have x5:=(bE.block _ (by have:=bV.o.2;omega)).trans kJ.o;obtain⟨e0,e1,e2,z0,z1,z2⟩:=ir x5;have H5:=aM bE x5;clear bE x5);obtain⟨W6,dr,x6,k6,g0,g1,g2⟩:=sT H5.o.2 (.bool true) (.string ⟨n.toArray⟩) (.slice none 0 0);rw[<-dr];refine bX (v:=.tuple #[TQ.val ⟨true,⟨n.toArray⟩,none,0,0⟩,.bool true]) (by simp[TQ.val,results,results94,go_sem,g0,g1,g2]) rfl ⟨⟨⟨true,⟨n.toArray⟩,none,0,0⟩,by rw[HE.o];rfl,fun u hu=>?_⟩,Below.kp1 (bV.o.1.tr H5.o.1) k6 (by omega)⟩;rw[HE.o]at hu;cases hu;exact aW.2 ⟨_,rfl,cE⟩
  |false=>
   rw[hc]at K_ Cj;have tN:R=(cm ps.reverse n).map bj:=by rw[Cj.o];rfl
   have CN:=F2 ⟨⟨so,sn,sa,sl,sc,sb,sm,se⟩,⟨fo,fn,fa,fl,fc,fb,fm,fe⟩,ca,cl,cc⟩ ps NE.o.1 NE.o.2.1 n W3 (NG.o.later bV.o.1);simp only[gd.cells,gd.val]at CN;have⟨nm,dQ⟩:=az ((cm ps.reverse n).getD []);have⟨bb,dz⟩:=az (cm ps.reverse n).isSome;rw[<-dQ,<-dz]at CN;have hE:R.isSome=bb/\∀u,R=some u->u=bj nm:=by
    rw[tN,dQ,dz]
    cases cm ps.reverse n with
    |none=>exact⟨rfl,fun u h=>by cases h⟩
    |some y=>exact⟨rfl,fun u h=>by simp at h;exact h.symm⟩
   have HE:=ae hE;have HV:=ae (fun w=>jh nm w);have HCN:=ae CN;clear hc tN dQ dz hE CN;refine K_.o.mono ?_;rintro e w4 ⟨rfl,rfl⟩;obtain⟨p0,p1,p2,p3,p4,p5,p6,p7,p8⟩:=p0;go_wp2_with (first|(go_at_call 161;refine HCN.o.mono ?_;rintro e w5 ⟨rfl,bE⟩;have DO:=ae bE;clear bE)|(go_at_call 131;refine(HV.o _).mono ?_;rintro e w6 ⟨rfl,dh⟩;have mS:=DO.o.tr dh;have x5:=(mS.block _ (by have:=bV.o.2;omega)).trans kJ.o;obtain⟨e0,e1,e2,z0,z1,z2⟩:=ir x5;have H5:=aM mS x5;clear dh mS x5));obtain⟨W6,dr,x6,k6,g0,g1,g2⟩:=sT H5.o.2 (.bool true) (.string ⟨nm.toArray⟩) (.slice none 0 0);rw[<-dr];refine bX (v:=.tuple #[TQ.val ⟨true,⟨nm.toArray⟩,none,0,0⟩,.bool bb]) (by simp[TQ.val,results,results94,go_sem,g0,g1,g2]) rfl ⟨⟨⟨true,⟨nm.toArray⟩,none,0,0⟩,by rw[HE.o.1];rfl,fun u hu=>?_⟩,Below.kp1 (bV.o.1.tr H5.o.1) k6 (by omega)⟩;rw[HE.o.2 u hu];exact aW.2 ⟨_,rfl,cE⟩
 |obtain⟨p0,p1,p2,p3,p4,p5,p6,p7,p8⟩:=p0;go_wp2;rw[<-Ci.o];have⟨W1,cC⟩:=az (W3.alloc (.cells #[.bool false,.string ⟨n.toArray⟩,.slice none 0 0] 43));have F4:=dj cC;have Z1:W1.heap[w.heap.size+1+1+1]?=some (.cells #[.bool false,.string ⟨n.toArray⟩,.slice none 0 0] 43 (0,0)):=by rw[cC];exact aq (by have:=bV.o.2;omega)
  exact qko):G:=h
theorem qfa(h:G:=by
 have e:dF k c (.mk o n a s)=.mk o n (iC k.ts c a) (iD k c s):=by
  simp only[dF,aw kL,aw gq,aw hq]
 first
 |clear an;have gY:br o=false:=by simpa using hq
  rw[e];exact⟨by simp[iV,i1,Av k2 (c:=c) a hok.2.2.2.1 h1],by simp[il,gY,i2]⟩
 |rw[e];have ha:=tZ (k:=k.ts) (c:=c) a hok.2.2.2.1;refine⟨?_,?_⟩
  ·simp only[ag];omega
  ·simp only[mI,ak,bM];exact⟨dQ.1,by have:=dQ.2.1;omega,eV (by omega) _ (Aw (RH hk hts) a dQ.2.2.1),ih.2⟩):G:=h
theorem qlj(h:G:=by
 rcases hb.2 with h2|h2
 ·rwa [h2]at h1
 ·exact C6 hc d ed.on h1 h2):G:=h
theorem qdg(h:G:=by
 clear rd N5 FG;have qtY:=();exact qcK):G:=h
theorem qba(h:G:=by
 have gZ:=ae (fun t ht=>ih t ht (aI.subs.mem ht))
 first
 |clear qsg;have Nf:FrJ J pre M W0 mb n bs l W.heap.size [] W1:=⟨by simpa using hJ _ _ _ (Nw.below jN) hj,hk.trans (Kp.below jN),hb.same (jN.block mb hmW),hx1,hx2⟩;have hpa:(pre++(aF a).filter (fun x=>!bs.contains x)) <+: xs:=by rw[<-hA];exact lv dU
  have hG:=zao (n:=n) (s:=W.heap.size) hM FG (by omega) hY aI.args hpa;have Z6:=fun(wr:World)(h:W1.heap.size<=wr.heap.size)=>FrJ.abides (l:=l) (s:=W.heap.size) (mb:=mb) (n:=n) (bs:=bs) (pre:=pre) (M:=M) (B:=wr.heap.size) hJ (by omega) (by omega) (by omega);have HFT:=ae (fun t ht=>aI.args.mem (t:=t) ht);have zK:Hd (n+2*NF<4000000/\bs.length+NF<=4000000/\NF=af a+ah ss+1/\bs'.length<=bs.length+1):=ae ⟨hn,Nn,yB,by rw[hbs];split<;>simp⟩;have⟨KH,dN,gT,HV,Tu,kf,eQ,SE,KA,kJ⟩:=Pa dQ cD eh gH DI cC jN iZ hx0 hx1;have⟨HX2,FD,HMb⟩:=cU hx2 hM FG;have HMW:=aM hmW hWs;have⟨HJ,HY,qG,HJ1,HG,HFA,HA,jb⟩:=Xi hJ hY dU Nf hG Z6 hA hbs;clear hq FI gH DI aI ih cD eh cC jN iZ hx0 hx1 hx2 hM FG hmW hWs hJ hY dU Nf hG Z6 hA hbs oA yB hn Nn hj hk hb hMS hpa dQ hNF;exact qeR
 |clear qyW;have qzv:=();exact qaQ
 |clear qyZ;have gD:=ae em;rw[Cl]at qY⊢;have⟨m0,cD⟩:=az a.length;have⟨k0,eh⟩:=az s.length;have⟨A,hA⟩:=az (fV x a);have gT:=ae eh;unfold FQ.val;rw[<-cD,<-hA]at CT;rw[<-cD,<-eh,<-hA];rw[<-hA]at qY;rw[<-eh]at eN;clear hq bN em aI ih cD eh hA Cl;have HB:=ae (show Below w.heap.size w (w.alloc (.cells #[.int .u8 qo,.string ⟨n.toArray⟩,.slice qa m0 qc,.slice qb k0 qe] 36))from dp);have Ss:=();exact qi7
 |clear qy0;have Ug:=ae aI.args;have WW:=ae (fun t ht=>S7 t (aI.args.mem ht));have wk:1<=ag (.mk on n a s):=C9 _;have sM:1<=a_ (.mk on n a s):=by unfold a_;omega
  have nH:ag (.mk on n a s)=af a+ah s+1:=rfl;have sH:bB+(af a:Int)+(ah s:Int)+1<=100000000:=by omega
  have qzx:=();exact qaQ
 |have gD:=ae em;have⟨m0,cD⟩:=az a.length;have⟨k0,eh⟩:=az s.length;have⟨q,gY⟩:=az (n.length / 40);have gT:=ae eh;have zbO:=jf n;have htd:=V7 n.length;have hcF:Fc (.mk qo n a s) left=gA s left (1+q+R):=by unfold Fc;rw[gY,hR]
  unfold FQ.val;rw[<-cD,<-hR]at CT;rw[<-hR]at hRb;rw[<-cD,<-eh];rw[<-gY]at htd V_;rw[V_]at zd3;rw[<-eh]at eN;exact qiZ):G:=h
theorem qbg(h:G:=by
 obtain⟨g',Q3,rfl⟩:=List.mem_map.1 hg
 first
 |clear an;exact(ih g' Q3).1
 |clear it;exact(ih g' Q3).2.1
 |clear up;exact rN k g' x u ((kT s).1 hw.2 g' Q3) ((kg s).1 hq1.2 g' Q3) (by have:=mP s g' Q3;omega) (by have:=mQ s g' Q3;omega) (tk.1 hf.2.2.2 g' Q3) hu
 |exact(ih g' Q3).2):G:=h
