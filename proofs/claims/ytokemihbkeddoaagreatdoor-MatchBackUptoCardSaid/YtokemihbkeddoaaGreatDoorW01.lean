/-
Runs of tactics that several proofs share.
-/
import Derived.Test.YtokemihbkeddoaaGreatDoorW00
namespace Go.Proofs.YtokemihbkeddoaaGreatDoor
open Go Go.RowKit Lib
set_option maxRecDepth 100000
variable {G:Prop}
theorem qgP(h:G:=by
 have bW:=ar.args.len;have kz:=ar.name;have ⟨dT,jw,fd,Nq⟩:=eD bB ar.args ih cZ;have ⟨k0,cd⟩:=aj a.length;rw[<-cd]at bW;have du:=ab cd;clear hq bB ar ih cZ;unfold TQ.val;rw[<-cd];clear cd
 first
 |clear qrJ
  cases qv with
  | false=>
   have hp:gC f (.mk false n a)=.mk false n (a.map (gC f)):=by simp[gC,iz]
   rw[hp];clear hp;exact qgl
  | true=>
   cases sU:f n with
   | none=>
    have hp:gC f (.mk true n a)=.mk true n (a.map (gC f)):=by simp[gC,iz,sU]
    rw[hp];clear hp;have qxA:=();exact qgk
   | some u=>
    have hp:gC f (.mk true n a)=u:=by simp[gC,sU]
    rw[hp];clear hp;have hcu:=hC n u sU;exact qgk
 |cases qv with
  | false=>
   have hp:da kd.ts sc (.mk false n a)=.mk false n (a.map (da kd.ts sc)):=by simp[da,pN]
   rw[hp];clear hp;exact qiX
  | true=>
   have ⟨X,hX⟩:=aj ((w.alloc (.cells #[.bool true,.string ⟨n.toArray⟩,.slice qa k0 qc] 43)).alloc (.cells #[.bool false,.string ⟨#[]⟩,.slice none 0 0] 43));have Ri:=k_ hX;have y1:=jH hX;have y0:=qM hX;have sG:=xC hX;have t7:=ab (iV n X (by omega));have HY:=fG Ri y1 y0 sG (Nq.o.tr Ri);have HX:=ab hX;clear Ri y1 y0 sG hX
   cases l_:dl n with
   | false=>
    rw[l_]at t7
    cases zs:sc.contains n with
    | false=>
     have hp:da kd.ts sc (.mk true n a)=.mk true n (a.map (da kd.ts sc)):=by
      have h2:¬n∈sc:=by simpa using zs
      simp[da,pN,l_,h2]
     have qxB:=();exact qiW
    | true=>
     have hp:da kd.ts sc (.mk true n a)=aP (bI n):=by
      have h2:n∈sc:=by simpa using zs
      simp[da,l_,h2]
     exact qiW
   | true=>
    rw[l_]at t7;have hp:da kd.ts sc (.mk true n a)=termOf kd.ts n:=by simp[da,l_]
    rw[hp];clear hp l_;have ⟨u,hu⟩:=aj (termOf kd.ts n);rw[<-hu];have HU:=ab hu;clear hu;have jx:=eU;obtain ⟨e0,e1,e2,_⟩:=fV HY.o.2.2.1;rw[HX.o]at e0 e1 e2;go_enter Tryz.func127,Tryz.ntmps127;go_upto_region 1 with fail;go_upto_region 2 with (go_at_call 119;rw[<-HX.o];refine t7.o.mono ?_;rintro e w3 ⟨rfl,aG⟩;have y1:=(aG.block _ (by have:=HY.o.2.2.2.1;omega)).trans HY.o.2.1;have y0:=(aG.block _ (by have:=HY.o.2.2.2.1;omega)).trans HY.o.2.2.1;have qB:=aG.size;have o9:=HY.o.2.2.2.1;have Lx:w.heap.size+2<=w3.heap.size:=(by omega);have bD:=cq (HY.o.1.tr aG) y1 y0 (HY.o.2.2.2.2.tr aG);clear aG qB o9 y1 y0);clear e0 e1 e2;have l9:=KZ.o.later bD.o.2.2.2;exact qjf):G:=h
theorem qdb(h:G:=by
 have kK:=cb gt.o hlt;have aq:=il.o.trans (dx.mono il.o.size);have qq9:=();exact qaY):G:=h
theorem qbP(h:G:=by
 exact .inr ⟨b,off,ha,hk.1,fun j hj=>(hc j hj).kept hk.2⟩):G:=h
theorem qco(h:G:=by
 go_enter Tryz.func17,Tryz.ntmps17
 first
 |clear qnM;go_wp2_with (go_at_call 19;refine (CT.o _ HB.o).mono ?_;rintro e w1 ⟨rfl,hb1⟩;have H1:=ab hb1;clear hb1);exact qjx
 |go_wp2;go_ret;exact ⟨rfl,HB.o⟩):G:=h
theorem qjy(h:G:=by
 have HZ:=ab (UR ze (uR.o.2.1.trans bi) Iq fC d_ FU wK);have SY:=aA sL qW;have HN8:=ab hl;clear ze bi Iq fC d_ FU wK sL qW ik mn hu _Y;gi_wp2;refine RoundEnd.mk ?hT ?hr ?hm
 case hT=>kernel_rfl
 first
 |clear qxC
  case hr=>exact ⟨0+1,by omega,by kernel_rfl,HZ.o.1,HZ.o.2.1,HZ.o.2.2.1,HZ.o.2.2.2.1,kj,PA,PB,HZ.o.2.2.2.2.1,by have:=SY.o.1;have:=SR.o.2.1;have:=HN8.o;omega,by have:=SY.o.2;have:=SR.o.2.2;have:=HN8.o;omega,HZ.o.2.2.2.2.2.1,fun h=>absurd h (by decide),fun _=>by have:=t4.o.1 (by simp);rw[this]at HZ;exact HZ.o.2.2.2.2.2.2,fun h=>absurd h (by decide)⟩
  case hm=>
   refine (show 2 - (intOf (Value.int IntKind.i64 (1:Int))).toNat<2 - (intOf (Value.int IntKind.i64 (0:Int))).toNat from ?_);simp[intOf]
 |case hr=>exact ⟨1+1,by omega,by kernel_rfl,HZ.o.1,HZ.o.2.1,HZ.o.2.2.1,HZ.o.2.2.2.1,kj,PA,PB,HZ.o.2.2.2.2.1,by have:=SY.o.1;have:=SR.o.2.1;have:=HN8.o;omega,by have:=SY.o.2;have:=SR.o.2.2;have:=HN8.o;omega,HZ.o.2.2.2.2.2.1,fun h=>absurd h (by decide),fun h=>absurd h (by decide),fun _=>⟨k,t4.o.2.1 (by simp),HZ.o.2.2.2.2.2.2⟩⟩
  case hm=>
   refine (show 2 - (intOf (Value.int IntKind.i64 (2:Int))).toNat<2 - (intOf (Value.int IntKind.i64 (1:Int))).toNat from ?_);simp[intOf]):G:=h
theorem qi7(h:G:=by
 have gG:(p1 == p1)=true:=by first | (simp;done) | simpa using ha
 have kf:(p2 == p2)=true:=by first | (simp;done) | simpa using hb
 have HE:=ab (show R=true by rw[HM.o,ht];simp);clear ht;go_wp2
 first
 |clear qwa;have qc0:=();exact qac
 |go_ret;exact qdM):G:=h
theorem qbg(h:G:=by
 obtain ⟨qJ,hi,Ar,xP,AT⟩:=info_parts gH;obtain ⟨KO,hj,gZ,AU,Uy⟩:=info_parts j9
 first
 |clear qlW;intro t
  induction t using Fm.ind with
  | h o n a s ih=>
   intro ar ok w q hq;have hp:bl (.mk o n a s)=.mk o n (a.map aK) (s.map bl):=by simp[bl,lI,zf]
   rw[hp];clear hp;have qxD:=();exact qas
 |clear qmz;have Fh:=aA hpl iG;clear hpl iG;intro f
  induction f using Fm.ind with
  | h o n a s ih=>
  intro ar L ins hL Rn vL ok w fq Vd cD hq;obtain ⟨qo,qn,qa,ql,qc,qb,qm,qe⟩:=fq;obtain ⟨s1,s2,hs,bB,eb⟩:=aQ.1 hq;exact qgb
 |clear qmI;intro W0 f nx z ar DV AA hqo p9 tP hfz hnz ok OP w q zq hT hq hz;obtain ⟨o,n,a,s⟩:=f;have yh:∀ t∈s,nodesF t<=100000/\gS t=true/\qone t=true/\depthF t<=kk:=fun t ht=>by
   simp only[gS,ae]at AA;have zfp:=hqo;simp only[qone,ae]at hqo;have h1:=ln s t ht;have h2:=ll s t ht;simp only[nodesF]at DV;simp only[depthF]at p9;exact ⟨by omega,(jM s).1 AA.2 t ht,(jh s).1 hqo.2 t ht,by omega⟩
  have uQ:bm o=true->a=[]/\∃g,s=[g]:=fun h=>pD h hqo;have ⟨HQs,HS4,fd,Ns⟩:=eD uQ yh IH tP;have RD:=aA hfz hnz;have ⟨HZ,RE⟩:=aS hz hT;have HFq:=aA ar hq;obtain ⟨zv,zn,za,zl,zc⟩:=zq;simp only[TQ.val]at HZ ⊢;have ih:=trivial;have qxE:=();exact qas
 |intro c L ok w vL q cZ hL VK Sc hq;exact qcm):G:=h
theorem qjz(h:G:=by
 have Qy:(la=none/\l0=0/\lc=0)\/∃b off,la=some ⟨b,off,none⟩:=by
  rcases sY with ⟨h1,h2,h3⟩ | ⟨b,off,h1,_⟩
  ·exact .inl ⟨h2,by rw[tf,h1];rfl,h3⟩
  ·exact .inr ⟨b,off,h1⟩
 first
 |clear qxF;subst Ed;have hold:((.slice la l0 l0:Value)=.slice none 0 0/\l0=0/\L.map encStr=[])\/∃b,(.slice la l0 l0:Value)=.slice (some b) l0 l0/\(L.map encStr).length=l0 * 1/\∀ j u,(L.map encStr)[j]?=some u->(X4.alloc (.cells #[.string ⟨n.toArray⟩] 9)).drew.cell? (b.add j)=some u:=by
   rcases sY with ⟨h1,h2,h3⟩ | ⟨b,off,h1,h4⟩
   ·refine .inl ⟨?_,by rw[tf,h1];rfl,by rw[h1];rfl⟩;rw[h2,tf,h1];rfl
   ·refine .inr ⟨⟨b,off,none⟩,by rw[h1],by rw[List.length_map,tf];omega,fun j u hu=>?_⟩;rw[List.getElem?_map]at hu
    by_cases hj:j<L.length
    ·rw[io hj]at hu;rw[rY];refine (aa (((ai X4.heap.size X4).alloc (aC _) _).drew) (h4 j hj)).trans ?_;rw[<-hu];rfl
    ·rw[List.getElem?_eq_none (by omega)]at hu;cases hu
  have ⟨Rv,HSh,HL0⟩:=cE hold Qy tf;have qxG:=();exact qjA
 |have HSh:=ab Qy;have zd7:=ab (show ¬lc<l0 by rw[tf];omega);have HL0:=ab tf;have HG:=fG (hg.later sF.o) (aa sF.o c0) (aa sF.o c1) (aa sF.o c2) (aa sF.o c3);have HQq:=ab qL;clear hg c0 c1 c2 c3 sY Qy tf qL x0 x1 x2;gi_wp2_with fail;obtain ⟨Φ,ju⟩:∃Φ:Nat->Value->Bx->World->Prop,Φ=fun k=>(match k with
   | 0=>fun v _ _=>v=.pointer (some ⟨kb,0,none⟩)
   | 1=>fun v _ _=>v=.pointer (some ⟨w.heap.size,3,none⟩)
   | 2=>fun v _ _=>v=.slice (some ⟨b,off,none⟩) 1 se
   | 3=>fun v _ _=>v=.pointer (some ⟨b,off,none⟩)
   | 4=>fun v _ _=>v=.agg #[.int .u8 go,.string gn,.slice ga gl gc,.slice gb gm ge]
   | 5=>fun v _ _=>v=.slice la l0 lc
   | 6=>fun v _ _=>v=.slice la l0 lc
   | 7=>fun v _ _=>v=.int .i64 (l0:Int)
   | 8=>fun v _ _=>v=.slice la l0 lc
   | 9=>fun v _ _=>v=.int .i64 (l0:Int)
   | 10=>fun v _ _=>v=.slice la l0 l0
   | 11=>fun v _ _=>v=.pointer (some ⟨w.heap.size,1,none⟩)
   | 12=>fun v _ _=>v=.string ⟨n.toArray⟩
   | 13=>RowG (W1.heap.size<=·) #[.string ⟨n.toArray⟩] 9 1
   | 14=>NamesG (L ++ [n])
   | 15=>FormG (W1.heap.size<=·) (cw kd (n :: c) g)
   | 16=>BoxG #[.int .u8 0,.string ⟨#[]⟩,.slice none 0 0,.slice none 0 0] 36
   | 17=>fun _ γ w=>SetG (fun cs γ w=>∃q:FQ,cs=#[.int .u8 q.o,.string q.n,.slice q.a q.l q.c,.slice q.b q.m q.e]/\FormV (okB (W1.heap.size<=·) γ w) w q.val (cw kd (n :: c) g)) 36 γ w
   | _=>fun _ _ _=>True):=⟨_,rfl⟩
  have cD:∀ k v γ w en w',Gr γ w en w'->Φ k v γ w->Φ k v en w':=by
   intro k v γ wz en wz' hG;rw[ju]
   match k with
   | 0=>exact id
   | 1=>exact id
   | 2=>exact id
   | 3=>exact id
   | 4=>exact id
   | 5=>exact id
   | 6=>exact id
   | 7=>exact id
   | 8=>exact id
   | 9=>exact id
   | 10=>exact id
   | 11=>exact id
   | 12=>exact id
   | 13=>exact RowG.step hG
   | 14=>exact NamesG.step hG
   | 15=>exact FormG.step hG
   | 16=>exact BoxG.step hG
   | 17=>exact SetG.step (fun cs ⟨q,e,h⟩=>⟨q,e,h.move hG.holds⟩) hG
   | k+18=>exact id
  refine lW Φ (XP 16 17) (IG (fun _=>False) ix.drew) Gr (none,false) (by kernel_rfl) rfl (by kernel_rfl) ⟨Kp.refl _,(fun _ h=>by cases h),fun _ h=>h.elim⟩ (fun k _=>⟨fun _=>rfl,fun _=>rfl⟩) (fun _ _ _ _ hG h=>h.step hG) cD ?steps ?fin
  case steps=>
   intro k hk
   match k,hk with
   | 0,_=>
    refine dK rfl rfl jx rfl (fun a γ wz aT=>⟨rfl,.pointer (some ⟨kb,0,none⟩),γ,wz,?_,Gr.refl,fun _ _ h=>h,?_⟩)
    ·have e0:a.tmps.getD 0 undef=.pointer (some ⟨kb,0,none⟩):=aW ((aT.ou 0 rfl).trans rfl);go_simp
    ·rw[ju];exact rfl
   | 1,_=>
    refine dK rfl rfl jx rfl (fun a γ wz aT=>⟨rfl,.pointer (some ⟨w.heap.size,3,none⟩),γ,wz,?_,Gr.refl,fun _ _ h=>h,?_⟩)
    ·have e4:a.tmps.getD 4 undef=.pointer (some ⟨w.heap.size,0,none⟩):=aW ((aT.ou 4 rfl).trans rfl);go_simp
    ·rw[ju];exact rfl
   | 2,_=>
    refine dK rfl rfl jx rfl (fun a γ wz aT=>⟨rfl,.slice (some ⟨b,off,none⟩) 1 se,γ,wz,?_,Gr.refl,fun _ _ h=>h,?_⟩)
    ·obtain ⟨v83,t83,f83⟩:=aT.val 1 _ 83 rfl rfl (by kernel_rfl);rw[ju]at f83;obtain rfl:=f83;have e83:=aW t83;have c:=aT.inv.1.cell (fun h=>h) (show ix.drew.cell? ⟨w.heap.size,3,none⟩=_ from ag Vm.o 3);go_simp
    ·rw[ju];exact rfl
   | 3,_=>
    refine dK rfl rfl jx rfl (fun a γ wz aT=>⟨rfl,.pointer (some ⟨b,off,none⟩),γ,wz,?_,Gr.refl,fun _ _ h=>h,?_⟩)
    ·obtain ⟨v84,t84,f84⟩:=aT.val 2 _ 84 rfl rfl (by kernel_rfl);rw[ju]at f84;obtain rfl:=f84;have e84:=aW t84;go_simp
    ·rw[ju];exact rfl
   | 4,_=>
    refine dK rfl rfl jx rfl (fun a γ wz aT=>⟨rfl,.agg #[.int .u8 go,.string gn,.slice ga gl gc,.slice gb gm ge],γ,wz,?_,Gr.refl,fun _ _ h=>h,?_⟩)
    ·obtain ⟨v85,t85,f85⟩:=aT.val 3 _ 85 rfl rfl (by kernel_rfl);rw[ju]at f85;obtain rfl:=f85;have e85:=aW t85;have c0:=aT.inv.1.cell (fun h=>h) (show ix.drew.cell? _=_ from HG.o.2.1);have c1:=aT.inv.1.cell (fun h=>h) (show ix.drew.cell? _=_ from HG.o.2.2.1);have c2:=aT.inv.1.cell (fun h=>h) (show ix.drew.cell? _=_ from HG.o.2.2.2.1);have c3:=aT.inv.1.cell (fun h=>h) (show ix.drew.cell? _=_ from HG.o.2.2.2.2);go_simp
    ·rw[ju];exact rfl
   | 5,_=>
    exact qde
   | 6,_=>
    exact qde
   | 7,_=>
    have qxH:=();exact qjB
   | 8,_=>
    exact qde
   | 9,_=>
    exact qjB
   | 10,_=>
    refine dK rfl rfl jx rfl (fun a γ wz aT=>⟨rfl,.slice la l0 l0,γ,wz,?_,Gr.refl,fun _ _ h=>h,?_⟩)
    ·obtain ⟨v87,t87,f87⟩:=aT.val 5 _ 87 rfl rfl (by kernel_rfl);rw[ju]at f87;obtain rfl:=f87;have e87:=aW t87;obtain ⟨v89,t89,f89⟩:=aT.val 7 _ 89 rfl rfl (by kernel_rfl);rw[ju]at f89;obtain rfl:=f89;have e89:=aW t89;obtain ⟨v91,t91,f91⟩:=aT.val 9 _ 91 rfl rfl (by kernel_rfl);rw[ju]at f91;obtain rfl:=f91;have e91:=aW t91;have Gw:=zd7.o;rcases HSh.o with ⟨rfl,rfl,rfl⟩ | ⟨b,off,rfl⟩ <;> go_simp
    ·rw[ju];exact rfl
   | 11,_=>
    refine dK rfl rfl jx rfl (fun a γ wz aT=>⟨rfl,.pointer (some ⟨w.heap.size,1,none⟩),γ,wz,?_,Gr.refl,fun _ _ h=>h,?_⟩)
    ·have e4:a.tmps.getD 4 undef=.pointer (some ⟨w.heap.size,0,none⟩):=aW ((aT.ou 4 rfl).trans rfl);go_simp
    ·rw[ju];exact rfl
   | 12,_=>
    refine dK rfl rfl jx rfl (fun a γ wz aT=>⟨rfl,.string ⟨n.toArray⟩,γ,wz,?_,Gr.refl,fun _ _ h=>h,?_⟩)
    ·obtain ⟨v93,t93,f93⟩:=aT.val 11 _ 93 rfl rfl (by kernel_rfl);rw[ju]at f93;obtain rfl:=f93;have e93:=aW t93;have c:=aT.inv.1.cell (fun h=>h) (show ix.drew.cell? ⟨w.heap.size,1,none⟩=_ from ag Vm.o 1);go_simp
    ·rw[ju];exact rfl
   | 13,_=>
    refine dK rfl rfl jx rfl (fun a γ wz aT=>⟨rfl,.slice (some ⟨wz.heap.size,0,none⟩) 1 1,γ,wz.alloc (.cells #[.string ⟨n.toArray⟩] 9),?_,Gr.keep cI,fun _ _ h=>h,?_⟩)
    ·obtain ⟨v94,t94,f94⟩:=aT.val 12 _ 94 rfl rfl (by kernel_rfl);rw[ju]at f94;obtain rfl:=f94;have e94:=aW t94;go_simp
    ·rw[ju];exact RowG.new aT.inv (fun b hb=>aN (aN z9.o aT.inv.1.size) hb) _ _ _
   | 14,_=>
    refine dK rfl rfl jx rfl (fun a γ wz aT=>?_);obtain ⟨v92,t92,f92⟩:=aT.val 10 _ 92 rfl rfl (by kernel_rfl);rw[ju]at f92;obtain rfl:=f92;have e92:=aW t92;obtain ⟨v95,t95,f95⟩:=aT.val 13 _ 95 rfl rfl (by kernel_rfl);rw[ju]at f95;obtain ⟨rb,rfl,hrb,hrc⟩:=f95;have e95:=aW t95;obtain ⟨v',w',hr,hns,We,hlo⟩:=yM wz n rb hrc la l0 lc L HL0.o (by have:=HL.o.2.1;omega) (HL.o.1.later (sF.o.tr ((ai _ _).drew.tr aT.inv.1.empty))) 66;refine ⟨rfl,v',γ,w',?_,Gr.keep We,fun _ _ h=>h,?_⟩
    ·simp[execOp,resolve,invoke,builtin,Act.eval,e92,e95,hr,Result.andThen]
    ·rw[ju];exact ⟨hns,fun b hb=>(okB.new (L:=fun _=>True) aT.inv (fun _ _=>trivial) b (hlo b hb).1 (hlo b hb).2).1⟩
   | 15,_=>
    refine EY rfl rfl jx rfl rfl (fun a γ wz aT=>?_);obtain ⟨v82,t82,f82⟩:=aT.val 0 _ 82 rfl rfl (by kernel_rfl);rw[ju]at f82;obtain rfl:=f82;have e82:=aW t82;obtain ⟨v86,t86,f86⟩:=aT.val 4 _ 86 rfl rfl (by kernel_rfl);rw[ju]at f86;obtain rfl:=f86;have e86:=aW t86;obtain ⟨v96,t96,f96⟩:=aT.val 14 _ 96 rfl rfl (by kernel_rfl);rw[ju]at f96;have e96:=aW t96;have Wy:=(ai ix.heap.size ix).drew.tr aT.inv.1.empty;refine ⟨rfl,72,#[.pointer (some ⟨kb,0,none⟩),.agg #[.int .u8 go,.string gn,.slice ga gl gc,.slice gb gm ge],v96],?_,?_⟩
    ·go_simp
    ·refine aH.2 ((fd.o g (by simp) (n :: c) (L ++ [n]) _ wz v96 ⟨go,gn,ga,gl,gc,gb,gm,ge⟩ (HL.o.2.2.2.tr (sF.o.tr Wy)) f96.1 (by have:=HL.o.2.1;simp only[cU,eT,List.length_nil];simp only[nodesF,nodesFs]at this;omega) (fun y=>by
      have:=HL.o.2.2.1 y;rw[List.contains_cons,<-this,ip];simp only[List.contains_iff_mem,List.mem_append,cG,List.not_mem_nil,or_false,Bool.or_eq_true,ej];exact Or.comm) (HG.o.1.later Wy)).mono ?_)
     rintro e w' ⟨⟨q,rfl,hq⟩,UA⟩;exact ⟨q.val,rfl,γ,Gr.keep UA,fun _ _ h=>h,by rw[ju];exact FormG.new aT.inv (fun b hb=>aN (aN z9.o aT.inv.1.size) hb) hq⟩
   | 16,_=>
    refine dK rfl rfl jx rfl (fun a γ wz aT=>⟨rfl,.pointer (some ⟨wz.heap.size,0,none⟩),(some wz.heap.size,false),wz.alloc (.cells #[.int .u8 0,.string ⟨#[]⟩,.slice none 0 0,.slice none 0 0] 36),?_,vP _ (aT.psi.1 rfl),rZ,?_⟩)
    ·go_simp
    ·rw[ju];exact vQ
   | 17,_=>
    refine mE rfl jx rfl (fun a γ wz aT=>?_);obtain ⟨v97,t97,f97⟩:=aT.val 15 _ 97 rfl rfl (by kernel_rfl);rw[ju]at f97;obtain ⟨q,rfl,hq⟩:=f97;have e97:=aW t97;obtain ⟨v13,Z5,f13⟩:=aT.val 16 _ 13 rfl rfl (by kernel_rfl);rw[ju]at f13;obtain ⟨bb,rfl,hb1,bG,aG⟩:=f13;have e13:=aW Z5;obtain ⟨UN,Tc⟩:=γ;obtain rfl:Tc=false:=aT.psi.2 rfl;simp only at hb1;subst hb1;have x:=aG rfl;obtain ⟨c0,c1,c2,c3,z0,z1,z2,z3⟩:=dc x;have k6:=dM (W:=wz) (b:=bb) (v0:=.int .u8 q.o) (v1:=.string q.n) (v2:=.slice q.a q.l q.c) (v3:=.slice q.b q.m q.e);have x6:=lZ (v0:=.int .u8 q.o) (v1:=.string q.n) (v2:=.slice q.a q.l q.c) (v3:=.slice q.b q.m q.e) x;refine ⟨rfl,(some bb,true),_,?_,jU k6,oS,?_⟩
    ·simp only[FQ.val]at e97;go_simp
    ·rw[ju];exact ⟨bb,_,rfl,x6,q,rfl,hq.move (jU k6).holds⟩
   | k+18,hk=>exact absurd hk (by simp)
  case fin=>
   intro a γ wz h;obtain ⟨v82,t82,f82⟩:=h.get 0 _ 82 rfl rfl;rw[ju]at f82;obtain rfl:=f82;obtain ⟨v83,t83,f83⟩:=h.get 1 _ 83 rfl rfl;rw[ju]at f83;obtain rfl:=f83;obtain ⟨v84,t84,f84⟩:=h.get 2 _ 84 rfl rfl;rw[ju]at f84;obtain rfl:=f84;obtain ⟨v85,t85,f85⟩:=h.get 3 _ 85 rfl rfl;rw[ju]at f85;obtain rfl:=f85;obtain ⟨v86,t86,f86⟩:=h.get 4 _ 86 rfl rfl;rw[ju]at f86;obtain rfl:=f86;obtain ⟨v87,t87,f87⟩:=h.get 5 _ 87 rfl rfl;rw[ju]at f87;obtain rfl:=f87;obtain ⟨v88,t88,f88⟩:=h.get 6 _ 88 rfl rfl;rw[ju]at f88;obtain rfl:=f88;obtain ⟨v89,t89,f89⟩:=h.get 7 _ 89 rfl rfl;rw[ju]at f89;obtain rfl:=f89;obtain ⟨v90,t90,f90⟩:=h.get 8 _ 90 rfl rfl;rw[ju]at f90;obtain rfl:=f90;obtain ⟨v91,t91,f91⟩:=h.get 9 _ 91 rfl rfl;rw[ju]at f91;obtain rfl:=f91;obtain ⟨v92,t92,f92⟩:=h.get 10 _ 92 rfl rfl;rw[ju]at f92;obtain rfl:=f92;obtain ⟨v93,t93,f93⟩:=h.get 11 _ 93 rfl rfl;rw[ju]at f93;obtain rfl:=f93;obtain ⟨v94,t94,f94⟩:=h.get 12 _ 94 rfl rfl;rw[ju]at f94;obtain rfl:=f94;obtain ⟨v95,t95,f95⟩:=h.get 13 _ 95 rfl rfl;rw[ju]at f95;obtain ⟨v96,t96,f96⟩:=h.get 14 _ 96 rfl rfl;rw[ju]at f96;obtain ⟨v97,t97,f97⟩:=h.get 15 _ 97 rfl rfl;rw[ju]at f97;obtain ⟨v13,Z5,f13⟩:=h.get 16 _ 13 rfl rfl;rw[ju]at f13;have fs:=h.did 17 _ rfl rfl;rw[ju]at fs;obtain ⟨bb,cs,hγ,zw,q,rfl,hq⟩:=fs;obtain ⟨b2,rfl,hb1,_,_⟩:=f13;rw[hγ]at hb1;cases hb1;subst hγ;have ha:=h.act [(82,_),(83,_),(84,_),(85,_),(86,_),(87,_),(88,_),(89,_),(90,_),(91,_),(92,_),(93,_),(94,_),(95,_),(96,_),(97,_),(13,_)] rfl (by simp only[cG,List.not_mem_nil,or_false,forall_eq_or_imp,forall_eq];exact ⟨t82,t83,t84,t85,t86,t87,t88,t89,t90,t91,t92,t93,t94,t95,t96,t97,Z5⟩);rw[ha];have zbT:=h.inv.1.empty;have h0b:=h.inv.2.1;clear ha h cD t82 t83 t84 t85 t86 t87 t88 t89 t90 t91 t92 t93 t94 t95 t96 t97 Z5;simp only[List.foldl_cons,List.foldl_nil,List.setIfInBounds_toArray,List.set_cons_zero,List.set_cons_succ];have ⟨G,Wz⟩:=aj (cw kd (n :: c) g);have hgk:=(ng FV.o.1 FV.o.2 HP.o.2.2.1).2;have SM:rD kd [g]<=1000:=by have:=HP.o.2.2.2.1;unfold wG at this;omega
   have Oz:dt true [g]=true:=by have:=HP.o.1;simp only[okF,ae]at this;exact this.2.2.2.2
   have hbd:=nZ HP.o.2.2.2.2.1 HP.o.2.2.2.2.2 [g] (n :: c) Oz hgk SM;have AA:=rC HP.o.2.2.2.2.1 [g] (n :: c) Oz hgk;simp only[el,nodesFs,nmFs,Bool.and_true,eR,fF,<-Wz]at hbd AA;rw[<-Wz]at hq;have zbU:RS=mW so n [] G:=by rw[XV.o,Ww FV.o.1 FV.o.2 HQq.o,<-Wz]
   have Wy:Below ix.heap.size ix wz:=(ai _ _).drew.tr zbT;have hGn:nodesF G<=1000:=by omega
   have x0:=bN Wy Vm.o;have x1:=bN Wy Oy.o;have x2:=bN Wy zd6.o;have cZ:ix.heap.size<=bb:=(h0b bb rfl).1.resolve_right (fun h=>h);have CF2:=rn G ⟨by omega,hbd.2⟩ (by omega) _ wz q hq;have ox:=cq hGn hbd.2 AA.1 AA.2;have HFq:=ab (hq.move (ok':=(W1.heap.size<=·)) (fun b hb _=>⟨hb.1,rfl⟩));have QA:=cq x0 x1 x2 zw;have Rr:=bx (sF.o.tr Wy) cZ (aN z9.o Wy.size);have HRq:=ab zbU;simp only[FQ.val]at CF2;have DX:=ab CF2;obtain ⟨e0,e1,e2,e3,_,_,_,_⟩:=dc zw;clear hgk SM Oz hbd AA hq zbU Wy hGn x0 x1 x2 cZ zw CF2 zbT h0b Wz fd;have qxI:=();exact qjC):G:=h
theorem qfb(h:G:=by
 have eg:∀ args W,(callFunc 102 args).run Tryz.prog W=.ok (.enter 102 args) W:=enters_of Tryz.func102 (by kernel_rfl) rfl
 first
 |clear qnE;refine fN rfl eg (fun b hb=>by have:=(Wo.o b hb).2;have:=Lw.o.2.1;omega) zdW.o (fun _ _ _ h=>by obtain ⟨q,ps,rfl,_⟩:=h;rfl)
   (fun pre X=>pre.any Wk=false/\X.heap[w.heap.size+1+1]?=some (.cells #[.int .i64 0] 30 (0,0))/\Kp M1 V1 X)
   (fun c pre X=>c=.ret/\pre.any Wk=true/\X.heap[w.heap.size+1+1]?=some (.cells #[.int .i64 6] 30 (0,0))/\Kp M1 V1 X)
   (fun s=>?hI1) (fun c s=>?hIx1) ⟨rfl,Lw.o.2.2.2,Kp.refl _⟩ ?round1 ?done1 ?stop1
  case hI1=>
   exact qjD
  case hIx1=>
   exact qdN
  case round1=>
   have qxJ:=();exact qjE
  case done1=>
   rintro D X hD ⟨h1,h2,h3⟩ ξ hd;have ⟨X2,hX⟩:=aj X;rw[<-hX]at h2 h3 ξ hd ⊢;clear hX X;have Di:Below w.heap.size w X2:=dE Lw.o.1 h3 (fun b hb=>(Wo.o b hb).1);have kP:Marks w.heap.size X2 _:=Hv1.o.2.more (w':=X2) (fun E hE hx=>(h3.same E (bA hx) (fun hm=>by rw[GM.o]at hm;subst hm;rw[Lw.o.2.2.2]at hx;cases hx)).trans hx) hD (aN Lw.o.1.size hD) hd;have xkX:=(h3.same _ (bA Lw.o.2.2.1) (fun h=>by have:=HMk.o;rw[GM.o]at h;omega)).trans Lw.o.2.2.1;have ο:=bN Hv1.o.1 HU1.o.2.2.1;have π:=(h3.same _ (bA ο) (fun h=>by rw[GM.o]at h;omega)).trans ο;have HA1:=ab h1;have td:=fG Di xkX π h2 kP;have ⟨d0,d1,d2,d3⟩:=nI π;clear h1 h2 h3 ξ hd Di kP xkX ο π hD;have ⟨V2,hV2⟩:=aj (iK X2 ⟨so,sn,sa,sl,sc,sb,sm,se⟩ ⟨so,sn,sa,sl,sc,sb,sm,se⟩);obtain ⟨M2,hM2⟩:∃M:Nat->Prop,M=(fun b=>b=w.heap.size+1+1):=⟨_,rfl⟩;have jW:Below X2.heap.size X2 V2:=by rw[hV2];exact gj _ _ _
   have gY:V2.heap.size=X2.heap.size+2:=by rw[hV2,kM]
   have xX2:V2.heap[X2.heap.size]?=some (.cells #[.int .u8 so,.string sn,.slice sa sl sc,.slice sb sm se] 36 (0,0)):=by rw[hV2];exact lP _ _ _
   have xY2:V2.heap[X2.heap.size+1]?=some (.cells #[.int .u8 so,.string sn,.slice sa sl sc,.slice sb sm se] 36 (0,0)):=by rw[hV2];exact lQ _ _ _
   have Wq:=td.o.1.tr jW;have zdY:=(bA td.o.2.2.2.1);have S7:∀ b,M2 b->w.heap.size<=b/\b<X2.heap.size:=fun b hb=>by rw[hM2]at hb;subst hb;omega
   have υ:FormV (fun b=>b<V2.heap.size/\¬M2 b) V2 (FQ.val ⟨so,sn,sa,sl,sc,sb,sm,se⟩) s:=HP.o.2.2.2.2.move (fun b hb hlt=>⟨⟨bJ hb Wq.size,fun hm=>by have:=(S7 b hm).1;omega⟩,Wq.block b hlt⟩);have Yz:=nj s s HP.o.2.2.1 (by have:=HP.o.2.1;omega) M2 V2.heap.size X2.heap.size (X2.heap.size+1) V2 ⟨so,sn,sa,sl,sc,sb,sm,se⟩ ⟨so,sn,sa,sl,sc,sb,sm,se⟩ xX2 (fun h=>by have:=(S7 _ h).2;omega) xY2 (fun h=>by have:=(S7 _ h).2;omega) υ υ;have ⟨zdZ,Wr,HM2⟩:=cE Yz S7 hM2;have I8:=cq Wq gY (bN jW td.o.2.1) (bN jW td.o.2.2.2.1);have Hv2:=aA jW (td.o.2.2.2.2.move (fun D _ hd=>(jW.block D (bA hd)).trans hd));have zd0:=ab hV2;clear hV2 hM2 jW gY xX2 xY2 Wq zdY S7 υ Yz;gi_wp2_with fail;refine aH.2 ((nh ⟨so,sn,sa,sl,sc,sb,sm,se⟩ ⟨so,sn,sa,sl,sc,sb,sm,se⟩ _).mono ?_);rintro e w' ⟨rfl,rfl⟩
   try clear d0 d1 d2 d3
   rw[<-zd0.o];gi_wp2_with fail;have eg:∀ args W,(callFunc 102 args).run Tryz.prog W=.ok (.enter 102 args) W:=enters_of Tryz.func102 (by kernel_rfl) rfl;refine fN rfl eg (fun b hb=>by have:=(Wr.o b hb).2;have:=I8.o.2.1;omega) zdZ.o (fun _ _ _ h=>by obtain ⟨q,ps,rfl,_⟩:=h;rfl)
    (fun pre X=>pre.any Wm=false/\X.heap[w.heap.size+1+1]?=some (.cells #[.int .i64 0] 30 (0,0))/\Kp M2 V2 X)
    (fun c pre X=>c=.ret/\pre.any Wm=true/\X.heap[w.heap.size+1+1]?=some (.cells #[.int .i64 72] 30 (0,0))/\Kp M2 V2 X)
    (fun s=>?hI2) (fun c s=>?hIx2) ⟨rfl,I8.o.2.2.2,Kp.refl _⟩ ?round2 ?done2 ?stop2
   case hI2=>
    exact qjD
   case hIx2=>
    exact qdN
   case round2=>
    exact qjE
   case done2=>
    rintro D X hD ⟨h1,h2,h3⟩ ξ hd;have ⟨X3,hX⟩:=aj X;rw[<-hX]at h2 h3 ξ hd ⊢;clear hX X;have Di:Below w.heap.size w X3:=dE I8.o.1 h3 (fun b hb=>(Wr.o b hb).1);have kP:Marks w.heap.size X3 _:=Hv2.o.2.more (w':=X3) (fun E hE hx=>(h3.same E (bA hx) (fun hm=>by rw[HM2.o]at hm;subst hm;rw[I8.o.2.2.2]at hx;cases hx)).trans hx) hD (aN I8.o.1.size hD) hd;have xkX:=(h3.same _ (bA I8.o.2.2.1) (fun h=>by have:=HMk.o;rw[HM2.o]at h;omega)).trans I8.o.2.2.1;have ο:=bN Hv2.o.1 td.o.2.2.1;have π:=(h3.same _ (bA ο) (fun h=>by rw[HM2.o]at h;omega)).trans ο;have HA2:=ab h1;have HUm:=fG Di xkX π h2 kP;have ⟨d0,d1,d2,d3⟩:=nI π;clear h1 h2 h3 ξ hd Di kP xkX ο π hD;have ⟨nB,hnB⟩:=aj X3.heap.size;have ⟨X4,hX4⟩:=aj (X3.alloc (.cells #[.int .i64 0] 3));have Ee:=cM hX4;have RL:X4.heap.size=nB+1:=by rw[hX4,hnB];simp
    have χ:X4.heap[nB]?=some (.cells #[.int .i64 0] 3 (0,0)):=by rw[hX4,hnB];exact ah rfl
    have LS:=(bA HUm.o.2.2.2.1);have HnB:=ab (show w.heap.size+1+1<nB/\nB+1=X4.heap.size by rw[RL,hnB];exact ⟨LS,rfl⟩);have xs4:=bN Ee HUm.o.2.2.1;have HU3:=fG (HUm.o.1.tr Ee) (bN Ee HUm.o.2.1) xs4 ((Ee.block _ LS).trans HUm.o.2.2.2.1) (HUm.o.2.2.2.2.move (fun D _ hd=>(Ee.block D (bA hd)).trans hd));have ⟨HnU,HX4⟩:=aS χ hX4;clear d0 d1 d2 d3;have ⟨d0,d1,d2,d3⟩:=nI xs4;rw[hX4]at d0 d1 d2 d3;have zd1:=ab hnB;clear hnB hX4 Ee RL χ LS xs4;have ⟨V3,hV3⟩:=aj (iK X4 ⟨so,sn,sa,sl,sc,sb,sm,se⟩ ⟨so,sn,sa,sl,sc,sb,sm,se⟩);obtain ⟨M3,hM3⟩:∃M:Nat->Prop,M=(fun b=>b=w.heap.size+1+1\/b=nB):=⟨_,rfl⟩;have UM:Below X4.heap.size X4 V3:=by rw[hV3];exact gj _ _ _
    have qB:V3.heap.size=X4.heap.size+2:=by rw[hV3,kM]
    have xX3:V3.heap[X4.heap.size]?=some (.cells #[.int .u8 so,.string sn,.slice sa sl sc,.slice sb sm se] 36 (0,0)):=by rw[hV3];exact lP _ _ _
    have xY3:V3.heap[X4.heap.size+1]?=some (.cells #[.int .u8 so,.string sn,.slice sa sl sc,.slice sb sm se] 36 (0,0)):=by rw[hV3];exact lQ _ _ _
    have Ws:=HU3.o.1.tr UM;have zd2:=(bA HU3.o.2.2.2.1);have S8:∀ b,M3 b->w.heap.size<=b/\b<X4.heap.size:=fun b hb=>by rw[hM3]at hb;have:=HnB.o;rcases hb with rfl | rfl <;> omega
    have ψ:FormV (fun b=>b<V3.heap.size/\¬M3 b) V3 (FQ.val ⟨so,sn,sa,sl,sc,sb,sm,se⟩) s:=HP.o.2.2.2.2.move (fun b hb hlt=>⟨⟨bJ hb Ws.size,fun hm=>by have:=(S8 b hm).1;omega⟩,Ws.block b hlt⟩);have YA:=nj s s HP.o.2.2.1 (by have:=HP.o.2.1;omega) M3 V3.heap.size X4.heap.size (X4.heap.size+1) V3 ⟨so,sn,sa,sl,sc,sb,sm,se⟩ ⟨so,sn,sa,sl,sc,sb,sm,se⟩ xX3 (fun h=>by have:=(S8 _ h).2;omega) xY3 (fun h=>by have:=(S8 _ h).2;omega) ψ ψ;have ⟨zd3,Wu,HM3⟩:=cE YA S8 hM3;have S9:=cq Ws qB (bN UM HU3.o.2.1) (bN UM HU3.o.2.2.2.1);have Hv3:=aA UM (HU3.o.2.2.2.2.move (fun D _ hd=>(UM.block D (bA hd)).trans hd));have zd4:=ab hV3;have HnV:=ab (bN UM HnU.o);clear hV3 hM3 UM qB xX3 xY3 Ws zd2 S8 ψ YA;gi_wp2_with fail;refine aH.2 ((nh ⟨so,sn,sa,sl,sc,sb,sm,se⟩ ⟨so,sn,sa,sl,sc,sb,sm,se⟩ _).mono ?_);rintro e w' ⟨rfl,rfl⟩
    try clear d0 d1 d2 d3
    rw[<-zd1.o,<-HX4.o];rw[<-zd4.o];gi_wp2_with fail;have eg:∀ args W,(callFunc 102 args).run Tryz.prog W=.ok (.enter 102 args) W:=enters_of Tryz.func102 (by kernel_rfl) rfl;refine fN rfl eg (fun b hb=>by have:=(Wu.o b hb).2;have:=S9.o.2.1;omega) zd3.o (fun _ _ _ h=>by obtain ⟨q,ps,rfl,_⟩:=h;rfl)
     (fun pre X=>(pre.map Ho).sum<=400/\X.heap[nB]?=some (.cells #[.int .i64 ((pre.map Ho).sum:Nat)] 3 (0,0))/\X.heap[w.heap.size+1+1]?=some (.cells #[.int .i64 0] 30 (0,0))/\Kp M3 V3 X)
     (fun c pre X=>c=.ret/\400<(pre.map Ho).sum/\X.heap[w.heap.size+1+1]?=some (.cells #[.int .i64 3] 30 (0,0))/\Kp M3 V3 X)
     (fun s=>?hI3) (fun c s=>?hIx3) ⟨by simp,by simpa using HnV.o,S9.o.2.2.2,Kp.refl _⟩ ?round3 ?done3 ?stop3
    case hI3=>
     rintro X Y hn ⟨h1,h2,h3,h4⟩;exact ⟨h1,hn.cells h2,hn.cells h3,ot h4 hn⟩
    case hIx3=>
     exact qdN
    case round3=>
     rintro lR pre vs x W hl xj ⟨h1,h2,h3,h4⟩ ⟨q,ps,rfl,NY,hpl,uQ,Es,iG⟩ Ii dq;have qqm:=();exact qaW
    case done3=>
     rintro D X hD ⟨h1,h2,h3,h4⟩ ξ hd;have HE:=ab (show R=0 by rw[HR.o,ak (by rw[<-Wl.o,HA1.o];simp),ak (by have h:=HA2.o;rw[κ.o]at h;rw[h];simp),ak (by rw[<-zbP.o];omega)]);have qva:=();exact qiz
    case stop3=>
     rintro D c pre X _ hD dq ⟨rfl,h2,h3,h4⟩ hd;exact qiz
   case stop2=>
    rintro D c pre X _ hD dq ⟨rfl,h2,h3,h4⟩ hd;have Di:Below w.heap.size w X:=dE I8.o.1 h4 (fun b hb=>(Wr.o b hb).1);have kP:Marks w.heap.size X _:=Hv2.o.2.more (w':=X) (fun E hE hx=>(h4.same E (bA hx) (fun hm=>by rw[HM2.o]at hm;subst hm;rw[I8.o.2.2.2]at hx;cases hx)).trans hx) hD (aN I8.o.1.size hD) hd;have HE:=ab (show R=72 by rw[HR.o,ak (by rw[<-Wl.o,HA1.o];simp),aw (by have:=NZ dq h2;rwa [κ.o]at this)]);have qvQ:=();exact qdm
  case stop1=>
   rintro D c pre X _ hD dq ⟨rfl,h2,h3,h4⟩ hd;have Di:Below w.heap.size w X:=dE Lw.o.1 h4 (fun b hb=>(Wo.o b hb).1);have kP:Marks w.heap.size X _:=Hv1.o.2.more (w':=X) (fun E hE hx=>(h4.same E (bA hx) (fun hm=>by rw[GM.o]at hm;subst hm;rw[Lw.o.2.2.2]at hx;cases hx)).trans hx) hD (aN Lw.o.1.size hD) hd;have HE:=ab (show R=6 by rw[HR.o,aw (by rw[<-Wl.o];exact NZ dq h2)]);have qvR:=();exact qdm
 |first
  |clear qtV;refine fN rfl eg (fun b hb=>by have:=Wg b hb;have:=ig.o;omega) HSq.o (fun _ _ _ h=>by obtain ⟨q,ps,rfl,_⟩:=h;rfl)
    (fun pre X=>∃(k':Bd) (zB v_:Nat),gE aY kj pre=(k',0)/\KnV (fun b=>¬M b) goodF goodT X (K0+1+1+1) (K0+1) (K0+1+1) zB v_ k'/\zB<=PA+pre.length/\v_<=PB+pre.length * 400/\validB k'=true/\X.heap[aB+1]?=some (.cells #[.int .i64 0] 30 (0,0))/\X.heap[aB]?=some (.cells #[.int .i64 0] 3 (0,0))/\Kp M m8 X)
    (fun c pre X=>c=.exit 2/\∃(k':Bd) (er:Int),er≠0/\gE aY kj pre=(k',er)/\X.heap[aB+1]?=some (.cells #[.int .i64 er] 30 (0,0))/\X.heap[aB]?=some (.cells #[.int .i64 j] 3 (0,0))/\Kp M m8 X)
    (fun s=>?hI) (fun c s=>?hIx) ⟨kj,PA,PB,rfl,HI.o.1,by simp,by simp,HI.o.2.2.2.1,HI.o.2.1,HI.o.2.2.1,Kp.refl _⟩ ?round ?done ?stop
   case hI=>
    exact qjr
   case hIx=>
    exact qjF
   case round=>
    have qxK:=();exact qjG
   case done=>
    exact qg1
   case stop=>
    have qxL:=();exact qjH
  |refine fN rfl eg (fun b hb=>by have:=Wg b hb;have:=ig.o;omega) HSq.o (fun _ _ _ h=>by obtain ⟨q,ps,rfl,_⟩:=h;rfl)
    (fun pre X=>∃(k':Bd) (zB v_:Nat),gE dp kj pre=(k',0)/\KnV (fun b=>¬M b) goodF goodT X (K0+1+1+1) (K0+1) (K0+1+1) zB v_ k'/\zB<=PA+pre.length/\v_<=PB+pre.length * 400/\validB k'=true/\X.heap[aB+1]?=some (.cells #[.int .i64 0] 30 (0,0))/\X.heap[aB]?=some (.cells #[.int .i64 0] 3 (0,0))/\Kp M m8 X)
    (fun c pre X=>c=.exit 2/\∃(k':Bd) (er:Int),er≠0/\gE dp kj pre=(k',er)/\X.heap[aB+1]?=some (.cells #[.int .i64 er] 30 (0,0))/\X.heap[aB]?=some (.cells #[.int .i64 j] 3 (0,0))/\Kp M m8 X)
    (fun s=>?hI) (fun c s=>?hIx) ⟨kj,PA,PB,rfl,HI.o.1,by simp,by simp,HI.o.2.2.2.1,HI.o.2.1,HI.o.2.2.1,Kp.refl _⟩ ?round ?done ?stop
   case hI=>
    exact qjr
   case hIx=>
    exact qjF
   case round=>
    exact qjG
   case done=>
    exact qg1
   case stop=>
    exact qjH):G:=h
theorem qjI(h:G:=by
 have qxM:=();exact qjJ):G:=h
theorem qjK(h:G:=by
 go_wp2;go_loopw [5] (fun i wr=>∃k:Nat,k<=k0/\i=.int .i64 k/\Below w.heap.size w wr/\l.take k=m.take k) (fun i _=>k0 - (intOf i).toNat)
 case atStart=>exact ⟨0,aX _,rfl,ai _ _,by simp⟩
 first
 |clear qxN
  case round=>
   have qxO:=();exact qaQ
 |case round=>
   have qxP:=();exact qaQ):G:=h
theorem qjo(h:G:=by
 have t1:(nx == ny)=false:=by simpa using mt
 have t2:(nx != ny)=true:=by simpa using mt
 have HE3:=ab (BH.o fun h=>by subst h;exact mt (congrArg Prod.fst (HX.o.1.trans HX.o.2.symm)));go_wp2
 first
 |clear qw4;have qsC:=();exact qac
 |refine (wpIn_wide (n:=3)).1 ?_;have qrY:=();exact qg3):G:=h
theorem qjb(h:G:=by
 have x1:wr.cell? ⟨w.heap.size,1,none⟩=some (.string ⟨xn.toArray⟩):=aa dx (ag HX.o 1);have y1:wr.cell? ⟨w.heap.size+1,1,none⟩=some (.string ⟨yn.toArray⟩):=aa dx (ag HY.o 1)
 first
 |clear qxQ;exact qc3
 |have hjj:(j:Int)<(p0:Int):=by omega
  have ⟨mx,cz⟩:=aS dx aq;have Cd:w.heap.size<wr.heap.size:=jR x1;have qI:w.heap.size+1<wr.heap.size:=jR y1;have M9:b<wr.heap.size:=jR f0;clear dx aq g0 g1 hpj
  by_cases ha:p1=xn <;> by_cases hb:p2=yn
  ·subst ha;subst hb;exact qi7
  ·subst ha;exact qi8
  ·subst hb;exact qi9
  ·have gG:(p1 == xn)=false:=by simpa using ha
   exact qja):G:=h
theorem qjL(h:G:=by
 have eg:∀ args W,(callFunc 150 args).run Tryz.prog W=.ok (.enter 150 args) W:=enters_of Tryz.func150 (by kernel_rfl) rfl
 first
 |clear qxR;refine fN rfl eg (fun b hb=>by subst hb;exact Rw.o) ZL.o (fun _ _ _ h=>by obtain ⟨v,rfl,_⟩:=h;rfl)
   (fun pre X=>NAt (w.heap.size+1+1) (qw pre) X/\Kp (fun b=>b=w.heap.size+1+1) w1 X) (fun _ _ _=>False) (fun s=>?hI) (fun _ _ _ _ _ h=>h.elim) ⟨by simpa[qw] using HN.o,Kp.refl _⟩ ?round ?done (fun _ _ _ _ h=>h.elim)
  case hI=>
   exact qi5
  case done=>
   rintro D X hD ⟨hn,bi⟩ _ hd;rw[tO]at hn;have c0:=hn.c0;have qxS:=();exact qjM
  case round=>
   have qvO:=();exact qiR
 |refine fN rfl eg (fun b hb=>by subst hb;exact Rw.o) ZL.o (fun _ _ _ h=>by obtain ⟨v,rfl,_⟩:=h;rfl)
   (fun pre X=>MAt (w.heap.size+1) pre X/\Kp (fun b=>b=w.heap.size+1) w1 X) (fun _ _ _=>False) (fun s=>?hI) (fun _ _ _ _ _ h=>h.elim) ⟨HN.o,Kp.refl _⟩ ?round ?done (fun _ _ _ _ h=>h.elim)
  case hI=>
   exact qi5
  case done=>
   rintro D X hD ⟨hn,bi⟩ _ hd;have c0:X.cell? ⟨w.heap.size+1,0,none⟩=some (.int .u32 ((lT (iC f)).toNat:Int)):=ag hn 0;exact qjM
  case round=>
   exact qiR):G:=h
theorem qd8(h:G:=by
 rw[show (j+1) * 4=j * 4+1+1+1+1 by omega,show j * 4+1+1+1+1+1=(j * 4+1)+1+1+1+1 by omega,show j * 4+1+1+1+1+2=(j * 4+2)+1+1+1+1 by omega,show j * 4+1+1+1+1+3=(j * 4+3)+1+1+1+1 by omega]
 first
 |clear qlx;simpa using this
 |simpa[BT,TQ.cells] using this):G:=h
theorem qho(h:G:=by
 go_simp;refine aH.2 ((fd.o a[k] (ap dy) (jw.o.mem (ap dy)) _ W2.drew u (((Nq.o.tr cz.o).tr cv.o).tr (ai _ _).drew) (HU.o.later (cv.o.drew))).mono ?_);rintro _ A ⟨⟨p,rfl,hp⟩,hA⟩
 first
 |clear qsU;have qxT:=();exact qan
 |have qxU:=();exact qan):G:=h
theorem qaq(h:G:=by
 have CR:=ab (fun w:World=>hr ▸ eX s w)
 first
 |clear qlB;have CF:=ab (fun w:World=>hf ▸ Na s[0].toNat w);clear hr hf;have qqb:=();exact qae
 |clear qlC;have CF:=ab (fun w:World=>hf ▸ Na s[0].toNat w);clear hr hf;have qqd:=();exact qae
 |clear qbY;clear hr;have qqe:=();exact qae
 |clear qlD;have CF:=ab (fun w:World=>hf ▸ IF s[0].toNat w);clear hr hf;have qqf:=();exact qae
 |clear qlE;have CF:=ab (fun w:World=>hf ▸ IF s[0].toNat w);clear hr hf;have qqh:=();exact qae
 |clear qlF;have CF:=ab (fun w:World=>hf ▸ AQ s[0].toNat w);clear hr hf;have qqi:=();exact qae
 |have CF:=ab (fun w:World=>hf ▸ AQ s[0].toNat w);clear hr hf;exact qae):G:=h
theorem qdO(h:G:=by
 refine hK _ _ (fun _=>by rw[cR.o];exact H8.o.1) (fun _=>?_);clear hK K Yq iA Ji;refine b_ 9 rfl fun K hK=>?_
 first
 |clear qxV;have qqL:=();exact qaa
 |clear qxW;have qqI:=();exact qaa
 |have qqK:=();exact qaa):G:=h
theorem qjN(h:G:=by
 have g2:W6.cell? ⟨w.heap.size+1+1,2,none⟩=some (.slice gy 0 gz):=ag x6 2;have g3:W6.cell? ⟨w.heap.size+1+1,3,none⟩=some (.slice (some ⟨w8.heap.size,0,none⟩) 1 1):=ag x6 3
 first
 |clear qxX;refine bK (v:=FQ.val ⟨qo,⟨m.toArray⟩,gy,0,gz,some ⟨w8.heap.size,0,none⟩,1,1⟩) (by simp[FQ.val,results,Tryz.results101,go_sem,g0,g1,g2,g3]) rfl ⟨⟨⟨qo,⟨m.toArray⟩,gy,0,gz,some ⟨w8.heap.size,0,none⟩,1,1⟩,rfl,ym.o ▸ HP.o.move (fun b hok hlt=>⟨by omega,k6.same b hlt (by omega)⟩)⟩,Below.kp1 RC.o.below k6 (by omega)⟩
 |refine bK (v:=FQ.val ⟨qo,⟨n.toArray⟩,gy,0,gz,some ⟨w8.heap.size,0,none⟩,1,1⟩) (by simp[FQ.val,results,Tryz.results101,go_sem,g0,g1,g2,g3]) rfl ⟨⟨⟨qo,⟨n.toArray⟩,gy,0,gz,some ⟨w8.heap.size,0,none⟩,1,1⟩,rfl,ym.o ▸ HP.o.move (fun b hok hlt=>⟨by omega,k6.same b hlt (by omega)⟩)⟩,Below.kp1 RC.o.below k6 (by omega)⟩):G:=h
theorem qcX(h:G:=by
 exact qaR):G:=h
theorem qb9(h:G:=by
 obtain ⟨hl,h | ⟨g',cap,cur,hv,_,hg,hn,_,_,hx⟩⟩:=h
 ·obtain ⟨h,_⟩:=h;injection h with h;cases h
 first
 |clear qmk
  ·have i_:n=l.length:=by simp[tY]at hl;omega
   have qxY:=();exact qjO
 |clear qmu
  ·have i_:n=ps.length:=by rw[ic]at hl;omega
   exact qjO
 |·injection hv with _ _ hc;omega):G:=h
theorem qdC(h:G:=by
 simp only[eR,fF,Bool.and_true,aV]at hw hq1 hd;exact qdD):G:=h
theorem qgb(h:G:=by
 unfold FQ.val at hs;simp only[cr,Array.mk.injEq,bP,and_true,Value.int.injEq,true_and,Value.string.injEq]at hs;obtain ⟨rfl,rfl,rfl,rfl⟩:=hs;obtain rfl:=bB.len;obtain rfl:=eb.len
 first
 |clear qqa
  first
  |clear qxD;have bW:=ar.args.len;have qxZ:=();exact qiU
  |clear ql0;have ek:=ar.subs.len;have mI:iC (.mk qo n a s)=[.mk qo n a s] ++ dJ s:=by unfold iC;rfl
   rw[mI]at dq ⊢;have ⟨f,hf⟩:=aj (Fm.mk qo n a s);rw[<-hf]at dq Lk ⊢;have qx0:=();exact qa0
  |clear qmH;have CL:=fun (W:World) (hb:Below w.heap.size w W)=>tg a ar.args (fun t ht=>Er t (ar.args.mem ht)) ok W qa _ qc (bB.later hb);have CS:=fun (W:World) (hb:Below w.heap.size w W)=>Ep s ar.subs (fun t ht=>ih t ht (ar.subs.mem ht)) ok W qb _ qe (eb.later hb);have qx1:=();exact qaN
  |clear qxE;have bW:=ar.args.len;have ek:=ar.subs.len;have kz:=ar.name;have ⟨dT,fQ,AV,u_⟩:=eD bB eb ar.args ar.subs;have qx2:=();exact qaN
  |clear qm4;have ek:=ar.subs.len;have mt:=ar.1;have nO:=pM x (.mk qo n a s);have vR:ea x (.mk qo n a s)=eM x a+iq x s:=rfl;have CT:=ab (fun (W:World) (hb:Below w.heap.size w W)=>sP x a ok W qa _ qc ar.args (bB.later hb));have qx3:=();exact qa0
  |clear qny;have bW:=ar.args.len;have ek:=ar.subs.len;have kz:=ar.name;have tM:n.length<=1000000000:=by omega
   have ko:=ab hok;have qx4:=();exact qa0
  |clear qnR;have ek:=ar.subs.len;have kz:=ar.name;have zcr:=ar.sz;have TZ:UP (.mk qo n a s)=1+n.length / 40+wS a+wT s:=rfl;have ⟨R,hR⟩:=aj (jP a left 0);have hRb:=(np a left 0).2.1;have CT:=fun (W:World) (hb:Below w.heap.size w W)=>TX a ok W qa _ qc left ar.args (bB.later hb) h0 h1;exact qa0
  |have bW:=ar.args.len;exact qiU
 |have bW:=ar.args.len;have ek:=ar.subs.len;have kz:=ar.name;have vO:nodesF (.mk qo n a s)=nodesTs a+nodesFs s+1:=by unfold nodesF;rfl
  have hLs:∀ t∈s,L.length+1+nodesF t<=2000000:=fun t ht=>by have:=ln s t ht;omega
  have ⟨dT,fQ,AV,u_,fd,LC,og⟩:=Zc bB eb ar.args ar.subs ih Vd cD;have LE:=bx Rn hLs (show L.length<=2000000 by omega);exact qaN):G:=h
theorem qeM(h:G:=by
 have HB:=ab aq;clear CB aq gV hp hq c0 c1 hcs iG bj;go_wp2_with (go_at_call 228;refine HC.o.mono ?_;rintro e w4 ⟨rfl,aR⟩;have H4:=ab aR;clear aR)
 first
 |clear qmO;go_ret;exact ⟨⟨_,rfl,by rw[HE.o];simp,by omega,by omega⟩,HB.o.tr H4.o⟩
 |exact qdE):G:=h
theorem qfG(h:G:=by
 have HB:=ab aq;clear CB aq gV hq c0 c1 c2 hx hok;go_wp2_with (go_at_call 193;refine HC.o.mono ?_;rintro e w4 ⟨rfl,aR⟩;have H4:=ab aR;clear aR)
 first
 |clear qos;go_ret;exact ⟨⟨_,rfl,by rw[HE.o];simp⟩,HB.o.tr H4.o⟩
 |exact qdE):G:=h
theorem qe1(h:G:=by
 obtain ⟨es,hk,ho,ht⟩:=h;exact ⟨es,hk,ba ho hb,fun j h1 h2=>⟨(ht j h1 h2).1,(ht j h1 h2).2.move (fun b hok hlt=>⟨hok,hb b hok.1 hlt⟩)⟩⟩):G:=h
theorem qeK(h:G:=by
 exact qcg):G:=h
theorem qch(h:G:=by
 go_enter Tryz.func246,Tryz.ntmps246
 first
 |clear qm7;go_wp2_with (go_at_call 244;refine HC.o.mono ?_;rintro e w4 ⟨⟨rfl,_⟩ | ⟨k,x,hk,_⟩,aR⟩;rotate_left;(exact absurd hk (by simp));have H4:=ab aR;clear aR);go_ret;exact ⟨⟨_,rfl,OwnS.nil _ _⟩,Kp.below H4.o⟩
 |clear qm8;go_wp2_with (go_at_call 244;refine HC.o.mono ?_;rintro e w4 ⟨rfl,aR⟩;have H4:=ab aR;clear aR);go_ret;exact ⟨⟨_,rfl,by rw[HE.o];exact HR.o.later H4.o⟩,Kp.below H4.o⟩
 |go_upto_region 2 with (go_at_call 244;refine HC.o.mono ?_;rintro e w4 ⟨⟨k,x,hk,rfl,hkx,gV⟩,aR⟩;have d_:k<n:=(by rw[HN.o];exact (List.getElem?_eq_some_iff.1 hk).1);have H4:=cq aR hk hkx gV;have U4:((k:Int) == -1)=false:=beq_eq_false_iff_ne.2 (by omega);have KU:IntKind.i64.wrap ((k:Int)+1)=((k+1:Nat):Int):=(by rw[gU _ (by omega)];simp);clear aR hkx gV hk);have cD:=(((DelR.start (keep:=fun x=>!pr x) HB.o.1 HB.o.2.1 HB.o.2.2 (by rw[<-HN.o];exact d_) (fun x hx=>by rw[H4.o.2.2.2 x hx];rfl)).drop (by rw[<-HN.o];exact d_) (by
   obtain ⟨bj,he⟩:=List.getElem?_eq_some_iff.1 H4.o.2.1;rw[he,H4.o.2.2.1];rfl)).later H4.o.1)
  have HST:=ab cD;clear cD;go_wp2;clear U4 KU;go_loopw [5,6,7] (fun s5 s6 _ wr=>∃i j:Nat,s5=.int .i64 i/\s6=.int .i64 j/\i<j/\j<=n/\DelR (fun x=>!pr x) l b cap i j wr/\Kp (fun c=>lo<=c/\some b=some c) w wr) (fun _ s6 _ _=>n - (intOf s6).toNat)
  case atStart=>exact ⟨k,k+1,rfl,by go_num,by omega,by omega,HST.o,Kp.below H4.o.1⟩
  case round=>
   obtain ⟨i,j,rfl,rfl,hij,X_,hD,hK⟩:=hrel
   by_cases hlt:j<n
   ·have le:=cb HN.o hlt;have CB:=HP.o l[j] wr (ap le) hK;have Yo:=fun W h=>DelR.keep (W:=W) (keep:=fun x=>!pr x) (l:=l) (b:=b) (cap:=cap) (i:=i) h le (by rw[<-HN.o];exact hc) (by omega);have Yp:=fun W=>DelR.drop (W:=W) (keep:=fun x=>!pr x) (l:=l) (b:=b) (cap:=cap) (i:=i) (j:=j);obtain ⟨cu,g1,g2,g3,g4,g5⟩:=hD;have cj:wr.cell? ⟨b,j,none⟩=some (.string ⟨l[j].toArray⟩):=(aF g1 j).trans (g5 j le (aC _));have HD:=ab (show DelR (fun x=>!pr x) l b cap i j wr from ⟨cu,g1,g2,g3,g4,g5⟩);have hlz:(j:Int)<(n:Int):=by omega
    have hwj:IntKind.i64.wrap ((j:Int)+1)=((j+1:Nat):Int):=(by rw[gU _ (by omega)];simp);have hwi:IntKind.i64.wrap ((i:Int)+1)=((i+1:Nat):Int):=(by rw[gU _ (by omega)];simp);have HK:=ab hK;have HKD:=aA Yo Yp;have ⟨u,hu⟩:=aj (l[j]);rw[<-hu]at CB cj;have HU:=ab hu;clear Yo Yp g1 g2 g3 g4 g5 hK hu
    cases hq:pr u with
    | true=>
     rw[hq]at CB;have ⟨tb,HQ⟩:=aS CB hq;clear CB hq;go_wp2_with (go_at_fn g;refine tb.o.mono ?_;rintro e w5 ⟨rfl,bh⟩;have H5:=ab bh;clear bh);go_roundw
     case rel=>exact ⟨i,j+1,rfl,by go_num,by omega,by omega,(HKD.o.2 wr HD.o le (by rw[<-HU.o,HQ.o];rfl)).later H5.o,HK.o.trans (Kp.below H5.o)⟩
     case measure=>simp[intOf];omega
    | false=>
     rw[hq]at CB;have ⟨tb,HQ⟩:=aS CB hq;clear CB hq;go_wp2_with (go_at_fn g;refine tb.o.mono ?_;rintro e w5 ⟨rfl,bh⟩;have hD5:=HD.o.later bh;have H5:=aA bh hD5;obtain ⟨cu,g1,g2,g3,g4,g5⟩:=hD5;have ci:w5.cell? ⟨b,i,none⟩=some cu[i]!:=((aF g1 i).trans (by rw[getElem!_pos cu i (by omega)];exact Array.getElem?_eq_getElem (by omega)));have fi:=ac g1 i;clear bh g1 g2 g3 g4 g5);go_roundw
     case rel=>
      refine ⟨i+1,j+1,by go_num,by go_num,by omega,by omega,?_,(HK.o.trans (Kp.below H5.o.1)).trans ⟨rfl,rfl,rfl,by simp,fun c _ hc=>eC _ _ _ _ (by intro e;obtain rfl:c=b:=e;exact hc ⟨hlo,rfl⟩)⟩⟩;have:=HKD.o.1 w5 H5.o.2 (by rw[<-HU.o,HQ.o];rfl);rw[<-HU.o]at this;exact this
     case measure=>simp[intOf];omega
   ·obtain rfl:j=n:=by omega
    have hcl:∀ ty,(Builtin.clear_ #[66] ty #[.slice (some ⟨b,i,none⟩) (j - i) (cap - i)]).run Tryz.prog wr=.ok (.tuple #[]) (wr.setCells b i (List.replicate (j - i) (.string ⟨#[]⟩))):=fun ty=>by
     obtain ⟨cu,g1,g2,_⟩:=hD;refine Lib.run_clear_slice wr _ _ ty _ Tryz.underlying66 (fun W=>Tryz.zeroValue9 W) rfl rfl b i _ _ (by omega) (fun t ht=>?_) (fun t ht=>ac g1 _);rw[(aF g1 (i+t)).trans (Array.getElem?_eq_getElem (by omega))];rfl
    have ⟨HD,HK⟩:=aS hD hK;have AT:i<=j:=by omega
    clear hD hK;go_upto_region 11 with fail;go_wp2_with fail;go_ret;have hD:=HD.o;rw[HN.o]at hD;refine ⟨⟨_,rfl,hD.done hlo (by rw[<-HN.o];exact hc) (by rw[<-HN.o];omega) t7.o.1 _⟩,?_⟩;exact HK.o.trans ((zD b _ i wr).mono fun c _ e=>⟨by rw[e];exact hlo,by rw[e]⟩)):G:=h
theorem qih(h:G:=by
 have g2:W6.cell? ⟨w.heap.size+1,2,none⟩=some (.slice gy 0 gz):=ag x6 2;have g3:W6.cell? ⟨w.heap.size+1,3,none⟩=some (.slice (some ⟨w6.heap.size,0,none⟩) 1 1):=ag x6 3
 first
 |clear quL;refine bK (v:=FQ.val ⟨so,⟨n.toArray⟩,gy,0,gz,some ⟨w6.heap.size,0,none⟩,1,1⟩) (by simp[FQ.val,results,Tryz.results72,go_sem,g0,g1,g2,g3]) rfl ⟨⟨⟨so,⟨n.toArray⟩,gy,0,gz,some ⟨w6.heap.size,0,none⟩,1,1⟩,rfl,HRm.o ▸ H9.o.1.move (fun b hok hlt=>⟨by have h:W1.heap.size<=b:=hok;omega,k6.same b hlt (by have h:W1.heap.size<=b:=hok;omega)⟩)⟩,Below.kp1 H9.o.2.1 k6 (by omega)⟩
 |refine bK (v:=FQ.val ⟨so,⟨m.toArray⟩,gy,0,gz,some ⟨w6.heap.size,0,none⟩,1,1⟩) (by simp[FQ.val,results,Tryz.results72,go_sem,g0,g1,g2,g3]) rfl ⟨⟨⟨so,⟨m.toArray⟩,gy,0,gz,some ⟨w6.heap.size,0,none⟩,1,1⟩,rfl,HRm.o ▸ H9.o.1.move (fun b hok hlt=>⟨by have h:W1.heap.size<=b:=hok;omega,k6.same b hlt (by have h:W1.heap.size<=b:=hok;omega)⟩)⟩,Below.kp1 H9.o.2.1 k6 (by omega)⟩):G:=h
theorem qjP(h:G:=by
 simp only[dif_pos tH,Nat.zero_add];have d0:=ho.cells (g:=g) rfl _ _ c0;have d1:=ho.cells (g:=g) rfl _ _ c1;have d2:=ho.cells (g:=g) rfl _ _ c2;have d3:=ho.cells (g:=g) rfl _ _ c3
 first
 |clear qx5;have d4:=ho.cells (g:=g) rfl _ _ c4;rw[oG]at d0 d1 d2 d3 d4;rw[(ht j tH hj).1]at d0;exact ⟨d0,d1,d2,d3,d4⟩
 |rw[oG]at d0 d1 d2 d3;rw[(ht j tH hj).1]at d0;exact ⟨d0,d1,d2,d3⟩):G:=h
theorem qjQ(h:G:=by
 have qx6:=();exact qaO):G:=h
theorem qjR(h:G:=by
 go_wp2;go_roundw
 case rel=>exact ⟨k+1,by omega,by omega,by go_num,by rw[xJ s k kt hlt,HA.o,HP.o];rfl,E4 HW.o _⟩
 case measure=>simp[intOf];omega):G:=h
theorem qbp(h:G:=by
 have ce:((a.map (da kd.ts sc)).take k).length=k:=by rw[dS];have:=du.o;simp;omega
 first
 |clear qoz;exact qbn
 |clear qoB;have qtI:=();exact qcA
 |clear qx7;have j_:(a.map (da kd.ts sc)).take k=(a.map (da kd.ts sc)):=iP (by have:=du.o;simp;omega);exact qax
 |have j_:(a.map (da kd.ts sc)).take k=(a.map (da kd.ts sc)):=iP (by have:=du.o;simp;omega);have qx8:=();exact qax):G:=h
theorem qap(h:G:=by
 have dN:S W2.drew:=by rw[hS];exact (ai _ _).drew
 first
 |clear qsQ;have qx9:=();exact qbH
 |clear qtp;have ⟨HB,fj⟩:=aS bG aZ;have jx:=eU;have hq1:(1:Int)<(ql:Int):=by omega
  have hqn:¬ql=0:=by omega
  have Lk:(0:Int)<(ql:Int):=by omega
  clear hq iu lU hu hz c0 c1 c2 d0 d1 d2 hx bW qI hI bG x2 hS aZ hok hql;unfold FQ.val;go_enter Tryz.func96,Tryz.ntmps96;go_wp2;rw[<-fj.o];refine (wpIn_wide (n:=3)).1 ?_;refine lF S 13 dN fun jE bV=>?_;refine bw 0 4 (.pointer (some ⟨w.heap.size,2,none⟩)) rfl bV fun cB=>?_;simp only[af];refine c_ 1 5 (.slice (some ⟨b1,o1,none⟩) ql qc) rfl (fun V hX=>by obtain ⟨h0,h1,h2⟩:=pp V hX;go_simp) cB fun fB=>?_;simp only[af];refine bw 2 6 (.pointer (some ⟨b1,o1+0 * 3,none⟩)) rfl fB fun gq=>?_;simp only[af];refine bw 3 7 (.pointer (some ⟨b1,o1+0 * 3+1,none⟩)) rfl gq fun ir=>?_;simp only[af];refine c_ 4 8 (.string ⟨x.toArray⟩) rfl (fun V hX=>by obtain ⟨h0,h1,h2⟩:=pp V hX;go_simp) ir fun jj=>?_;simp only[af];refine bw 6 10 (.pointer (some ⟨w.heap.size,2,none⟩)) rfl jj fun jz=>?_;simp only[af];refine c_ 7 11 (.slice (some ⟨b1,o1,none⟩) ql qc) rfl (fun V hX=>by obtain ⟨h0,h1,h2⟩:=pp V hX;go_simp) jz fun lM=>?_;simp only[af];refine bw 8 12 (.pointer (some ⟨b1,o1+1 * 3,none⟩)) rfl lM fun qh=>?_;simp only[af];refine bw 9 13 (.pointer (some ⟨b1,o1+1 * 3+1,none⟩)) rfl qh fun Eu=>?_;simp only[af];refine c_ 10 14 (.string ⟨y.toArray⟩) rfl (fun V hX=>by obtain ⟨h0,h1,h2⟩:=pp V hX;go_simp) Eu fun vX=>?_;have qya:=();exact qa9
 |clear qtr;have f0:∀ V,S V->V.cell? ⟨nB,0,none⟩=some (.int .i64 S0):=fun V h=>by rw[hS]at h;exact aa h (ag HGs.o.2.1 0)
  have f1:∀ V,S V->V.cell? ⟨w.heap.size,0,none⟩=some (.pointer (some ⟨kb,0,none⟩)):=fun V h=>by rw[hS]at h;exact aa h ck
  have f2:∀ V,S V->V.cell? ⟨W.heap.size,0,none⟩=some (.int .u8 u0)/\V.cell? ⟨W.heap.size,1,none⟩=some (.string u1)/\V.cell? ⟨W.heap.size,2,none⟩=some (.slice u2 u3 u4)/\V.cell? ⟨W.heap.size,3,none⟩=some (.slice u5 u6 u7)/\V.cell? ⟨W.heap.size,4,none⟩=some (.int .u8 v0)/\V.cell? ⟨W.heap.size,5,none⟩=some (.string v1)/\V.cell? ⟨W.heap.size,6,none⟩=some (.slice v2 v3 v4)/\V.cell? ⟨W.heap.size,7,none⟩=some (.slice v5 v6 v7)/\V.cell? ⟨W.heap.size,8,none⟩=some (.slice ca cl cc):=fun V h=>by rw[hS]at h;exact ⟨aa h P0,aa h P1,aa h P2,aa h P3,aa h P4,aa h P5,aa h P6,aa h P7,aa h P8⟩
  have aG:=HSz.o;have rV:=HGs.o.1;have ⟨S1,cB⟩:=aj (S0+bv);have Vg:IntKind.i64.wrap ((S0:Int)+(bv:Int))=(S1:Int):=by rw[gU _ (by omega)];omega
  have S':=ab (cB ▸ zd5.o:((pre ++ [x]).map Ho).sum=S1);have HS:=ab hS;have HWr:=aA Vg aG;clear hS cB ck P0 P1 P2 P3 P4 P5 P6 P7 P8 aG rV Vg;gi_wp2_with fail;refine lF S 5 dN fun jE bV=>?_;refine c_ 0 27 (.int .i64 S0) rfl (fun V hX=>by have g0:=f0 V hX;go_simp) bV fun cB=>?_;simp only[af];refine c_ 1 28 (.pointer (some ⟨kb,0,none⟩)) rfl (fun V hX=>by have g0:=f1 V hX;go_simp) cB fun fB=>?_;simp only[af];refine c_ 2 29 (.agg #[.int .u8 u0,.string u1,.slice u2 u3 u4,.slice u5 u6 u7,.int .u8 v0,.string v1,.slice v2 v3 v4,.slice v5 v6 v7,.slice ca cl cc]) rfl (fun V hX=>by obtain ⟨g0,g1,g2,g3,g4,g5,g6,g7,g8⟩:=f2 V hX;go_simp) fB fun gq=>?_;have qyb:=();exact qaO
 |clear qtt;have ⟨cR,cv,jS⟩:=cE hS eV x1;clear hS eV x0 x1;refine lF S 11 dN fun jE bV=>?_;have qyc:=();exact qjS
 |clear qtx;have cR:=ab hS;clear hS;refine lF S 7 dN fun jE bV=>?_;refine c_ 0 73 (.agg #[.int .u8 go,.string gn,.slice ga gl gc,.slice gb gm ge]) rfl (fun V hX=>by obtain ⟨g0,g1,g2,g3⟩:=ft V hX;go_simp) bV fun cB=>?_;simp only[af];refine bw 1 74 (.pointer (some ⟨w.heap.size,1,none⟩)) rfl cB fun fB=>?_;simp only[af];refine c_ 2 75 (.string ⟨n.toArray⟩) rfl (fun V hX=>by have g0:=fn0 V hX;go_simp) fB fun gq=>?_;simp only[af];refine bw 3 76 (.pointer (some ⟨w.heap.size+1+1+1,1,none⟩)) rfl gq fun ir=>?_;simp only[af];refine c_ 4 77 (.string ⟨m.toArray⟩) rfl (fun V hX=>by have g0:=fm V hX;go_simp) ir fun jj=>?_;have qyd:=();exact qa9
 |clear qtz;have hR:RS=f:=by rw[Gy,hf];simp only[cw,if_true]
  have HC:=ab (fun (V:World) (h:Below W2.heap.size W2 V)=>oU f JD _ V ⟨g0,g1,g2,g3,g4,g5,g6,g7⟩ (oy.later h));have HB:=fG bG gY x1 x2 hR;have ⟨fj,cR⟩:=aS aZ hS;simp only[FQ.val]at HC ⊢;clear hS bG gY x1 x2 hR aZ Gy hf oy JD GC Vn Vo xx fJ jD hq iu lU hL VK Sc eh iI cZ ma kz hs;have qye:=();exact qjT
 |clear qtA;have ⟨cR,cv,jS⟩:=cE hS eV x1;clear hS eV x0 x1;refine lF S 8 dN fun jE bV=>?_;exact qjS
 |clear qtZ;exact qbH
 |clear quh
  first
  |clear qtD;have HC:=ab (fun (V:World) (h:Below W2.heap.size W2 V)=>lq f wm.o.2.1 _ V ⟨g0,g1,g2,g3,g4,g5,g6,g7⟩ (wm.o.1.later h));have qyf:=();exact qjU
  |have HC:=ab (fun (V:World) (h:Below W2.heap.size W2 V)=>rn f wm.o.2.1 (by have:=wm.o.2.2;omega) _ V ⟨g0,g1,g2,g3,g4,g5,g6,g7⟩ (wm.o.1.later h));exact qjU
 |have ⟨cR,cv,fh⟩:=cE hS eV gR;clear hS eV gR xb
  first
  |clear quY;refine lF S 7 dN fun jE bV=>?_
   refine bw 0 94 (.pointer (some ⟨w.heap.size+1+1+1,3,none⟩)) rfl bV fun cB=>?_;simp only[af];refine c_ 1 95 (.slice ra k rc) rfl (fun V hX=>by have g0:=f0 V hX;go_simp) cB fun fB=>?_;simp only[af];refine c_ 2 96 (.agg #[.int .u8 u.o,.string u.n,.slice u.a u.l u.c,.slice u.b u.m u.e]) rfl (fun V hX=>by obtain ⟨g0,g1,g2,g3⟩:=f1 V hX;go_simp) fB fun gq=>?_;simp only[af];refine bw 3 97 (.string ⟨nx.toArray⟩) rfl gq fun ir=>?_;simp only[af];refine c_ 4 98 (.agg #[.bool zv,.string zn,.slice za zl zc]) rfl (fun V hX=>by obtain ⟨h0,h1,h2⟩:=fu V hX;go_simp) ir fun jj=>?_;exact qa9
  |refine lF S 9 dN fun jE bV=>?_
   refine bw 0 27 (.pointer (some ⟨w.heap.size+1+1+1,2,none⟩)) rfl bV fun cB=>?_;simp only[af];refine c_ 1 28 (.slice gy k1 gz) rfl (fun V hX=>by have g0:=f0 V hX;go_simp) cB fun fB=>?_;simp only[af];refine c_ 2 29 (.agg #[.bool u.v,.string u.n,.slice u.a u.l u.c]) rfl (fun V hX=>by obtain ⟨g0,g1,g2⟩:=f1 V hX;go_simp) fB fun gq=>?_;simp only[af];refine bw 3 30 (.string ⟨nx.toArray⟩) rfl gq fun ir=>?_;simp only[af];refine c_ 4 31 (.agg #[.bool zv,.string zn,.slice za zl zc]) rfl (fun V hX=>by obtain ⟨h0,h1,h2⟩:=fu V hX;go_simp) ir fun jj=>?_;simp only[af];refine bw 5 32 (.agg #[.string ⟨nx.toArray⟩,.bool zv,.string zn,.slice za zl zc]) rfl jj fun jz=>?_;simp only[af];refine b_ 6 rfl fun K hK=>?_;go_simp;refine hK _ _ (fun _=>by rw[cR.o];exact ((ai W2.heap.size W2).drew).alloc (aC _) _) (fun _=>?_);clear hK K;refine b_ 7 rfl fun K hK=>?_;go_simp;refine aH.2 ((Jd a[k1] (AV.o.mem (ap dy)) nx Ns.o z RD.o.1 _ _ _ u ⟨zv,zn,za,zl,zc⟩ W2.heap.size 0 1 ((HU.o.later cv.o.drew).later cI) ((((HZ.o.later cz.o).later cv.o).later ((ai _ _).drew)).later cI) (ag (ah rfl) 0) (ag (ah rfl) 1) (ag (ah rfl) 2) (ag (ah rfl) 3)).mono ?_);rintro _ A ⟨⟨p,rfl,lA⟩,hA⟩;have hp:TermV (W2.heap.size<=·) A p.val (lG nx z a[k1]):=lA.move (fun b hok _=>⟨by simp at hok;omega,rfl⟩);clear lA;have bZ:Below W2.heap.size W2 A:=(((ai W2.heap.size W2).drew).alloc (aC _) _).trans (hA.mono (by simp));exact qar):G:=h
theorem qjV(h:G:=by
 have he:l=m:=by
  have h1:l.take k=l:=by rw[du.o];exact cK
  have h2:m.take k=m:=by rw[du.o,Vq.o];exact cK
  rw[<-h1,ht,h2]
 have ⟨HE,HB⟩:=aS he aq;clear he aq ht;go_wp2;go_ret
 first
 |clear qyg;exact ⟨az (by rw[HE.o,pA]),HB.o⟩
 |exact ⟨az (by rw[HE.o];exact ((oM _ _).2 rfl).symm),HB.o⟩):G:=h
theorem qbv(h:G:=by
 obtain ⟨S,hS⟩:∃S:World->Prop,S=fun V=>Below wr.heap.size wr V:=⟨_,rfl⟩
 first
 |clear qyh;have xb:=hF.box;have k0:=ag jD.box 0;have r0:=ag xb 0;have mlt:=jD.fs.lt;have ff:∀ V,S V->V.cell? ⟨w.heap.size+1,0,none⟩=some (.slice ra j rc)/\V.cell? ⟨kb,0,none⟩=some (.map (some mF))/\(Instr.lookup 145 (.map (some mF)) (.string ⟨nm.toArray⟩) false).run Tryz.prog V=.ok (.agg #[.int .u8 g0,.string g1,.slice g2 g3 g4,.slice g5 g6 g7]) V:=fun V h=>by
   exact qjW
  have qyi:=();exact qjX
 |clear qyj;have xb:=hF.box;have k0:=ag jD.box 1;have r0:=ag xb 1;have mlt:=jD.ts.lt;have ff:∀ V,S V->V.cell? ⟨w.heap.size+1,1,none⟩=some (.slice ra j rc)/\V.cell? ⟨kb,1,none⟩=some (.map (some mT))/\(Instr.lookup 146 (.map (some mT)) (.string ⟨nm.toArray⟩) false).run Tryz.prog V=.ok (.agg #[.bool g0,.string g1,.slice g2 g3 g4]) V:=fun V h=>by
   exact qjW
  exact qjX
 |clear qp8;have p3:∀ V,S V->V.cell? ⟨W.heap.size,3,none⟩=some (.slice (some ⟨bs,os,none⟩) sm se):=fun V h=>by rw[hS]at h;exact aa h (ag zw 3)
  have p7:∀ V,S V->V.cell? ⟨W.heap.size,7,none⟩=some (.slice (some ⟨bf,of,none⟩) fm fe):=fun V h=>by rw[hS]at h;exact aa h (ag zw 7)
  have qs:∀ V,S V->V.cell? ⟨bs,os+k * 4,none⟩=some (.int .u8 uo)/\V.cell? ⟨bs,os+k * 4+1,none⟩=some (.string un)/\V.cell? ⟨bs,os+k * 4+2,none⟩=some (.slice ua ul uc)/\V.cell? ⟨bs,os+k * 4+3,none⟩=some (.slice ub um ue):=fun V h=>by rw[hS]at h;exact ⟨aa h d0,aa h d1,aa h d2,aa h d3⟩
  have qf:∀ V,S V->V.cell? ⟨bf,of+k * 4,none⟩=some (.int .u8 vo)/\V.cell? ⟨bf,of+k * 4+1,none⟩=some (.string vn)/\V.cell? ⟨bf,of+k * 4+2,none⟩=some (.slice va vl vc)/\V.cell? ⟨bf,of+k * 4+3,none⟩=some (.slice vb vm ve):=fun V h=>by rw[hS]at h;exact ⟨aa h g0,aa h g1,aa h g2,aa h g3⟩
  have dN:S wr.drew:=by rw[hS];exact (ai _ _).drew
  first
  |clear qwJ;have hkd:Kp M W3 wr.drew:=bi.trans (Kp.below (ai _ _).drew);have VA:=fd.o ss[k] (ap y') fs[k] (Yc.o.mem (ap Xy)) ps (by have:=qY.o.2.1 ss[k] (ap y');omega) M B l J Jx xs (pre ++ ([X] ++ aJ Ai (ss.take k) (fs.take k))) wr.drew ⟨⟨uo,un,ua,ul,uc,ub,um,ue⟩,⟨vo,vn,va,vl,vc,vb,vm,ve⟩,ca,cl,cc⟩
    (fun b hb=>by have:=DT.o.1 b hb;show b<wr.heap.size;have:=BR.o.2.size;omega) ⟨by have:=DT.o.2.1;show l<wr.heap.size;have:=BR.o.2.size;omega,DT.o.2.2⟩ (fun t=>(HJ.o.1 t).mono (by show W.heap.size<=wr.heap.size;have:=BR.o.2.size;omega)) (fun t=>(HJ.o.2 t).mono (by show W.heap.size<=wr.heap.size;have:=BR.o.2.size;omega))
    (HY.o.later (BR.o.2.trans hkd)) (hu.kp (BR.o.2.trans hkd)) (hv.kp (BR.o.2.trans hkd)) (HPz.o.kp hkd) (by rw[show (ps).reverse=Ai from tb.o];exact vj) (HJ.o.1 _ _ _ (Nw.below (ai _ _).drew) hj)
   rw[show (ps).reverse=Ai from tb.o]at VA;have quM:=();exact qij
  |have hkd:Kp M X5 wr.drew:=bi.trans (Kp.below (ai _ _).drew);have VA:=fd.o ss[k] (ap y') fs[k] (Yc.o.mem (ap Xy)) (ps ++ [(sn,fn)]) (by have:=qY.o.2.1 ss[k] (ap y');simp;omega) M B l J Jx xs (pre ++ ([X] ++ aJ Ai (ss.take k) (fs.take k))) wr.drew ⟨⟨uo,un,ua,ul,uc,ub,um,ue⟩,⟨vo,vn,va,vl,vc,vb,vm,ve⟩,(some ⟨g,0,none⟩),(cl+1),cap⟩
    (fun b hb=>by have:=DT.o.1 b hb;show b<wr.heap.size;have:=BR.o.2.size;omega) ⟨by have:=DT.o.2.1;show l<wr.heap.size;have:=BR.o.2.size;omega,DT.o.2.2⟩ (fun t=>(HJ.o.1 t).mono (by show W.heap.size<=wr.heap.size;have:=BR.o.2.size;omega)) (fun t=>(HJ.o.2 t).mono (by show W.heap.size<=wr.heap.size;have:=BR.o.2.size;omega))
    (HY.o.later (BR.o.2.trans hkd)) (hu.kp (BR.o.2.trans hkd)) (hv.kp (BR.o.2.trans hkd)) (HPz.o.kp hkd) (by rw[show ((ps ++ [(sn,fn)])).reverse=Ai from tb.o];exact vj) (HJ.o.1 _ _ _ (Nw.below (ai _ _).drew) hj)
   rw[show ((ps ++ [(sn,fn)])).reverse=Ai from tb.o]at VA;exact qij
 |have f0:∀ V,S V->V.cell? ⟨b5,3,none⟩=some (.slice ra k rc):=fun V h=>by rw[hS]at h;exact aa h (gR.cell 3)
  have f1:∀ V,S V->V.cell? ⟨b,off+k * 4,none⟩=some (.int .u8 u.o)/\V.cell? ⟨b,off+k * 4+1,none⟩=some (.string u.n)/\V.cell? ⟨b,off+k * 4+2,none⟩=some (.slice u.a u.l u.c)/\V.cell? ⟨b,off+k * 4+3,none⟩=some (.slice u.b u.m u.e):=fun V h=>by rw[hS]at h;exact ⟨aa h d0,aa h d1,aa h d2,aa h d3⟩
  have f2:∀ V,S V->V.cell? ⟨w.heap.size,3,none⟩=some (.slice (some ⟨b,off,none⟩) m0 qe):=fun V h=>by rw[hS]at h;exact aa h p3
  clear d0 d1 d2 d3;have dN:S wr.drew:=by rw[hS];exact (ai _ _).drew
  have ⟨cR,cv,fh⟩:=cE hS eV gR;clear hS eV gR;go_wp2;have qyk:=();exact qjY):G:=h
theorem qdP(h:G:=by
 obtain ⟨b,off,u,rfl,_,hu,c0,c1,c2⟩:=HL.o.get bj;have hf:=HF.o.mem (ap bj);have p_:=fd.o l[k] (ap bj)
 first
 |clear qyl;rw[I6 bj]at ht;obtain ⟨⟨xv,xn,xa⟩,hx⟩:∃y,l[k]=y:=⟨_,rfl⟩;rw[hx]at hu hf p_ ht;obtain ⟨s1,h2,fC⟩:=aM.1 hu;obtain ⟨uv,un,ua,ul,uc⟩:=u;have qvL:=();exact qbS
 |clear qym;have js:=Aj x bj;have hb1:=rv x (l.take (k+1));have bG:=jT l (k+1);have qyn:=();exact qdQ
 |have YV:l.drop k=l[k] :: l.drop (k+1):=gB bj;rw[YV]at hcut;have qyo:=();exact qdQ):G:=h
theorem qjZ(h:G:=by
 refine b_ 19 rfl fun K hK=>?_;have ⟨y0,y1,y2,z0,z1,z2⟩:=fV H7.o.1;go_simp;refine eK hK ?_;clear hK K y0 y1 y2 z0 z1 z2;have qsT:=();exact qhm):G:=h
theorem qj0(h:G:=by
 rw[<-Gy];obtain ⟨⟨g0,g1,g2,g3,g4,g5,g6,g7⟩,oy,JD,GC,Vn,Vo,xx⟩:=fJ.formOf (x:=n) kz;simp only[FQ.val]at xx;have ⟨f,hf⟩:=aj (formOf kd.fs n);rw[<-hf]at oy JD GC Vn Vo
 first
 |clear qyp;have qty:=();exact qag
 |obtain ⟨x,y,fC,K1,GZ,aT⟩:=kh hs;have ⟨dm,zC⟩:=aj (bI x);have hR:RS=if ea dm f=0 then f else e9 dm (termOf kd.ts y) f:=by rw[Gy,hf,zC,fC,sr];rfl
  rw[<-zC]at aT;exact qcQ):G:=h
theorem qj1(h:G:=by
 exact ⟨trivial,((Kp.below H4.o.1).trans D1).from _,rfl,by rw[wL HG.o.1];exact NW.o.symm,jl H4.o.2,(HG.o.2.2.trans (Kp.below H4.o.1)).trans D1⟩):G:=h
theorem qiI(h:G:=by
 have ⟨W3,dF⟩:=aj (W2.alloc (.cells #[.int .u8 GO,.string GP,.slice GQ GR GS,.slice GT GU GV] 36)).drew;have qH:Below W2.heap.size W2 W3:=by rw[dF];exact cI.drew
 first
 |clear qvu;have x3:=bN qH H2.o.2.1;have y3:W3.heap[W2.heap.size]?=some (.cells #[.int .u8 GO,.string GP,.slice GQ GR GS,.slice GT GU GV] 36 (0,0)):=by rw[dF];exact ah rfl
  obtain ⟨i0,i1,i2,i3,_,_,_,_⟩:=dc x3;have Au:=ab (HIN.o W3 qH);have O7:=ab (fun (V:World) (h:Below W3.heap.size W3 V)=>jV dm f Jy.fit _ V ⟨GO,GP,GQ,GR,GS,GT,GU,GV⟩ ((oy.later qH).later h));simp only[FQ.val]at O7;have ⟨n0,tW⟩:=aj (ea dm f);rw[<-tW]at hE O7;have H3:=bx qH y3 (H2.o.2.2.later qH);have HE3:=ab hE;clear hlk hg aG hE x3 y3 Ip aT zC fC K1 GZ JB QB oy Jy tW qH;have quX:=();exact qbO
 |have i0:=ag (bN qH H2.o.2.1) 0;have bD:=ab (H2.o.1.tr qH);clear hlk hg aG hE oy Jy qH;have qir:=();exact qbO):G:=h
theorem qiZ(h:G:=by
 have qyq:=();exact qaI):G:=h
theorem qj2(h:G:=by
 refine b_ 10 rfl fun K hK=>?_;have ⟨y0,y1,y2,y3,z0,z1,z2,z3⟩:=dc H7.o.1;go_simp;refine eK hK ?_;clear hK K y0 y1 y2 y3 z0 z1 z2 z3;exact qhm):G:=h
theorem qdR(h:G:=by
 refine wpOpIn_step ho (fun K' Gc=>?_);rw[aw hw];refine ⟨fun f _=>sU f,?_⟩;rw[hr,Oper.semAt_none,mV]
 first
 |clear qyr;exact qj3
 |clear qys;exact Gc _ _ (hK undef en w' (fun _=>rfl) hG Ot ju)
 |refine ⟨fun h0=>(by rw[p9]at h0;cases h0),hc.mono ?_⟩
  rintro e w' ⟨v,rfl,en,hG,Ot,ju⟩;exact qj3):G:=h
theorem qhv(h:G:=by
 have ⟨g4,g5⟩:=AN cF g0 g2;rcases l9.ts.look Tryz.underlying9 Tryz.underlying146 kg (x:=n) (by omega) with ⟨hg,hl⟩ | ⟨u,vu,hg,hvu,hl⟩
 first
 |clear qs8
  ·have l1:=(hl w4.drew rfl).1;have qyt:=();exact qj4
  ·obtain ⟨⟨xv,xn,xa,xl,xc⟩,rfl,hxv,hpu⟩:=hvu;simp only[TQ.val]at hl;have l1:=(hl w4.drew rfl).1;exact qj4
 |·have l1:=(hl w3.drew rfl).1;have l2:=(hl (w3.alloc (.cells #[.bool false,.string ⟨#[]⟩,.slice none 0 0] 43)).drew (bH _ _ _ (by have:=l9.ts.lt;omega))).1;have O3:=ab (show R=true by rw[HE3.o,hg];rfl);have xr:=ab (cF.drew);clear l9 x3 cF hl hg;go_region
   all_goals
    go_wp2;go_ret;exact ⟨by rw[O3.o];rfl,(H1.o.1.tr H3.o).tr xr.o⟩
  ·obtain ⟨⟨xv,xn,xa,xl,xc⟩,rfl,hxv,hpu⟩:=hvu;simp only[TQ.val]at hl;have l1:=(hl w3.drew rfl).1;have l2:=(hl (w3.alloc (.cells #[.bool false,.string ⟨#[]⟩,.slice none 0 0] 43)).drew (bH _ _ _ (by have:=l9.ts.lt;omega))).1;have O3:=ab (show R=false by rw[HE3.o,hg];rfl);have xr:=ab ((((ai w3.heap.size w3).alloc (aC _) (.cells #[.bool xv,.string xn,.slice xa xl xc] 43))).drew);clear l9 x3 cF hl hg hxv hpu;go_region
   all_goals
    go_wp2;go_ret;exact ⟨by rw[O3.o];rfl,(H1.o.1.tr H3.o).tr xr.o⟩):G:=h
theorem qjw(h:G:=by
 obtain ⟨b,off,⟨go,gn,ga,gl,gc,gb,gm,ge⟩,rfl,_,hg,c0,c1,c2,c3⟩:=fQ.o.get (j:=0) (by simp);simp only[Nat.zero_mul,Nat.add_zero,List.getElem_cons_zero]at hg c0 c1 c2 c3
 first
 |clear qxy;obtain ⟨GC,Vn,Vo,uN⟩:=HS4.o g (by simp);have RG:=u_.o.mem (List.mem_singleton.2 rfl);have hpb:PutB w (.cells #[.int .u8 qo,.string ⟨n.toArray⟩,.slice qa 0 qc,.slice (some ⟨b,off,none⟩) 1 qe] 36 (0,0)) (.cells #[.bool zv,.string zn,.slice za zl zc] 43 (0,0)) (.cells #[.int .u8 0,.string ⟨#[]⟩,.slice none 0 0,.slice none 0 0] 36 (0,0)) (.cells #[.int .u8 qo,.string ⟨n.toArray⟩,.slice gy 0 gz,.slice none 0 0] 36 (0,0)) ix:=⟨sF.o,x0,xu,x1,x2⟩;have CF:=rn g RG (by omega) ok ix ⟨go,gn,ga,gl,gc,gb,gm,ge⟩ (hg.later sF.o);simp only[FQ.val]at CF;have ⟨DX,HG⟩:=aS CF hg;have ox:=fG GC Vn Vo uN RG;have HC:=cq c0 c1 c2 c3;have ⟨d0,d1,d2,d3⟩:=lH sF.o c0 c1 c2 c3;have p3:=ag x0 3;have HPB:=ab hpb;clear CF hg GC Vn Vo uN RG c0 c1 c2 c3 x0 x1 xu x2 hpb;exact qjC
 |obtain ⟨la,lc,hLv,Sc,sY⟩:=HL.o.1;have ⟨l0,tf⟩:=aj L.length;rw[<-tf]at hLv;subst hLv;exact qjz):G:=h
theorem qbz(h:G:=by
 rw[fU bj kK]at ht;have ⟨e,he⟩:=aj (fZ ps.reverse xa[k] ya[k]);rw[<-he]at ht
 first
 |clear qra;have qop:=();exact qab
 |clear qrb;have qoF:=();exact qab
 |clear qrd;have qoh:=();exact qab
 |have qoE:=();exact qab):G:=h
theorem qdZ(h:G:=by
 cases e with
 | returned u=>exact ⟨keep a hy u,by rw[<-Act.put_comm a v u h2];exact he⟩
 | panicked c=>exact hQ _ _ _ he
 | outgrown=>exact he):G:=h
theorem qcJ(h:G:=by
 go_wp2;go_ret;exact ⟨az (qU (by rw[oH h1];exact HF.o)).symm,⟨_,rfl⟩⟩):G:=h
theorem qav(h:G:=by
 intro t
 induction t using Tm.ind with
 | h v n a ih=>
 first
 |clear qmw;intro ar ok w tq Vd cD hq;obtain ⟨qv,qn,qa,ql,qc⟩:=tq;obtain ⟨s,hs,bB⟩:=aM.1 hq;have qrK:=();exact qam
 |clear qmS;intro lN dD im him W nF nT k tq uq d_ qW iG qF huv;obtain ⟨v',n',a'⟩:=im;obtain ⟨s1,h1,iu⟩:=aM.1 qF;obtain ⟨s2,h2,GJ⟩:=aM.1 huv;obtain ⟨tv,tn,ta,tl,tc⟩:=tq;obtain ⟨uv,un,ua,ul,uc⟩:=uq;have qs2:=();exact qaG
 |clear qmX;intro lN ok w q hb hq;have qyu:=();exact qda
 |clear qm0;intro hn;simp only[jJ,ae,br]at hn;unfold qR;simp only[nodesT];split
  ·have:=hk n hn.1;omega
  ·have h2:ew k a<=nodesTs a * 1000:=by
    have ma:=fP.1 hn.2;clear hn
    induction a with
    | nil=>simp[ew]
    | cons u a Q8=>
     have qyv:=();exact qj5
   omega
 |clear qm1;intro lN ok w q hb hq;have qyw:=();exact qda
 |clear qm9;intro hn;simp only[jJ,ae,br]at hn;unfold lh;simp only[nodesT];split
  ·have h1:=hk n hn.1;have h2:=mZ (termOf k n);have h3:=eH (aE (termOf k n));have h4:=List.length_filter_le ct (di (aE (termOf k n)));omega
  ·have h2:(dX k a).length<=nodesTs a * 1000:=by
    have ma:=fP.1 hn.2;clear hn
    induction a with
    | nil=>simp[dX]
    | cons u a Q8=>
     exact qj5
   omega
 |clear qna;intro lN Im ok w q hb hq;simp only[nodesT]at Im;exact qda
 |intro h;unfold mi
  by_cases hv:(v && n == x)=true
  ·rw[aw hv];rfl
  ·rw[ak hv];simp only[uX,hv,bO,↓reduceIte,Nat.zero_add]at h;clear hv;generalize 0=i
   induction a generalizing i with
   | nil=>simp[eM]at h
   | cons u a ihs=>
    simp only[eM]at h;unfold ev
    cases hp:mi x u with
    | some p=>rfl
    | none=>
     exact qe5):G:=h
theorem qaF(h:G:=by
 obtain ⟨qv,qn,qa,ql,qc⟩:=q;obtain ⟨s,hs,bB⟩:=aM.1 hq
 first
 |clear qlU;have qry:=();exact qam
 |clear qlV;have qrA:=();exact qam
 |clear qlY;have qrB:=();exact qam
 |clear qmq;have qrI:=();exact qam
 |clear qmG;have qrM:=();exact qam
 |have qrO:=();exact qam):G:=h
theorem qbb(h:G:=by
 intro o' QO a γ w aT K hK;obtain rfl:o'=o:=Option.some.inj (QO.symm.trans ho)
 first
 |clear qln;obtain ⟨hw,v,en,w',mV,hG,Ot,ju⟩:=h a γ w aT;have qyr:=();exact qdR
 |clear qlo;obtain ⟨hw,en,w',mV,hG,Ot,ju⟩:=h a γ w aT;have qys:=();exact qdR
 |clear qlp;obtain ⟨hw,f,args,mV,hc⟩:=h a γ w aT;exact qdR
 |obtain ⟨v,h1,rfl⟩:=hd a γ w aT;have hw:Region.wanted o' (yielded ops a.tmps)=false:=by simp[Region.wanted,hg,yielded,hj,KM,h1];exact PX hx
  refine wpOpIn_step ho (fun K' Gc=>?_);rw[ak (by rw[hw];exact Bool.false_ne_true)];exact ⟨fun _ _=>trivial,Gc _ _ (hK undef γ w (fun _=>rfl) Gr.refl (fun _ _ h=>h) (by rcases hp with h | h <;> rw[h] <;> trivial))⟩):G:=h
theorem qbe(h:G:=by
 rcases cG.1 h with rfl | h
 ·omega
 ·have:=ih h;omega):G:=h
theorem qdH(h:G:=by
 rw[<-cQ]at x6 k6 ⊢;clear cQ;have g0:W6.cell? ⟨w.heap.size+1,0,none⟩=some (.int .u8 so):=ag x6 0
 first
 |clear qwP;have quK:=();exact qay
 |clear qwQ;have g1:W6.cell? ⟨w.heap.size+1,1,none⟩=some (.string ⟨m.toArray⟩):=ag x6 1;exact qih
 |exact qay):G:=h
theorem qfu(h:G:=by
 have h1:DataW.trod enc Tryz.prog W 0 iv held n 9 [c1]=some x1:=hf 1 _ rfl;have h2:DataW.trod enc Tryz.prog W 0 iv held n 33 [c2]=some x2:=hf 2 _ rfl
 first
 |clear qn1;obtain ⟨v,hv,rfl⟩:=DataW.trod_bool Tryz.underlying4 h0;simp only[bP,and_true]at hv;subst hv;obtain ⟨s,rfl,hs,_⟩:=n9 h1;obtain ⟨l,hl,hln,hlm⟩:=tE h2 (fun m hm=>ih m (by omega));refine ⟨.mk v s l,aM.2 ⟨_,rfl,hl⟩,?_,?_⟩
  ·simp only[nodesT,cC,List.map_nil,Rows.uptoBulk,Rows.uptoBulkAll];omega
  ·simp only[jJ,cC,List.map_nil,Rows.uptoBulk,Rows.uptoBulkAll,ae,br];exact ⟨by omega,ef (by omega) _ hlm⟩
 |have h3:DataW.trod enc Tryz.prog W 0 iv held n 34 [c3]=some x3:=hf 3 _ rfl;obtain ⟨o,hv,rfl,ho⟩:=DataW.trod_int Tryz.underlying5 h0;simp only[bP,and_true]at hv;subst hv;have ho:0<=o/\o<=255:=by
   simp[Lit.wf,IntKind.min,IntKind.max,IntKind.signed,IntKind.bits]at ho;omega
  obtain ⟨s,rfl,hs,_⟩:=n9 h1;obtain ⟨l,hl,hln,hlm⟩:=tE h2 (fun m _=>xd m);obtain ⟨k,hk,d_,kK⟩:=EP h3 (fun m hm=>ih m (by omega));refine ⟨.mk o s l k,aQ.2 ⟨_,_,rfl,hl,hk⟩,?_,?_⟩
  ·simp only[nodesF,cC,List.map_nil,Rows.uptoBulk,Rows.uptoBulkAll];omega
  ·simp only[li,cC,List.map_nil,Rows.uptoBulk,Rows.uptoBulkAll,ae,br];exact ⟨ho,by omega,ef (by omega) _ hlm,jd (by omega) _ kK⟩):G:=h
theorem qj6(h:G:=by
 have dN:S wz.drew:=by rw[hS];exact aq.drew
 have d0:=aa aq g0;have HX:=ab (hx.later (jt.o.1.tr aq));have ⟨HB,HR,cR,HM,HNf⟩:=qt aq hR hS hm vO;have Wf:M<=40:=by omega
 first
 |clear qyx;clear hS hR aq hx g0 c0 c1 c2 c3 c4 hm vO hMM;go_wp2;refine (wpIn_wide (n:=3)).1 ?_;have jx:=eU;refine lF S 17 dN fun jE bV=>?_;refine bw 0 23 (.slice ra M rc) rfl bV fun cB=>?_;simp only[af];refine bw 1 24 (.pointer (some ⟨w.heap.size,0,none⟩)) rfl bV fun cB=>?_;simp only[af];refine c_ 2 25 (.slice (some ⟨b,off,none⟩) k0 qc) rfl (fun V hX=>by have g:=f0 V hX;go_simp) bV fun cB=>?_;simp only[af];refine bw 3 26 (.int .i64 k) rfl bV fun cB=>?_;simp only[af];refine bw 4 27 (.pointer (some ⟨b,off+k * 5,none⟩)) rfl bV fun cB=>?_;simp only[af];refine bw 5 28 (.pointer (some ⟨b,off+k * 5+1,none⟩)) rfl bV fun cB=>?_;simp only[af];refine c_ 6 29 (.agg #[.int .u8 x.o,.string x.n,.slice x.a x.l x.c,.slice x.b x.m x.e]) rfl (fun V hX=>by obtain ⟨_,g0,g1,g2,g3⟩:=ff V hX;go_simp) bV fun cB=>?_;simp only[af];refine bw 7 30 (.pointer (some ⟨w.heap.size,0,none⟩)) rfl bV fun cB=>?_;simp only[af];refine c_ 8 31 (.slice (some ⟨b,off,none⟩) k0 qc) rfl (fun V hX=>by have g:=f0 V hX;go_simp) bV fun cB=>?_;simp only[af];refine bw 9 32 (.int .i64 k) rfl bV fun cB=>?_;simp only[af];refine bw 10 33 (.pointer (some ⟨b,off+k * 5,none⟩)) rfl bV fun cB=>?_;simp only[af];refine bw 11 34 (.pointer (some ⟨b,off+k * 5,none⟩)) rfl bV fun cB=>?_;simp only[af];refine c_ 12 35 (.string ⟨nm.toArray⟩) rfl (fun V hX=>by obtain ⟨g0,_⟩:=ff V hX;go_simp) bV fun cB=>?_;simp only[af];refine b_ 13 rfl fun K hK=>?_;go_simp;refine aH.2 ((GA ⟨nm.toArray⟩ none 0 0 _).mono ?_);rintro _ A ⟨rfl,hA⟩;have bZ:Below W1.heap.size W1 A:=HB.o.drew.tr hA;have hwA:Below wz.heap.size wz A:=((ai wz.heap.size wz).drew).trans hA;have qyy:=();exact qar
 |clear hS hR aq hx g0 c0 c1 c2 c3 hm vO hMM;go_wp2;refine (wpIn_wide (n:=3)).1 ?_;have jx:=eU;refine lF S 18 dN fun jE bV=>?_;refine bw 0 46 (.slice ra M rc) rfl bV fun cB=>?_;simp only[af];refine bw 1 47 (.pointer (some ⟨w.heap.size,1,none⟩)) rfl bV fun cB=>?_;simp only[af];refine c_ 2 48 (.slice (some ⟨b,off,none⟩) n2 qe) rfl (fun V hX=>by have g:=f0 V hX;go_simp) bV fun cB=>?_;simp only[af];refine bw 3 49 (.int .i64 j) rfl bV fun cB=>?_;simp only[af];refine bw 4 50 (.pointer (some ⟨b,off+j * 4,none⟩)) rfl bV fun cB=>?_;simp only[af];refine bw 5 51 (.pointer (some ⟨b,off+j * 4,none⟩)) rfl bV fun cB=>?_;simp only[af];refine c_ 6 52 (.string ⟨nm.toArray⟩) rfl (fun V hX=>by obtain ⟨g0,_⟩:=ff V hX;go_simp) bV fun cB=>?_;simp only[af];refine bw 7 53 (.pointer (some ⟨w.heap.size,1,none⟩)) rfl bV fun cB=>?_;simp only[af];refine c_ 8 54 (.slice (some ⟨b,off,none⟩) n2 qe) rfl (fun V hX=>by have g:=f0 V hX;go_simp) bV fun cB=>?_;simp only[af];refine bw 9 55 (.int .i64 j) rfl bV fun cB=>?_;simp only[af];refine bw 10 56 (.pointer (some ⟨b,off+j * 4,none⟩)) rfl bV fun cB=>?_;simp only[af];refine bw 11 57 (.pointer (some ⟨b,off+j * 4+1,none⟩)) rfl bV fun cB=>?_;simp only[af];refine c_ 12 58 (.agg #[.bool x.v,.string x.n,.slice x.a x.l x.c]) rfl (fun V hX=>by obtain ⟨_,g0,g1,g2⟩:=ff V hX;go_simp) bV fun cB=>?_;simp only[af];refine b_ 13 rfl fun K hK=>?_;go_simp;have m7:Below W1.heap.size W1 (wz.drew.alloc (.cells #[.bool x.v,.string x.n,.slice x.a x.l x.c] 43)):=HB.o.drew.alloc HB.o.size _;exact qaM):G:=h
theorem qdK(h:G:=by
 refine b_ 8 rfl fun K hK=>?_;go_simp;refine aH.2 (ZE.o.mono ?_);rintro e w8 ⟨⟨v8,rfl,Ji⟩,Yq⟩
 first
 |clear qxj;have iA:Below W5.heap.size W5 w8:=lO (w:=W5) H7.o Yq;have H8:=aA iA (Ji.base (lo':=W5.heap.size) (by exact aC _));have qxV:=();exact qdO
 |clear qxm;have iA:Below w3.heap.size w3 w8:=lO (w:=w3) H7.o Yq;have H8:=aA iA Ji;have qxW:=();exact qdO
 |have iA:Below W2.heap.size W2 w8:=lO (w:=W2) H7.o Yq;have H8:=aA iA Ji;exact qdO):G:=h
theorem qi4(h:G:=by
 refine ⟨(s,f),a,rfl,iu,?_,?_,?_⟩
 ·simp only[cC,List.map_nil,Rows.uptoBulk,Rows.uptoBulkAll];omega
 ·simp only[cC,List.map_nil,Rows.uptoBulk,Rows.uptoBulkAll];omega
 first
 |clear qv8
  ·exact jK (by simp only[cC,List.map_nil,Rows.uptoBulk,Rows.uptoBulkAll];omega) _ hf3
 |·exact kw (by simp only[cC,List.map_nil,Rows.uptoBulk,Rows.uptoBulkAll];omega) _ hf3):G:=h
theorem qgv(h:G:=by
 clear CP;gi_wp2_with fail;refine aH.2 (LN.o.mono ?_);rintro e w8 ⟨⟨⟨po,pn,pa,pl,pc,pb,pm,pe⟩,rfl,XW⟩,iA⟩;clear tu0 tu1 tu2 tt0 tt1 tt2 tt3;have ZY:=iA.size
 first
 |clear qq3;have hwX:=vT.o.below.size;have qyz:=();exact qj7
 |have hwX:=GE.o.below.size;exact qj7):G:=h
theorem qaN(h:G:=by
 have ⟨k0,cd⟩:=aj a.length;have ⟨m0,dQ⟩:=aj s.length
 first
 |clear qvS;have qyA:=();exact qdS
 |clear qyB;rw[<-cd,<-dQ]at Lk;rw[<-dQ]at ek eb;unfold FQ.val at Lk ⊢;simp only at Lk ⊢;rw[<-cd,<-dQ];have ⟨gt,nK⟩:=aS dQ dq;have jf:Below W.heap.size W (W.alloc (.cells #[.int .u8 qo,.string ⟨n.toArray⟩,.slice qa k0 qc,.slice qb m0 qe] 36)):=cI;have KP:J pre (W.alloc (.cells #[.int .u8 qo,.string ⟨n.toArray⟩,.slice qa k0 qc,.slice qb m0 qe] 36)):=hJ pre _ _ (Nw.below jf) hj;have sG:=hY pre #[.agg #[.int .u8 qo,.string ⟨n.toArray⟩,.slice qa k0 qc,.slice qb m0 qe]] f _ KP (Kp.below jf) ⟨⟨qo,⟨n.toArray⟩,qa,k0,qc,qb,m0,qe⟩,rfl,Lk.kp (Kp.below jf)⟩ (ke dq);have HX:=ab (show (W.alloc (.cells #[.int .u8 qo,.string ⟨n.toArray⟩,.slice qa k0 qc,.slice qb m0 qe] 36)).heap[W.heap.size]?=some (.cells #[.int .u8 qo,.string ⟨n.toArray⟩,.slice qa k0 qc,.slice qb m0 qe] 36 (0,0)) from ah rfl);have ⟨dY,Rg,HJ,DT,HY,HF⟩:=QJ jf eb hJ hM hY hf;obtain ⟨fn,tmps,assign,body,hy,IP⟩:=j8 2 sG;clear hq Lk bB eb ar ih cd dQ hj jf KP sG hJ hM hY dq mI hf;refine nG Tryz.func151 ?_;simp only[Tryz.ntmps151,Nat.reduceAdd,Nat.reduceSub,lE];have jx:=eU;gi_wp2;refine IP.mono ?_;rintro e W2 ⟨rfl,zh,iO⟩;have hWl:¬M W.heap.size:=fun h=>by have:=DT.o _ h;omega
  have pw:=(iO.same W.heap.size (by simp) hWl).trans HX.o;have p3:W2.cell? ⟨W.heap.size,3,none⟩=some (.slice qb m0 qe):=ag pw 3;have As:=aA zh ((Kp.below dY.o).trans iO);clear zh iO pw IP hy;gi_wp2;gi_loopw [14] (fun i wr=>∃k:Nat,k<=m0/\i=.int .i64 k/\J (pre ++ ([f] ++ dJ (s.take k))) wr/\Kp M W wr) (fun i _=>m0 - (intOf i).toNat)
  case atStart=>exact ⟨0,aX _,rfl,by simpa[dJ] using As.o.1,As.o.2⟩
  case round=>
   exact qau
 |clear qx1;rw[<-cd]at CL;rw[<-dQ]at CS;have ⟨HCL,uP,du,gt⟩:=eD CL CS cd dQ;clear hq bB eb ar ih CL CS;unfold FQ.val;rw[<-cd,<-dQ];clear cd dQ;refine nG Tryz.func51 ?_;simp only[Tryz.ntmps51,Nat.reduceAdd,Nat.reduceSub,lE];have jx:=eU;gi_wp2;have ⟨W2,aZ⟩:=aj ((w.alloc (.cells #[.int .u8 qo,.string ⟨n.toArray⟩,.slice qa k0 qc,.slice qb m0 qe] 36)).alloc (.cells #[.int .u8 0,.string ⟨#[]⟩,.slice none 0 0,.slice none 0 0] 36));have eV:=k_ aZ;have x0:=qM aZ;have x1:=jH aZ;rw[<-aZ];clear aZ;have qts:=();exact qag
 |clear qx2;have qyC:=();exact qdS
 |clear qyD;have hM:=U6 sc on n a s left bz bc;rw[<-cd,<-dQ]at hM;have ⟨BX,DY⟩:=aj (okF sc (.mk on n a s) && (decide ((nodesF (.mk on n a s):Int)<=left) && decide (bc+depthF (.mk on n a s)<=bz+1)));rw[<-DY]at hM ⊢;have HB:=ab (show Below w.heap.size w (w.alloc (.cells #[.int .u8 on,.string ⟨n.toArray⟩,.slice qa k0 qc,.slice qb m0 qe] 36)) from cI);have Li:JAt J sc left bz (w.alloc (.cells #[.int .u8 on,.string ⟨n.toArray⟩,.slice qa k0 qc,.slice qb m0 qe] 36)):=hJ.later HB.o;have zc4:J<w.heap.size:=(bA hJ);have ⟨dT,Rg,HJ,HT⟩:=eD bB eb hJ ht;rw[<-cd]at bW;rw[<-dQ]at ek;clear hq bB eb ar ih hok hJ ht;unfold FQ.val;rw[<-cd,<-dQ];have ⟨du,gt,HN⟩:=cE cd dQ mt;clear cd dQ mt
  by_cases Oz:1<=left/\bc<=bz
  ·obtain ⟨U2,Zq⟩:=Oz;have C1:=ab (IK J sc left bz bc _ Li U2 h1 Zq);have iO:Kp (fun c=>c=J) w ((w.alloc (.cells #[.int .u8 on,.string ⟨n.toArray⟩,.slice qa k0 qc,.slice qb m0 qe] 36)).setCell ⟨J,1,none⟩ (.int .i64 (left - 1))):=(Kp.below HB.o).trans (mY _);have zh:=Li.set (left - 1);have hx:FBox w.heap.size on n (.slice qa k0 qc) (.slice qb m0 qe) ((w.alloc (.cells #[.int .u8 on,.string ⟨n.toArray⟩,.slice qa k0 qc,.slice qb m0 qe] 36)).setCell ⟨J,1,none⟩ (.int .i64 (left - 1))):=(eC _ _ _ _ (by show w.heap.size≠J;omega)).trans (ah rfl);have pu:=bx iO zh hx;have ⟨W2,aZ⟩:=aj ((w.alloc (.cells #[.int .u8 on,.string ⟨n.toArray⟩,.slice qa k0 qc,.slice qb m0 qe] 36)).setCell ⟨J,1,none⟩ (.int .i64 (left - 1)));rw[<-aZ]at pu C1;clear iO zh hx Li aZ;have g0:=pu.o.2.2.c0;have g1:=pu.o.2.2.c1;have g2:=pu.o.2.2.c2;have g3:=pu.o.2.2.c3;have Mt:Tabs W0 W2:=HT.o.kp pu.o.1 (fun b hb=>by subst hb;exact Wd)
   by_cases ho:on<17
   ·have QO:((on:Int)<17):=by omega
    have zbK:¬((17:Int)<=(on:Int)):=by omega
    obtain ⟨q0,q1,q2,q3,q4⟩:=Mt.t0.rows on ho;obtain ⟨Rz,hr3,hr4⟩:=Ll on;obtain ⟨⟨r0,r1,r2,r3,r4⟩,de⟩:∃x,x=rowOp on:=⟨_,rfl⟩;rw[<-de]at hM q0 q1 q2 q3 q4 Rz hr3 hr4;simp only at hM q0 q1 q2 q3 q4 Rz hr3 hr4;clear de Mt;have hX3:FBox w.heap.size on n (.slice qa k0 qc) (.slice qb m0 qe) (W2.alloc (.cells #[.bool r0,.bool r1,.int .u8 r2,.int .i64 r3,.int .i64 r4] 173)):=pu.o.2.2.later cI;have hR3:RBox W2.heap.size r0 r1 r2 r3 r4 (W2.alloc (.cells #[.bool r0,.bool r1,.int .u8 r2,.int .i64 r3,.int .i64 r4] 173)):=ah rfl;have hK3:Kp (fun c=>c=J) w (W2.alloc (.cells #[.bool r0,.bool r1,.int .u8 r2,.int .i64 r3,.int .i64 r4] 173)):=pu.o.1.trans (Kp.below cI);have hJ3:JAt J sc (left - 1) bz (W2.alloc (.cells #[.bool r0,.bool r1,.int .u8 r2,.int .i64 r3,.int .i64 r4] 173)):=pu.o.2.1.later cI;have ⟨ie,rF,nL,xz⟩:=eD hX3 hR3 hK3 hJ3;clear hX3 hR3 hK3 hJ3;have y0:=ie.o.c0;have y1:=ie.o.c1;have y2:=ie.o.c2;have y3:=ie.o.c3;have yj:=xz.o.c0;have j0:=pu.o.2.1.c0;have hPn:¬w.heap.size=W2.heap.size:=by have:=(bA pu.o.2.2);omega
    have zfx:¬W2.heap.size=w.heap.size:=by omega
    have hJn:¬J=W2.heap.size:=by have:=(bA pu.o.2.1);omega
    have zfy:¬W2.heap.size=J:=by omega
    cases r0 with
    | true=>
     rw[Bool.true_or,dz]at hM
     cases dD:qP r2 n with
     | false=>
      have qj8:=();exact qbU
     | true=>
      have qyE:=();exact qbU
    | false=>
     rw[Bool.false_or]at hM
     cases sc with
     | false=>
      have qiM:=();exact qaD
     | true=>
      rw[dz]at hM
      cases r1 with
      | false=>
       have qiM:=();exact qaD
      | true=>
       rw[dz]at hM
       cases dD:qP r2 n with
       | false=>
        have qj8:=();exact qbU
       | true=>
        exact qbU
   ·have QO:¬((on:Int)<17):=by omega
    have zbK:((17:Int)<=(on:Int)):=by omega
    rw[OB zbK]at hM;have qvE:=();exact qaD
  ·have C1:=ab (Ng J sc left bz bc _ Li h0 h1 Oz);have HE:=ab (show BX=false by
    rw[DY,Bool.and_eq_false_iff];right;rw[Bool.and_eq_false_iff]
    by_cases hl:1<=left
    ·right;exact qgN
    ·left;simp only[decide_eq_false_iff_not];omega)
   clear Li tN p9 Oz hM DY;exact qak
 |have ⟨RS,Gy⟩:=aj (e8 ps.reverse ins (.mk qo n a s));exact qdS):G:=h
theorem qhw(h:G:=by
 exact qjA):G:=h
theorem qau(h:G:=by
 obtain ⟨k,hk,rfl,hj,bi⟩:=hrel
 by_cases hlt:k<m0
 first
 |clear qmi
  ·have bj:=cb gt.o hlt;obtain ⟨b,off,rfl,jy,c1⟩:=HV.o.get bj;have d1:=bi.cell jy c1;have ⟨x,hx⟩:=aj (xs[k]);rw[<-hx]at d1;have eW:xs.take (k+1)=xs.take k ++ [x]:=by rw[hx];exact mh bj
   have sG:=HY.o (xs.take k) #[.string ⟨x.toArray⟩] x wr hj bi rfl (by rw[hx];exact I2 bj);obtain ⟨fn,tmps,assign,body,hy,IP⟩:=j8 2 sG;have ⟨HS,lj⟩:=aS eW bi;clear eW bi hj sG c1 hx;gi_wp2;refine IP.mono ?_;rintro e W2 (⟨rfl,zh,iO⟩ | ⟨h,_⟩)
   ·have HH:=aA zh iO;clear zh iO IP hy d1;gi_wp2;exact qj9
   ·exact h.elim
  ·obtain rfl:m0=k:=by omega
   have ht:xs.take m0=xs:=by rw[gt.o];exact cK
   rw[ht]at hj;have HH:=aA hj bi;clear hj bi ht;gi_wp2;exact ⟨rfl,.tuple #[],by simp[results,Tryz.results249,go_sem],⟨_,rfl⟩,.inl HH.o⟩
 |clear qqy
  ·have y':k<ss.length:=by have:=gt.o;omega
   have qwI:=();exact qji
  ·obtain rfl:k=m0:=by omega
   exact qiF
 |clear qyF
  ·have bj:=cb gt.o hlt;have qyG:=();exact qby
  ·obtain rfl:m0=k:=by omega
   have qiA:=();exact qbQ
 |clear qtl
  ·have bj:=cb gt.o hlt;have qyH:=();exact qby
  ·obtain rfl:m0=k:=by omega
   have qiA:=();exact qbQ
 |clear qyI
  ·have bj:=cb gt.o hlt;have qyJ:=();exact qby
  ·obtain rfl:m0=k:=by omega
   exact qbQ
 |clear qtm
  ·have bj:=cb gt.o hlt;exact qby
  ·obtain rfl:m0=k:=by omega
   exact qbQ
 |clear qvo
  ·have y':k<ss.length:=by have:=gt.o;omega
   exact qji
  ·obtain rfl:k=m0:=by omega
   exact qiF
 |·have bj:=cb gt.o hlt;have qoI:=();exact qbq
  ·obtain rfl:k=m0:=by omega
   have ht:s.take k=s:=by rw[gt.o];exact cK
   rw[ht]at hj;have HH:=aA hj bi;clear hj bi ht;gi_wp2;exact qbh):G:=h
theorem qjh(h:G:=by
 have hEl:EB<A1.heap.size:=(bA Fx);rw[<-qi,<-yq];have HA:=cq ug Fx NH hEl;refine hK _ _ (fun _=>by rw[cR.o];exact HA.o.1) (fun _=>?_);clear hK K qi yq ug Fx NH hEl
 first
 |clear qwH;refine b_ 16 rfl fun K hK=>?_
  have qyK:=();exact qka
 |refine b_ 7 rfl fun K hK=>?_
  exact qka):G:=h
theorem qkb(h:G:=by
 refine bw 0 18 (.pointer (some ⟨kb,0,none⟩)) rfl bV fun cB=>?_;simp only[af];refine bw 1 19 (.pointer (some ⟨kb,0,none⟩)) rfl cB fun fB=>?_;simp only[af]
 first
 |clear qyL;refine bw 2 20 (.pointer (some ⟨kb,1,none⟩)) rfl fB fun gq=>?_
  simp only[af];refine c_ 3 21 (.map (some mT)) rfl (fun V hX=>by obtain ⟨h0,h1,h2⟩:=ff V hX;go_simp) gq fun ir=>?_;simp only[af];refine bw 4 22 (.pointer (some ⟨w.heap.size,1,none⟩)) rfl ir fun jj=>?_;have qyM:=();exact qkc
 |refine bw 2 20 (.pointer (some ⟨kb,0,none⟩)) rfl fB fun gq=>?_
  simp only[af];refine c_ 3 21 (.map (some mF)) rfl (fun V hX=>by obtain ⟨h0,h1,h2⟩:=ff V hX;go_simp) gq fun ir=>?_;simp only[af];refine bw 4 22 (.pointer (some ⟨w.heap.size+1,1,none⟩)) rfl ir fun jj=>?_;exact qkc):G:=h
theorem qi3(h:G:=by
 simp only at d1 d2 d3;have ⟨W5,e_⟩:=aj (wr.alloc (.cells #[.string ⟨nm.toArray⟩,.bool qv,.string qn,.slice qa ql qc] 47));have bh:=cM e_
 first
 |clear qv7;have j4:=d_.later bh.drew;have hf5:TermV (fun b=>b<w.heap.size) W5.drew (TQ.val ⟨qv,qn,qa,ql,qc⟩) b.ts[j].2:=hf.move (fun b hb hlt=>⟨hb,((jD.trans (Kp.below bh.drew)).same b hlt (gV b hb))⟩);obtain ⟨w6,cD,Jn,Jo,sd⟩:=j4.storeT (by simp <;> omega) (by omega) (x:=nm) (by rw[dD];exact HP.o.2.1 _ (ap bj)) hf5 (HP.o.2.2.2.2.2 _ (ap bj)) (l':=b.ts.take (j+1)) (fun y=>by rw[yo HP.o.2.2.2.1 bj,<-dD]);have x8:=ag d_.box 1;have x9:=aa bh x8;have GF:=aa bh.drew x8;have HK:=aA Jn ((bi.trans (Kp.below bh.drew)).trans (Jo.mono (fun b _ h=>by rw[HM.o];exact .inr h)));have pH:=ab e_;rw[e_]at x9 GF;have D3:(j:Int)<(n2:Int):=by omega
  clear d_ j4 Jn bi Jo sd hf hf5 bh jD gV hok dD e_ bj c0 c1 c2 c3;rw[pH.o]at cD;unfold TQ.val at cD;go_wp2;go_region;go_wp2;go_roundw
  case rel=>exact ⟨j+1,by omega,by go_num,HK.o.2,HK.o.1⟩
  case measure=>simp[intOf];omega
 |have x5:=bS e_;have D3:(j:Int)<(n2:Int):=by omega
  have jB:(nm,g)∈b.ts:=by rw[dD,hg];exact ap le
  have CM:=Gh nm W5 (by omega);exact qiv):G:=h
theorem qdN(h:G:=by
 rintro X Y hn ⟨h1,h2,h3,h4⟩;exact ⟨h1,h2,hn.cells h3,ot h4 hn⟩):G:=h
theorem qew(h:G:=by
 have l1:a.length=a'.length:=by have:=congrArg List.length h2;rwa [kH,kH]at this
 have l2:s.length=s'.length:=by have:=congrArg List.length h3;rwa [m5,m5]at this
 first
 |clear ql9;refine ⟨⟨rfl,l1,l2⟩,.inr hq,(Q8 l1).2 h2,?_⟩;rw[aw hq];refine (lL s s' ((n,n') :: c) ht.2 hu.2 l2).2 ?_;simp only[cC,vD,List.length_map,eT];exact h3
 |refine ⟨⟨rfl,l1,l2⟩,.inl h1,(Q8 l1).2 h2,?_⟩;rw[ak hq];exact (lL s s' c ht.2 hu.2 l2).2 h3):G:=h
theorem qhI(h:G:=by
 have t1:W3.cell? ⟨w.heap.size+1,1,none⟩=some (.string ⟨n.toArray⟩):=ag xt 1;have t2:W3.cell? ⟨w.heap.size+1,2,none⟩=some (.slice qa k0 qc):=ag xt 2
 first
 |clear qtQ;rw[<-cd,<-dQ];have HX:=bx xp xt x1;clear hq bB eb ar ih Vd cD cd dQ Gy hi' aG rV xp xt x1 dF hL Rn vO hLs;go_enter Tryz.func91,Tryz.ntmps91;go_wp2;rw[<-Af.o];have ⟨W1,bY⟩:=aj (W3.alloc (.cells #[.int .u8 qo,.string ⟨n.toArray⟩,.slice none 0 0,.slice none 0 0] 36));have Ej:=cM bY;have hxr:W1.heap[w.heap.size+1+1+1]?=some (.cells #[.int .u8 qo,.string ⟨n.toArray⟩,.slice none 0 0,.slice none 0 0] 36 (0,0)):=by rw[bY];exact ah (by have:=bD.o.2;omega)
  have qyN:=();exact qkd
 |rw[<-cd];clear hq bB ar ih Vd cD cd hR aG rV xp x1 dF
  cases qv with
  | true=>
   have BE:Hd (R=if ins.contains n then some (aP n) else (dv ps.reverse n).map aP):=ab (by rw[HR.o];simp[iB]);clear fd;have qyO:=();exact qke
  | false=>
   have BE:Hd (R=(eq ps.reverse ins a).map (Tm.mk false n)):=ab (by rw[HR.o];simp[iB]);exact qke):G:=h
theorem qj9(h:G:=by
 go_roundw
 case rel=>exact ⟨k+1,by omega,by go_num,by rw[HS.o];exact HH.o.1,lj.o.trans HH.o.2⟩
 case measure=>simp[intOf];omega):G:=h
theorem qaw(h:G:=by
 have cv:=ab (HB.o.trans (x'.below.mono HB.o.size))
 first
 |clear qpn;have ⟨bb,cZ⟩:=aj (Op.bytesLess x y);rw[<-cZ];have HT:Hd (R=(bb && dw (l.drop (k+1)))):=ab (by rw[cZ];exact HT2.o);clear cZ HT2;cases bb
  ·have HE:=ab (show R=false by rw[HT.o];simp);go_wp2;go_ret;exact ⟨az HE.o.symm,cv.o⟩
  ·go_wp2;go_roundw
   case rel=>exact ⟨k+1,.inr hlt,by go_num,cv.o,by rw[HT.o];simp⟩
   case measure=>simp[intOf];omega
 |clear qpr
  by_cases h0:e=0
  ·subst h0;go_wp2;go_roundw
   case rel=>exact ⟨k+1,by omega,by go_num,cv.o,by simpa using HT.o⟩
   case measure=>simp[intOf];omega
  ·have d1:(e == 0)=false:=by simpa using h0
   have d2:(e != 0)=true:=by simpa using h0
   have HE:=ab (show R=e by have:=HT.o;simpa[h0] using this);clear h0;go_wp2;go_ret;exact ⟨rT HE.o.symm,cv.o⟩
 |clear qpv;cases R
  ·go_wp2;go_ret;exact ⟨az (HNe.o (by rw[HX.o.1,HX.o.2];intro h;injection h with _ _ h;rw[<-h,pA]at HR;exact absurd HR.o (by simp))).symm,cv.o⟩
  ·go_wp2;go_roundw
   case rel=>exact ⟨k+1,by omega,by go_num,cv.o,wN HT.o bj kK (by rw[HX.o.1,HX.o.2,(gK _ _).1 HR.o.symm])⟩
   case measure=>simp[intOf];omega
 |clear qpy;cases R
  ·go_wp2;go_ret;exact ⟨az (HNe.o (fun h=>by have:=HR.o;rw[(oL _ _).2 h]at this;cases this)).symm,cv.o⟩
  ·go_wp2;go_roundw
   case rel=>exact ⟨k+1,by omega,by go_num,cv.o,wN HT.o bj kK ((oL _ _).1 HR.o.symm)⟩
   case measure=>simp[intOf];omega
 |clear qpA;go_wp2;go_roundw
  case rel=>exact ⟨k+1,_,by omega,by go_num,rfl,cv.o,HS.o.1,HS.o.2⟩
  case measure=>simp[intOf];omega
 |clear qpC;have jS:=ab (bN x'.below HX.o);have ⟨W3,dF⟩:=aj x'.w;rw[<-dF]at e3 cv jS ⊢;clear f0 f1 s8 Qu Yn htd zaq dF HX;go_wp2;go_loopw [5,6] (fun r i wr=>∃k m:Nat,k<=k0/\i=.int .i64 k/\r=.int .i64 m/\Below W3.heap.size W3 wr/\eY s left (1+q+R)=eY (s.drop k) left m/\m<=300000000000) (fun _ i _=>k0 - (intOf i).toNat)
  case atStart=>exact ⟨0,1+q+R,aX _,rfl,by go_num,ai _ _,by simp,by omega⟩
  case round=>
   obtain ⟨k,m,hk,rfl,rfl,aq,hcut,DW⟩:=hrel;have e3':=aa aq e3;have sF:=ab (cv.o.trans (aq.mono cv.o.size))
   by_cases hlt:k<k0
   ·by_cases ro:(m:Int)<=left
    ·have bj:=cb gt.o hlt;obtain ⟨b,off,u,rfl,_,hu,c0,c1,c2,c3⟩:=fQ.o.get bj;have YV:s.drop k=s[k] :: s.drop (k+1):=gB bj;rw[YV]at hcut;have ⟨d0,d1,d2,d3⟩:=lH sF.o c0 c1 c2 c3;have ⟨M,hM⟩:=aj (Dw s[k] (left - m));have CC:=fd.o s[k] (ap bj) ok wr u (left - m) (hu.later sF.o) (by omega) (by omega);rw[<-hM]at CC;have Dx:eY s left (1+q+R)=eY (s.drop (k+1)) left (m+M):=by
      rw[hcut];simp only[eY,aw ro];rw[hM]
     have L9:m+M<=300000000000:=by
      have h5:=(lw s left (1+q+R)).2.1;have h6:=(lw (s.drop (k+1)) left (m+M)).1;omega
     exact qik
    ·have JG:decide ((m:Int)<=left)=false:=by simp;omega
     have qyP:=();exact qcr
   ·obtain rfl:k=k0:=by omega
    have hd:s.drop k=[]:=by rw[gt.o];exact List.drop_length
    rw[hd]at hcut;have HE:=ab (show eY s left (1+q+R)=m from hcut);clear hcut aq hd;exact qkf
 |clear qpE;exact qkg
 |cases V with
  | false=>
   have HE3:=ab (BH.o fun h=>by
    subst h;have:=congrArg Prod.snd (HX.o.1.trans HX.o.2.symm);have e:=HV.o;rw[(oL _ _).2 this]at e;cases e)
   exact qkg
  | true=>
   go_wp2;go_roundw
   case rel=>exact ⟨k+1,by omega,by go_num,cv.o,pW HT.o bj kK (by rw[<-HX.o.1,<-HX.o.2,(oL _ _).1 HV.o.symm])⟩
   case measure=>simp[intOf];omega):G:=h
theorem qcn(h:G:=by
 have x6:=lZ (v0:=.int .u8 p0) (v1:=.string p1) (v2:=.slice p2 p3 p4) (v3:=.slice p5 p6 p7) Mw.o
 first
 |clear qnK;have k6:=dM (W:=w9) (b:=w.heap.size+1+1) (v0:=.int .u8 p0) (v1:=.string p1) (v2:=.slice p2 p3 p4) (v3:=.slice p5 p6 p7);have ⟨W6,cQ⟩:=aj ((((w9.setCell ⟨w.heap.size+1+1,0,none⟩ (.int .u8 p0)).setCell ⟨w.heap.size+1+1,1,none⟩ (.string p1)).setCell ⟨w.heap.size+1+1,2,none⟩ (.slice p2 p3 p4)).setCell ⟨w.heap.size+1+1,3,none⟩ (.slice p5 p6 p7));exact qbA
 |clear qsh;have k6:=dM (W:=w7) (b:=w.heap.size+1) (v0:=.int .u8 p0) (v1:=.string p1) (v2:=.slice p2 p3 p4) (v3:=.slice p5 p6 p7);have ⟨W6,cQ⟩:=aj ((((w7.setCell ⟨w.heap.size+1,0,none⟩ (.int .u8 p0)).setCell ⟨w.heap.size+1,1,none⟩ (.string p1)).setCell ⟨w.heap.size+1,2,none⟩ (.slice p2 p3 p4)).setCell ⟨w.heap.size+1,3,none⟩ (.slice p5 p6 p7));have qu7:=();exact qiw
 |have k6:=dM (W:=w6) (b:=w.heap.size+1) (v0:=.int .u8 p0) (v1:=.string p1) (v2:=.slice p2 p3 p4) (v3:=.slice p5 p6 p7);have ⟨W6,cQ⟩:=aj ((((w6.setCell ⟨w.heap.size+1,0,none⟩ (.int .u8 p0)).setCell ⟨w.heap.size+1,1,none⟩ (.string p1)).setCell ⟨w.heap.size+1,2,none⟩ (.slice p2 p3 p4)).setCell ⟨w.heap.size+1,3,none⟩ (.slice p5 p6 p7));exact qiw):G:=h
theorem qiL(h:G:=by
 simp at ND;obtain ⟨dD,rfl⟩:=ND;have gG:(xn == yn)=false:=by simpa using dD
 have kf:(!(xn == yn))=true:=by simpa using dD
 have HE:=ab Fg;clear hm Fg dD KY
 first
 |clear qvC;exact qdr
 |go_enter Tryz.func83,Tryz.ntmps83;exact qhG):G:=h
theorem qej(h:G:=by
 go_wp2_with (go_at_call 119;refine (C1.o _).mono ?_;rintro e w' ⟨rfl,hb⟩);go_ret;exact ⟨by simp,hb⟩):G:=h
theorem qkh(h:G:=by
 have l2:=(hlk (W1.alloc (.cells #[.int .u8 0,.string ⟨#[]⟩,.slice none 0 0,.slice none 0 0] 36)).drew (bH _ _ _ (by have:=uA.fs.lt;omega))).1
 first
 |clear qyQ;have ⟨W2,aZ⟩:=aj (W1.alloc (.cells #[.int .u8 0,.string ⟨#[]⟩,.slice none 0 0,.slice none 0 0] 36)).drew;have HE:=ab (show R=(k,71) by rw[HR.o];simp only[hg]);have cv:=ab (show Below W.heap.size W W2 by rw[aZ];exact hb1.tr oX.drew);clear rj hR hp UD UC UE _d _e hs hf iu lU hc d_ eh iI sL qW hl iG bY hb1 iM ar ma sU Ca sf Ip uA hlk hg oX fC K1 GZ aT zC JB QB x1;have qw5:=();exact qcR
 |have ⟨W2,aZ⟩:=aj (W1.alloc (.cells #[.int .u8 GO,.string GP,.slice GQ GR GS,.slice GT GU GV] 36)).drew;have bG:Below W1.heap.size W1 W2:=by rw[aZ];exact cI.drew
  have yH:=hb1.tr bG;have x2:W2.heap[W1.heap.size]?=some (.cells #[.int .u8 GO,.string GP,.slice GQ GR GS,.slice GT GU GV] 36 (0,0)):=by rw[aZ];exact ah rfl
  have xp:=bN bG x1;have ⟨I,hI⟩:=aj (e8 ps.reverse [] F);have L3:=HR.o;rw[hg,<-hI]at L3;simp only at L3;have CI:=Fi ⟨⟨16,⟨n.toArray⟩,sa,n1,sc,sb,m2,se⟩,⟨fo,fn,fa,fl,fc,fb,fm,fe⟩,ca,cl,cc⟩ ps hl iG F ar [] [] (by have:=ar.1;simp;omega) (fun _=>rfl) (.slice none 0 0) (fun b=>¬M b) W2 ⟨fo,fn,fa,fl,fc,fb,fm,fe⟩ (hc.1.later yH) (Fw _) (hf.later yH);rw[<-hI]at CI;simp only[PlQ.val,PlQ.cells,FQ.val]at CI;have HC:=ab CI;have gY:W1.heap.size<W2.heap.size:=(bA x2);have Vv:gF (fun b=>¬M b) (fun b=>¬M b/\b≠W1.heap.size) W1 W2:=fun b hb hlt=>⟨⟨hb,by omega⟩,bG.block b hlt⟩
  have Am:=aA Jy (oy.move Vv);have zg:=fG uA.ltb uA.fs.lt uA.ts.lt gY iM;have J8:=ab Ca;have H2:=cq bG yH x2 xp;have XD:=ab (uA.move Vv (bG.block _ uA.ltb) (bG.block _ uA.fs.lt) (bG.block _ uA.ts.lt));have X7:=ab (show ∀ im,I=some im->goodF im from fun im h=>Jq HP.o (by rw[<-hI];exact h));have Mp:=ab L3;clear rj hR hp UD UC UE _d _e hs hf iu lU hc d_ eh iI sL qW hl iG bY hb1 iM ar ma sU Ca sf Ip uA hlk hg oX fC K1 GZ aT zC JB QB x1 CI L3 hI oy Jy bG yH x2 xp gY Vv;have qw6:=();exact qcR):G:=h
theorem qki(h:G:=by
 have l2:=(hlk (W5.alloc (.cells #[.int .u8 0,.string ⟨#[]⟩,.slice none 0 0,.slice none 0 0] 36)).drew (bH _ _ _ (by have:=j4.fs.lt;omega))).1
 first
 |clear qyR;have ⟨W6,cQ⟩:=aj (W5.alloc (.cells #[.int .u8 0,.string ⟨#[]⟩,.slice none 0 0,.slice none 0 0] 36)).drew;have lp:Below W5.heap.size W5 W6:=by rw[cQ];exact bh.drew
  have Ez:Below W6.heap.size W6 W6.drew:=(ai _ _).drew;have RW:=(j4.later lp).later Ez;obtain ⟨w7,cD,BW,oW,NG⟩:=RW.storeF (fun h=>h HG.o.1) (by have:=HB.o.1;omega) (x:=n) (by have:=HF.o.2.2.1;omega) ((Jw.later lp).later Ez) X7.o (l':=g_ n im k.fs) (fun y=>BU hg y);have zbr:Kp (N2 mF mT) W6.drew w7:=oW.mono (fun b _ h=>.inl h);have r0:=aa lp g0;have r1:=aa Ez r0;have r2:=aa lp g2;have r3:=aa Ez r2;obtain ⟨q0,q1,q2,q3,_,_,_,_⟩:=dc x7;have r4:=aa lp q0;have r5:=aa Ez r4;have r6:=aa lp q1;have r7:=aa Ez r6;have r8:=aa lp q2;have r9:=aa Ez r8;have r10:=aa lp q3;have r11:=aa Ez r10;have HE:=ab (show R=({ k with fs:=g_ n im k.fs },0) by rw[L3];simp only[hg]);have Yj:=aA BW ((Kp.below (((H3.o.1.tr oq).tr lp).tr Ez)).trans zbr);unfold FQ.val at cD;clear j4 hlk RW BW oW zbr NG hg oq qG bh lp Ez x7 Jw L3 e_ Lx;go_region
  all_goals
   rw[<-cQ];clear cQ;go_wp2;go_region;go_wp2;go_ret;exact StepPost.good (nF+1) nT HE.o Yj.o.2 (by omega) (by omega) Yj.o.1
 |have ⟨W6,cQ⟩:=aj (W5.alloc (.cells #[.int .u8 GO,.string GP,.slice GQ GR GS,.slice GT GU GV] 36)).drew;have lp:Below W5.heap.size W5 W6:=by rw[cQ];exact cI.drew
  have x6:W6.heap[W5.heap.size]?=some (.cells #[.int .u8 GO,.string GP,.slice GQ GR GS,.slice GT GU GV] 36 (0,0)):=by rw[cQ];exact ah rfl
  obtain ⟨q0,q1,q2,q3,_,_,_,_⟩:=dc x7;have ⟨r0,r1,r2,r3⟩:=lH lp q0 q1 q2 q3;obtain ⟨r4,r5,r6,r7,_,_,_,_⟩:=dc x6;have CA:=wi g im [] (.slice none 0 0) _ _ W6 ⟨GO,GP,GQ,GR,GS,GT,GU,GV⟩ ⟨p0,p1,p2,p3,p4,p5,p6,p7⟩ (by have:=Jy.nodes;simp[eI];omega) Jy.fit (oy.later lp) (Jw.later lp) (PairsV.nil W6);simp only[FQ.val,List.reverse_nil]at CA;have HE:=ab (show R=if cg [] g im then (k,0) else (k,70) by rw[L3];simp only[hg]);have ⟨bb,cZ⟩:=aj (cg [] g im);rw[<-cZ]at HE CA;have GW:=ab CA;have Ex:=aA (j4.later lp) ((H3.o.1.tr oq).tr lp);clear j4 hlk hg oq qG bh lp x7 x6 Jw L3 e_ Lx CA cZ oy Jy;go_region
  all_goals
   rw[<-cQ];clear cQ;cases bb
   ·go_wp2_with (go_at_call 92;refine GW.o.mono ?_;rintro e w7 ⟨rfl,fW⟩;have H7:=ab fW;clear fW);go_ret;exact StepPost.bad HE.o (by decide) (Kp.below (Ex.o.2.tr H7.o))
   ·go_wp2_with (go_at_call 92;refine GW.o.mono ?_;rintro e w7 ⟨rfl,fW⟩;have H7:=ab fW;clear fW);go_ret;exact StepPost.good nF nT HE.o (Kp.below (Ex.o.2.tr H7.o)) (by omega) (by omega) (Ex.o.1.later H7.o)):G:=h
theorem qeb(h:G:=by
 obtain ⟨qs,hk,ho,ht⟩:=h;exact ⟨qs,hk,ba ho hb,fun j h1 h2=>(ht j h1 h2).move (fun b hok hlt=>⟨hok,hb b hok.1 hlt⟩)⟩):G:=h
theorem qkj(h:G:=by
 clear hS xb k0 r0 mlt hlk oy Jy hg K4 dD jD hF ce aq SE ck SF SD;have jx:=eU;go_wp2;clear dk;exact qcI):G:=h
theorem qbo(h:G:=by
 have ce:((a.map (gC f)).take k).length=k:=by rw[dS];have:=du.o;simp;omega
 first
 |clear qoe;have qyS:=();exact qbn
 |clear qog;have qtG:=();exact qcA
 |clear qyT;have j_:(a.map (gC f)).take k=(a.map (gC f)):=iP (by have:=du.o;simp;omega);have qyU:=();exact qax
 |have j_:(a.map (gC f)).take k=(a.map (gC f)):=iP (by have:=du.o;simp;omega);have qyV:=();exact qax):G:=h
theorem qkk(h:G:=by
 have zu:TermsV (w.heap.size<=·) W6 (.slice ra k0 rc) a:=hp.move (fun b hok hlt=>⟨aN cv.o.size hok,k6.same b hlt (by have:W2.heap.size<=b:=hok;omega)⟩)
 first
 |clear qyW;refine bK (v:=TQ.val ⟨qv,⟨n.toArray⟩,ra,k0,rc⟩) (by simp[TQ.val,results,Tryz.results107,go_sem,g0,g1,g2]) rfl ⟨⟨qv,⟨n.toArray⟩,ra,k0,rc⟩,rfl,aM.2 ⟨_,rfl,zu⟩,Below.kp1 (cv.o.trans (bZ.mono cv.o.size)) k6 (by omega)⟩
 |have kf:FormsV (w.heap.size<=·) W6 (.slice rb m0 re) s:=hs.move (fun b hok hlt=>⟨aN cv.o.size hok,k6.same b hlt (by have:W2.heap.size<=b:=hok;omega)⟩);refine bK (v:=FQ.val ⟨qo,⟨n.toArray⟩,ra,k0,rc,rb,m0,re⟩) (by simp[FQ.val,results,Tryz.results51,go_sem,g0,g1,g2,g3]) rfl ⟨⟨qo,⟨n.toArray⟩,ra,k0,rc,rb,m0,re⟩,rfl,aQ.2 ⟨_,_,rfl,zu,kf⟩,Below.kp1 (cv.o.trans (bZ.mono cv.o.size)) k6 (by omega)⟩):G:=h
theorem qkl(h:G:=by
 go_loopw [67] (fun i wr=>∃k:Nat,k<=k0/\i=.int .i64 k/\Below W2.heap.size W2 wr/\R=cf ps.reverse (xa.drop k) (ya.drop k)) (fun i _=>k0 - (intOf i).toNat)
 first
 |clear qyX
  case atStart=>exact ⟨0,aX _,rfl,(ai _ _),by simpa using HMt.o⟩
  case round=>
   have qhQ:=();exact qaz
 |case atStart=>exact ⟨0,aX _,rfl,HBp.o,by simpa using HMt.o⟩
  case round=>
   have qhQ:=();exact qaz):G:=h
theorem qd6(h:G:=by
 obtain ⟨a,cap,qs,hv,hc,hs,hf⟩:=h;refine ⟨a,cap,qs,hv,hc,?_,fun j hj=>(hf j hj).move hb⟩;have qyY:=();exact qbW):G:=h
theorem qkm(h:G:=by
 obtain ⟨e0,e1,e2,_⟩:=fV H1.o.2.1;simp only[TQ.val];go_enter Tryz.func248,Tryz.ntmps248
 first
 |clear qyZ;exact qje
 |exact qhp):G:=h
theorem qfz(h:G:=by
 obtain ⟨g,hg⟩:=Classical.axiomOfChoice hC;refine ⟨a0,cap,g,rfl,hlc,?_,fun j hj=>(hg j hj).2⟩;exact qcu):G:=h
theorem qgo(h:G:=by
 go_wp2;go_ret;exact ⟨az (xM (by rw[kx];omega) HR.o (by rw[oH h1];exact HF.o) (by have:=HA.o;rwa [AP]at this)).symm,HW.o⟩):G:=h
theorem qjc(h:G:=by
 have hn:fH n=true:=by have:=hb.1;rw[hq]at this;simpa using this
 have:(x == n)=false:=by
  rw[Bool.eq_false_iff];intro h;rw[ej]at h;rw[h,hn]at hx;cases hx
 first
 |clear qwe;simp[this]
 |rw[List.count_filter (by simp[this])]):G:=h
theorem qe8(h:G:=by
 obtain ⟨a,cap,qs,hv,hc,hs,hf⟩:=h;refine ⟨a,cap,qs,hv,hc,?_,fun j hj=>(hf j hj).nw hn⟩;exact qbW):G:=h
theorem qbE(h:G:=by
 obtain ⟨b1,o1,⟨xv,xn,xa,xl,xc⟩,rfl,hok,hx,c0,c1,c2⟩:=_l.o.get gZ
 first
 |clear qsW;have yr:=H2.o.1.tr aq;have qy0:=();exact qdT
 |clear qsX;have yr:=H2.o.1.tr aq;have qy1:=();exact qdT
 |clear qwO;have yr:=aq;exact qdT
 |simp only at c0 c1 c2;have qow:=();exact qab):G:=h
theorem qkn(h:G:=by
 obtain ⟨e0,e1,e2,_⟩:=fV H1.o.2.1;simp only[TQ.val];go_enter Tryz.func197,Tryz.ntmps197
 first
 |clear qy2;have qwu:=();exact qje
 |have qsV:=();exact qhp):G:=h
theorem qd3(h:G:=by
 unfold Act.put;split
 ·rename_i d' Zf;have:d'≠d:=fun e=>sT (hok.one j k oj o d hj ho KM (by rw[Zf,e]));simp[this]
 ·rfl):G:=h
theorem qko(h:G:=by
 rw[hm]
 by_cases h1:uo=vo
 ·by_cases h2:k0=m0
  ·have h3:¬k1=m1:=fun h=>Ed ⟨h1,h2,h⟩;simp[h3]
  ·simp[h2]
 ·simp[h1]):G:=h
theorem qeg(h:G:=by
 unfold dl dA cX;cases decide (n.length<=16) <;> cases (n.head? == some 63) <;> cases sV n.tail <;> cases xG n.tail <;> rfl):G:=h
theorem qb5(h:G:=by
 intro l J Jx W hk hM hl hlM hJ _ hY hj;have Uz:=(bA hX);have z':=(hk.same X Uz KQ).trans hX
 first
 |clear ql2;have c0:W.cell? ⟨X,0,none⟩=some (.bool q.v):=ag z' 0;exact qh5
 |clear qmA;have qy3:=();exact qck
 |have qy4:=();exact qck):G:=h
theorem qkp(h:G:=by
 rw[hS]at h;exact ⟨aa h (ag j4.box 1),Cb V (h.block _ bj),aa h (ag y5 0),aa h (ag y5 1),aa h (ag y5 2),aa h (ag y5 3)⟩):G:=h
theorem qeq(h:G:=by
 simp only[nN,ae,br]at h;have h1:=h.2.2.1.1;have:(c == 63)=false:=by
  rw[Bool.eq_false_iff];intro h2;rw[ej]at h2;subst h2;exact absurd h1 (by decide)
 first
 |clear ql5;simp[ct,this]
 |simp[dl,dA,cX,this]):G:=h
theorem qjO(h:G:=by
 subst i_;injection hv with hv _ hc;injection hv with hv;injection hv with hv;subst hv;subst hc;refine ⟨_,_,rfl,hn,.inr ⟨g,0,rfl,fun j hj=>?_⟩⟩
 first
 |clear qxY;have hf:(tY l)[j]?=some (.int .i64 (l[j]:Nat)):=by simp[tY,hj]
  rw[<-hx]at hf;have k0:(cur.toList.take (l.length * 1))[j]?=cur[j]?:=by rw[List.getElem?_take,aw (by omega)];simp
  rw[k0]at hf;rw[Nat.zero_add];exact (aF hg _).trans hf
 |have hf:=ye ps j hj;rw[<-hx]at hf;have k0:(cur.toList.take (ps.length * 2))[j * 2]?=cur[j * 2]?:=by rw[List.getElem?_take,aw (by omega)];simp
  have k1:(cur.toList.take (ps.length * 2))[j * 2+1]?=cur[j * 2+1]?:=by rw[List.getElem?_take,aw (by omega)];simp
  rw[k0,k1]at hf;exact ⟨by rw[Nat.zero_add];exact (aF hg _).trans hf.1,by rw[Nat.zero_add];exact (aF hg _).trans hf.2⟩):G:=h
theorem qja(h:G:=by
 have kf:(p2 == yn)=false:=by simpa using hb
 have HT:=ab (show mm ps.reverse xn yn=mm (ps.take j).reverse xn yn by rw[ht];simp[gG,kf]);clear ht;go_wp2
 first
 |clear qwd;have qsI:=();exact qac
 |go_roundw
  case rel=>exact ⟨j,by omega,by go_num,mx.o.trans (cI.mono mx.o.size),HT.o⟩
  case measure=>simp[intOf];try omega):G:=h
theorem qdU(h:G:=by
 go_simp;refine hK _ _ (fun _=>by rw[cR.o];exact bZ.alloc bZ.size _) (fun _=>?_);clear hK K
 first
 |clear qy5;refine b_ 15 rfl fun K hK=>?_
  refine tp (.tmp 23) (.tmp 37) rfl W1.heap.size ra M rc (kT (bd.fs.take k)) [fm,.mk 1 nm [] []] [x,⟨1,⟨nm.toArray⟩,none,0,0,none,0,0⟩] wz A _ HR.o HM.o hwA HB.o.size rfl (by simp) (fun j h1 h2=>?_) rfl rfl rfl (by simp;omega) (fun g eF w4 de Qw=>?_)
  ·rcases j with _ | _ | j
   ·exact HX.o.move (show gF (fun b=>b<w.heap.size) (fun b=>(Value.slice ra M rc).ownBlock≠some b) wz A from fun c hc hlt=>⟨fun e=>by obtain ⟨_,_,ho,_⟩:=HR.o;have:=(ho.lt c e).1;have:=jt.o.1.size;omega,hwA.block c hlt⟩)
   ·exact aQ.2 ⟨_,_,rfl,cm,f8⟩
   ·simp only[eT,List.length_nil]at h1;omega
  have ce:=PZ bj;rw[<-HNf.o]at ce;simp only at ce;rw[<-ce]at de;have sI:=ab de;have eG:=ab (Qw W1 bZ (aC _));clear de Qw bZ hwA hA ce;have qr2:=();exact qa1
 |clear qy6;refine b_ 16 rfl fun K hK=>?_
  refine tp (.tmp 46) (.tmp 61) rfl W1.heap.size ra M rc (kT bd.fs ++ lS (bd.ts.take j)) [.mk 1 nm [tm] []] [⟨1,⟨nm.toArray⟩,some ⟨wz.heap.size,0,none⟩,1,1,none,0,0⟩] wz A _ HR.o HM.o hwA HB.o.size rfl (by simp) (fun j h1 h2=>?_) rfl rfl rfl (by simp;omega) (fun g eF w4 de Qw=>?_)
  ·rcases j with _ | j
   ·have au:∀ c,(Value.slice ra M rc).ownBlock=some c->W1.heap.size<=c/\c<wz.heap.size:=fun c e=>by obtain ⟨_,_,ho,_⟩:=HR.o;exact ho.lt c e
    refine aQ.2 ⟨_,_,rfl,⟨_,1,fun _=>TQ.val x,rfl,.inr ⟨wz.heap.size,0,rfl,fun e=>by have:=au _ e;omega,fun j hj=>?_⟩,fun j hj=>?_⟩,f8⟩
    ·obtain rfl:j=0:=by simpa using hj
     exact ⟨_,_,_,rfl,mq XX⟩
    ·obtain rfl:j=0:=by simpa using hj
     exact HX.o.move (show gF (fun b=>b<w.heap.size) (fun b=>(Value.slice ra M rc).ownBlock≠some b) wz A from fun c hc eE=>⟨fun e=>by have:=(au c e).1;have:=jt.o.1.size;omega,hwA.block c eE⟩)
   ·simp only[eT,List.length_nil]at h1;omega
  have ce:=P9 bj;rw[<-HNf.o]at ce;simp only at ce;rw[List.append_assoc,<-ce]at de;have sI:=ab de;have eG:=ab (Qw W1 bZ (aC _));clear de Qw bZ hwA hA ce m7 hw0 XX;have qr4:=();exact qa1
 |obtain ⟨qs,eu,au,gd⟩:=fh.o.row;rw[dU.o]at eu au;have oe:=bZ.size;have sE:=fh.o.size;refine b_ 12 rfl fun K hK=>?_
  first
  |clear qy7;refine bq (.tmp 20) (.tmp 30) 23 rfl W3.heap.size 40 qJ (.agg #[.string ByteArray.empty,.int .u8 0,.string ByteArray.empty,.slice none 0 0,.slice none 0 0]) 5 88 Tryz.underlying23 hi Ar xP AT rfl (by decide) (.slice ra j rc) j _ rfl ((ba au (fun b _ hlt=>bZ.block b hlt)).alloc _) ⟨_,0,none⟩ 1 1 (BF (nm,⟨p0,p1,p2,p3,p4,p5,p6,p7⟩)) rfl rfl (cV (cs:=#[.string ⟨nm.toArray⟩,.int .u8 p0,.string p1,.slice p2 p3 p4,.slice p5 p6 p7]) (t:=40) (fr:=(0,0)) (fD A _)) (by simp[BF,FQ.cells,Value.oneCell']) (by decide) (by unfold maxLen;omega) (by omega) (by simp;omega) (A.heap.size+1) (by simp) ?_
   intro g eF w4 aO am hg eA;have h4:=fh.o.at4 (kk:=0) au bZ am;have cD:=fh.o.stepFB (F:=0) (x:=nm) (t:=k.fs[j].2) (g:=g) (cap:=eF) (by rw[dU.o];exact au) (by rw[dU.o];exact eu) gd bZ (show FormV (wr.heap.size<=·) A (FQ.val ⟨p0,p1,p2,p3,p4,p5,p6,p7⟩) k.fs[j].2 from hp) (by rw[dU.o];exact aO) am hg rfl;rw[dU.o,UJ.o]at cD;have qfX:=();exact qaf
  |refine bq (.tmp 46) (.tmp 56) 24 rfl W6.heap.size 47 Lk (.agg #[.string ByteArray.empty,.bool false,.string ByteArray.empty,.slice none 0 0]) 4 64 Tryz.underlying24 hq _z KY hqc rfl (by decide) (.slice ra j rc) j _ rfl ((ba au (fun b _ hlt=>bZ.block b hlt)).alloc _) ⟨_,0,none⟩ 1 1 (BT (nm,⟨p0,p1,p2,p3,p4⟩)) rfl rfl (cV (cs:=#[.string ⟨nm.toArray⟩,.bool p0,.string p1,.slice p2 p3 p4]) (t:=47) (fr:=(0,0)) (fD A _)) (by simp[BT,TQ.cells,Value.oneCell']) (by decide) (by unfold maxLen;omega) (by omega) (by simp;omega) (A.heap.size+1) (by simp) ?_
   intro g eF w4 aO am hg eA;have h4:=fh.o.at4 (kk:=1) au bZ am;have cD:=fh.o.stepTB (F:=1) (x:=nm) (t:=k.ts[j].2) (g:=g) (cap:=eF) (by rw[dU.o];exact au) (by rw[dU.o];exact eu) gd bZ (show TermV (wr.heap.size<=·) A (TQ.val ⟨p0,p1,p2,p3,p4⟩) k.ts[j].2 from hp) (by rw[dU.o];exact aO) am hg rfl;rw[dU.o,UJ.o]at cD;have qfX:=();exact qaf):G:=h
theorem qkq(h:G:=by
 have GN:ps.length+eI xs[k]<=1000000000:=by have:=Jr xs[k] (ap bj);first | omega | (simp only[cU,eT,List.length_nil];omega)
 have HU:=ab (hu.later aq)
 first
 |clear qy8;have qy9:=();exact qaT
 |have qza:=();exact qaT):G:=h
theorem qaZ(h:G:=by
 refine (wpIn_wide (n:=3)).1 ?_;refine lF S 8 dN fun jE bV=>?_
 first
 |clear qre;refine bw 0 92 (.pointer (some ⟨kb,0,none⟩)) rfl bV fun cB=>?_
  simp only[af];refine c_ 1 93 (.agg #[.int .u8 so,.string sn,.slice sa sl sc,.slice sb sm se,.int .u8 fo,.string fn,.slice fa fl fc,.slice fb fm fe,.slice ca cl cc]) rfl (fun V hX=>by obtain ⟨h0,h1,h2,h3,h4,h5,h6,h7,h8⟩:=pp V hX;go_simp) cB fun fB=>?_;simp only[af];refine c_ 2 94 (.agg #[.bool xv,.string xn,.slice xa xl xc]) rfl (fun V hX=>by obtain ⟨h0,h1,h2⟩:=tt V hX;go_simp) fB fun gq=>?_;simp only[af];refine bw 3 95 (.pointer (some ⟨W.heap.size+1+1,2,none⟩)) rfl gq fun ir=>?_;simp only[af];refine c_ 4 96 (.slice (some ⟨b2,o2,none⟩) n1 uc) rfl (fun V hX=>by have h0:=uu V hX;go_simp) ir fun jj=>?_;simp only[af];refine bw 5 97 (.int .i64 (j:Int)) rfl jj fun jz=>?_;simp only[af];refine bw 6 98 (.pointer (some ⟨b2,o2+j * 3,none⟩)) rfl jz fun lM=>?_;simp only[af];refine c_ 7 99 (.agg #[.bool yv,.string yn,.slice ya yl yc]) rfl (fun V hX=>by obtain ⟨h0,h1,h2⟩:=yy V hX;go_simp) lM fun qh=>?_;simp only[af];refine b_ 8 rfl fun K hK=>?_
  first
  |clear qzb;go_simp;refine aH.2 (HC.o.mono ?_);rintro e w7 ⟨oW,r,rfl,gV,_⟩;obtain rfl:=gV (by simp);have H7:=ab oW;clear oW gV;have qzc:=();exact qbt
  |go_simp;refine aH.2 (HC.o.mono ?_);rintro e w7 ⟨oW,r,rfl,_,Ye⟩;obtain ⟨rfl,nT7,Yf,BW⟩:=Ye _ rfl;have H7:=bx oW Yf BW;clear oW Ye Yf BW;exact qbt
 |clear qzd;have qze:=();exact qhc
 |clear qzf;have qyL:=();exact qkb
 |clear qw1;refine bw 0 19 (.pointer (some ⟨kb,0,none⟩)) rfl bV fun cB=>?_
  simp only[af];refine bw 1 20 (.pointer (some ⟨kb,0,none⟩)) rfl cB fun fB=>?_;simp only[af];refine bw 2 21 (.pointer (some ⟨kb,0,none⟩)) rfl fB fun gq=>?_;simp only[af];refine c_ 3 22 (.map (some mF)) rfl (fun V hX=>by obtain ⟨h0,h1,h2⟩:=ff V hX;go_simp) gq fun ir=>?_;simp only[af];refine bw 4 23 (.pointer (some ⟨w.heap.size+1,1,none⟩)) rfl ir fun jj=>?_;simp only[af];refine c_ 5 24 (.string ⟨n.toArray⟩) rfl (fun V hX=>by obtain ⟨h0,h1,h2⟩:=ff V hX;go_simp) jj fun jz=>?_;simp only[af];refine c_ 6 25 (.agg #[.int .u8 g0,.string g1,.slice g2 g3 g4,.slice g5 g6 g7]) rfl (fun V hX=>by obtain ⟨h0,h1,h2⟩:=ff V hX;go_simp) jz fun lM=>?_;have qzg:=();exact qaK
 |refine bw 0 21 (.pointer (some ⟨kb,0,none⟩)) rfl bV fun S_=>?_
  simp only[af];refine bw 1 22 (.pointer (some ⟨kb,0,none⟩)) rfl S_ fun Ta=>?_;simp only[af];refine bw 2 23 (.pointer (some ⟨kb,0,none⟩)) rfl Ta fun Mt=>?_;simp only[af];refine c_ 3 24 (.map (some mF)) rfl (fun V hX=>by obtain ⟨h0,h1,h2⟩:=ff V hX;go_simp) Mt fun Tb=>?_;simp only[af];refine bw 4 25 (.pointer (some ⟨w.heap.size,1,none⟩)) rfl Tb fun ω=>?_;simp only[af];refine c_ 5 26 (.string ⟨n.toArray⟩) rfl (fun V hX=>by obtain ⟨h0,h1,h2⟩:=ff V hX;go_simp) ω fun hT5=>?_;simp only[af];refine c_ 6 27 (.agg #[.int .u8 g0,.string g1,.slice g2 g3 g4,.slice g5 g6 g7]) rfl (fun V hX=>by obtain ⟨h0,h1,h2⟩:=ff V hX;go_simp) hT5 fun hT6=>?_;have qzh:=();exact qaK):G:=h
theorem qiu(h:G:=by
 go_wp2;rw[<-pH.o];go_roundw
 case rel=>exact ⟨k+1,by omega,by go_num,HG.o.1,HG.o.2⟩
 case measure=>simp[intOf];omega):G:=h
theorem qcU(h:G:=by
 exact qg8):G:=h
theorem qgJ(h:G:=by
 have ⟨dT,jw,fd⟩:=cE bB ar.args ih;have ⟨k0,cd⟩:=aj a.length;rw[<-cd]at bW;have du:=ab cd;clear hq bB ar ih;unfold TQ.val;rw[<-cd];clear cd
 first
 |clear qrz;refine nG Tryz.func53 ?_;simp only[Tryz.ntmps53,Nat.reduceAdd,Nat.reduceSub,lE];have jx:=eU;gi_wp2;have ⟨W1,bY⟩:=aj (((w.alloc (.cells #[.bool qv,.string ⟨n.toArray⟩,.slice qa k0 qc] 43)).alloc (.cells #[.bool false,.string ⟨#[]⟩,.slice none 0 0] 43)).alloc (.cells #[.bool qv,.string ⟨n.toArray⟩,.slice none 0 0] 43));have jf:=uS bY;have x1:W1.heap[w.heap.size+1]?=some (.cells #[.bool false,.string ⟨#[]⟩,.slice none 0 0] 43 (0,0)):=by rw[bY,bH _ _ _ (by simp)];exact ah (by simp)
  have x2:=oD bY;have qzi:=();exact qaL
 |cases qv with
  | false=>
   have hp:aK (.mk false n a)=.mk false n (a.map aK):=by simp[aK,lI]
   rw[hp];clear hp;exact qf6
  | true=>
   cases hh:ct n with
   | false=>
    have hp:aK (.mk true n a)=.mk true n (a.map aK):=by simp[aK,lI,hh]
    rw[hp];clear hp;have qzj:=();exact qf5
   | true=>
    obtain ⟨r,rfl⟩:∃r,n=63 :: r:=tL (by
     cases h2:(n.head? == some 63)
     ·simp[ct,h2]at hh
     ·rfl)
    have hp:aK (.mk true (63 :: r) a)=.mk true r (a.map aK):=by simp[aK,lI,hh]
    rw[hp];clear hp;have ⟨n,hn⟩:=aj (63 :: r);rw[<-hn]at hh kz ⊢;have hx:=iU 63 r;have hsz:(⟨n.toArray⟩:ByteArray).size=r.length+1:=by rw[hn,hO];rfl
    have hx':(⟨n.toArray⟩:ByteArray).extract 1 (r.length+1)=⟨r.toArray⟩:=by rw[hn];exact hx
    have hr1:r.length+1<=2000000:=by rw[hn]at kz;simpa using kz
    clear hx hn;exact qf5):G:=h
theorem qkr(h:G:=by
 have Fx:A1.heap[EB]?=some (.cells #[.int .u8 0,.string ⟨#[]⟩,.slice none 0 0,.slice none 0 0] 36 (0,0)):=by rw[qi,yq];exact ah rfl
 first
 |clear qzk;rw[<-qi,<-yq];have NH:W0.heap.size<=EB:=by have:=bZ.size;omega
  have H7:=cq Fx NH (bZ.tr ug) (hp.move (W':=A1) (ok':=fun b=>W0.heap.size<=b/\b≠EB) (fun b hb hlt=>⟨⟨aN yV.size hb,by omega⟩,ug.block b hlt⟩));exact qbT
 |have NH:W0.heap.size=EB:=yq.symm;exact qjh):G:=h
theorem qd2(h:G:=by
 refine ⟨fun h0=>(by rw[hr]at h0;cases h0),fun j hj=>?_⟩;rw[hr]at hj;obtain rfl:=List.mem_singleton.1 hj;refine wpOpIn_step hi (fun K' Gc=>?_)
 first
 |clear qlm;rw[aw hw];exact h K' (fun a w hS hW=>Gc a w ⟨hS,hW hS⟩)
 |rw[ak (by simp[hw])];exact ⟨D2,Gc _ _ ⟨fun _=>hS,by rw[xE];exact h hS⟩⟩):G:=h
theorem qe5(h:G:=by
 simp only;refine ihs (fun t ht=>ih t (fL _ ht)) ?_ _;intro h0;have:=ih u (gp ..) (by omega);rw[hp]at this;cases this):G:=h
theorem qfQ(h:G:=by
 go_ret;exact JPost.no (l:=left - 1) HE.o ((mY _).trans (Kp.below cI)) ((HJ.o.set _).later cI) (by omega) (by omega)):G:=h
theorem qeF(h:G:=by
 have hmf:∀ (fn:Fn) (first cap:Array Value) (w:World),(Instr.makeFunc fn first cap).run Tryz.prog w=.ok (.func fn first cap) w:=fun _ _ _ _=>rfl
 first
 |clear qmC;unfold TQ.val;simp only;go_enter Tryz.func168,Tryz.ntmps168;go_wp2;rw[<-jt.o];go_loopw [13] (fun i wr=>∃k:Nat,k<=1/\i=.int .i64 k/\PutI (.bool qv,.string qn,.slice qa ql qc) x u w k wr) (fun i _=>1 - (intOf i).toNat)
  case atStart=>exact ⟨0,by omega,rfl,HI.o⟩
  case round=>
   obtain ⟨k,hk,rfl,hI⟩:=hrel
   by_cases hlt:k<1
   ·obtain rfl:k=0:=by omega
    have ⟨d0,d1,d2,d3⟩:=lH hI.below HC.o.1 HC.o.2.1 HC.o.2.2.1 HC.o.2.2.2;have ⟨A1,qi⟩:=aj (wr.alloc (.cells #[.string ⟨x.toArray⟩,.bool uv,.string un,.slice ua ul uc] 143));have ⟨A2,bZ⟩:=aj (A1.alloc (.cells #[.bool false,.string ⟨#[]⟩,.slice none 0 0] 43));have b1:=cM qi;have b2:=cM bZ;have hI1:=hI.later b1;have hI2:=hI1.later b2;have x1:=bS qi;have o0:A1.cell? ⟨wr.heap.size,0,none⟩=some (.string ⟨x.toArray⟩):=ag x1 0;have o1:A1.cell? ⟨wr.heap.size,1,none⟩=some (.bool uv):=ag x1 1;have o2:A1.cell? ⟨wr.heap.size,2,none⟩=some (.string un):=ag x1 2;have o3:A1.cell? ⟨wr.heap.size,3,none⟩=some (.slice ua ul uc):=ag x1 3;have ⟨p0,p1,p2,p3⟩:=lH b2 o0 o1 o2 o3;have m1:A1.cell? ⟨w.heap.size+3,0,none⟩=some (.map (some (w.heap.size+2))):=ag hI1.b3 0;have m2:=aa b2 m1;have hr:(Instr.lookup 146 (.map (some (w.heap.size+2))) (.string ⟨x.toArray⟩) true).run Tryz.prog A1=.ok (.tuple #[.agg #[.bool false,.string ⟨#[]⟩,.slice none 0 0],.bool false]) A1:=by
     rcases hI1.mp.look Tryz.underlying9 Tryz.underlying146 kg hx with ⟨_,hr⟩ | ⟨u',v,hs,_⟩
     ·exact (hr A1 rfl).1
     ·simp[getB]at hs
    obtain ⟨w4,cD,hm4,xh,yh⟩:=hI2.mp.store Tryz.underlying9 Tryz.underlying146 (by omega) hx (v:=.agg #[.bool uv,.string un,.slice ua ul uc]) (a:=u) (l':=[(x,u)]) (V':=TermIn w) ⟨⟨uv,un,ua,ul,uc⟩,rfl,HU.o.any⟩ (fun _ _ _ _ _ h=>h) (fun y=>by
     by_cases e:y=x
     ·subst e;simp[getB]
     ·have e2:¬x=y:=fun h=>e h.symm;simp[getB,e,e2])
    have kD:∀ b,b<A2.heap.size->b≠w.heap.size+2->w4.heap[b]?=A2.heap[b]?:=fun b hb jb=>xh.block b hb (fun h=>by cases h;exact jb rfl);have hI4:PutI (.bool qv,.string qn,.slice qa ql qc) x u w 1 w4:=⟨⟨xh.os.trans hI2.below.os,xh.tape.trans hI2.below.tape,xh.output.trans hI2.below.output,by have:=hI2.below.size;omega,fun b hb=>(kD b (bJ hb hI2.below.size) (by omega)).trans (hI2.below.block b hb)⟩,
     (kD _ (bA hI2.b0) (by omega)).trans hI2.b0,(kD _ (bA hI2.b1) (by omega)).trans hI2.b1,(kD _ (bA hI2.b3) (by omega)).trans hI2.b3,by simpa using hm4⟩
    have HI4:=ab hI4;rw[bZ]at m2 p0 p1 p2 p3 cD;rw[qi]at hr cD m1 m2 o0 o1 o2 o3 p0 p1 p2 p3;clear hI hI1 hI2 hI4 hm4 xh yh kD x1 b1 b2 qi bZ;go_wp2;go_roundw
    case rel=>exact ⟨1,by omega,by go_num,HI4.o⟩
    case measure=>simp[intOf]
   ·obtain rfl:k=1:=by omega
    have C:=Bz 232 #[.pointer (some ⟨w.heap.size+3,0,none⟩)] I9 _ wr (OJ w wr hI.below (w.heap.size+3) (w.heap.size+2) 1 [(x,u)] (ag hI.b3 0) (by simpa using hI.mp)) (fun n u' h=>by
     have gI:u=u':=by
      simp only[getB]at h;split at h
      ·injection h
      ·cases h
     subst gI;exact fun ok W q hq=>OI _ jw.o.2 ok W q hq) t jw.o.1 ok wr ⟨qv,qn,qa,ql,qc⟩ (ai _ _) (HQ.o.later hI.below)
    have Rx:(fun n=>getB [(x,u)] n)=(fun n=>if n == x then some u else none):=by
     funext n
     simp only[getB]
     by_cases e:x=n
     ·subst e;simp
     ·have e2:¬n=x:=fun h=>e h.symm;simp[e,e2]
    rw[Rx]at C;simp only[TQ.val]at C;have ⟨e0,e1,e2⟩:=mq hI.b0;have ⟨HC,HY⟩:=aS C hI;clear C hI Rx;go_wp2_with (go_at_call 154;refine HC.o.mono ?_;rintro e w5 ⟨⟨p5,rfl,qD⟩,bh⟩;obtain ⟨pv,pn,pa,pl,pc⟩:=p5;simp only at qD ⊢;have x1:=(HY.o.later bh).b1;have e0:=ag x1 0;have e1:=ag x1 1;have e2:=ag x1 2;have z0:=ac x1 0;have z1:=ac x1 1;have z2:=ac x1 2;have H5:=cq qD (HY.o.below.tr bh) x1 bh.size;clear bh qD x1);have hz:=HY.o.below.size;have Vi:=(bA HY.o.b1);have qvn:=();exact qcc
 |go_enter_defers Tryz.func149,Tryz.ntmps149;have p2:W1.cell? ⟨W.heap.size,2,none⟩=some (.slice ua k0 uc):=ag Lh.o 2;go_wp2;rw[<-jt.o];clear p2;go_loopw [16] (fun i wr=>∃k:Nat,k<=k0/\i=.int .i64 k/\FrJ J pre M W0 mb n bs l W.heap.size (ao (a.take k)) wr/\Kp (fun b=>M b\/b=mb) W1 wr) (fun i _=>k0 - (intOf i).toNat)
  case atStart=>exact ⟨0,aX _,rfl,by simpa[ao] using HJ1.o,Kp.refl _⟩
  case round=>
   obtain ⟨k,hk,rfl,hj,bi⟩:=hrel
   by_cases hlt:k<k0
   ·have bj:=cb du.o hlt;obtain ⟨b,off,u,rfl,jy,hu,c0,c1,c2⟩:=HV.o.get bj;have d0:=hj.kp.cell jy.2 c0;have d1:=hj.kp.cell jy.2 c1;have d2:=hj.kp.cell jy.2 c2;exact qks
   ·obtain rfl:k0=k:=by omega
    have ht:a.take k0=a:=by rw[du.o];exact cK
    rw[ht]at hj;have KO:=hj.j;rw[<-HA.o]at KO;exact qiy):G:=h
theorem qh2(h:G:=by
 have u1:W2.cell? ⟨wr.heap.size,1,none⟩=some (.string un):=ag Ag 1;have u2:W2.cell? ⟨wr.heap.size,2,none⟩=some (.slice ua ul uc):=ag Ag 2
 first
 |clear quc;have gR:=hF.later bG (fun r=>r.below bG);obtain ⟨P0,P1,P2,P3,P4,P5,P6,P7,P8⟩:=iX (gR.other (by omega) Ro.o)
  first
  |clear qok;have CC:=fd.o a[k] (ap dy) (jw.o.mem (ap dy)) ok W2 ⟨uv,un,ua,ul,uc⟩ (LC.o.later (aq.tr bG)) (og.o.later (aq.tr bG)) ((hu.later aq).later bG);have qzl:=();exact qkt
  |have CC:=te ⟨⟨so,sn,sa,sl,sc,sb,sm,se⟩,⟨fo,fn,fa,fl,fc,fb,fm,fe⟩,ca,cl,cc⟩ ps Fh.o.1 Fh.o.2 L ins LE.o.2.2 LE.o.1 _ vL a[k1] (AV.o.mem (ap dy)) ok W2 ⟨uv,un,ua,ul,uc⟩ (LC.o.later (aq.tr bG)) ((og.o.1.later (aq.tr bG)).strs) ((hu.later aq).later bG);exact qkt
 |have u3:W2.cell? ⟨wr.heap.size,3,none⟩=some (.slice ub um ue):=ag Ag 3;have gR:=hF.later bG (fun r=>r.below bG);obtain ⟨P0,P1,P2,P3,P4,P5,P6,P7,P8⟩:=iX (gR.other (by omega) Rs.o)
  first
  |clear qwX;have CC:=fd.o s[k] (ap dy) (u_.o.mem (ap dy)) (L) (ins) (by have:=LE.o.2.1 s[k] (ap dy);omega) LE.o.1 (vL) ok W2 ⟨uo,un,ua,ul,uc,ub,um,ue⟩ (LC.o.later (aq.tr bG)) ⟨(LH.o.1.kp hF.kp (fun b hb h=>(LH.o.2 b hb).1 h)).later bG,fun b hb=>by have:=(LH.o.2 b hb).2;have:=hF.size;have:=bG.size;omega⟩ ((hu.later aq).later bG);simp only[PlQ.cells,PlQ.val,FQ.val]at CC P0 P1 P2 P3 P4 P5 P6 P7 P8;have eW:=qg (c:=ps.reverse) (ins:=ins) dy;rw[BG]at eW;have gV:=fun (h:e8 ps.reverse ins s[k]=none)=>BJ (c:=ps.reverse) (ins:=ins) (ap dy) h;have ⟨U,hU⟩:=aj (e8 ps.reverse ins s[k]);have quj:=();exact qbJ
  |have CC:=fd.o s[k] (ap dy) (u_.o.mem (ap dy)) (L ++ [n]) ((n :: ins)) (by have:=LE.o.2.1 s[k] (ap dy);simp;omega) za7.o (.slice (some ⟨g,0,none⟩) (l0+1) cap) ok W2 ⟨uo,un,ua,ul,uc,ub,um,ue⟩ (LC.o.later (aq.tr bG)) ⟨(LH.o.1.kp hF.kp (fun b hb h=>(LH.o.2 b hb).1 h)).later bG,fun b hb=>by have:=(LH.o.2 b hb).2;have:=hF.size;have:=bG.size;omega⟩ ((hu.later aq).later bG);simp only[PlQ.cells,PlQ.val,FQ.val]at CC P0 P1 P2 P3 P4 P5 P6 P7 P8;have eW:=qg (c:=ps.reverse) (ins:=(n :: ins)) dy;rw[BG]at eW;have gV:=fun (h:e8 ps.reverse (n :: ins) s[k]=none)=>BJ (c:=ps.reverse) (ins:=(n :: ins)) (ap dy) h;have ⟨U,hU⟩:=aj (e8 ps.reverse (n :: ins) s[k]);have qul:=();exact qbJ):G:=h
theorem qdV(h:G:=by
 obtain ⟨bb,off,⟨qo,qn,qa,ql,qc,qb,qm,qe⟩,rfl,hok,hf,c0,c1,c2,c3,c4⟩:=Z9.o.get bj
 first
 |clear qzm;have l8:=H2.o.1.tr aq;have qzn:=();exact qku
 |clear qzo;have qv6:=();exact qi2
 |have l8:=H1.o.1.tr aq;exact qku):G:=h
theorem qcZ(h:G:=by
 repeat (go_big_quiet_step ((go_at_call 17;exact bU (HC.o _))))
 first
 |clear qsA;have qpx:=();exact qad
 |clear qsD;have qpD:=();exact qad
 |have qpF:=();exact qad):G:=h
theorem qfs(h:G:=by
 exact bK (v:=.bool true) (by simp[results,Tryz.results9,go_sem,tr]) TK ⟨rfl,ig⟩):G:=h
theorem qft(h:G:=by
 exact bK (v:=.bool true) (by simp[results,Tryz.results9,go_sem,tr]) UV ⟨rfl,eG⟩):G:=h
theorem qks(h:G:=by
 have js:=fS bj;have hB:Below wr.heap.size wr (wr.alloc (.cells #[.bool u.v,.string u.n,.slice u.a u.l u.c] 43)):=cI;have y':=bi.size
 first
 |clear qzp;have D8:∀ b,M b->b<(wr.alloc (.cells #[.bool u.v,.string u.n,.slice u.a u.l u.c] 43)).heap.size:=fun b hb=>by have:=DT.o b hb;simp;omega
  first
  |clear qyG;have qzq:=();exact qkv
  |clear qyH;have vj:(pre ++ ([n] ++ ao (a.take k)) ++ aE a[k]) <+: xs:=by
    have qc4:=();exact qbD
   have CC:=fd.o a[k] (ap bj) M B l J xs (pre ++ ([n] ++ ao (a.take k))) _ u D8 (fun t=>(HJ.o t).mono (by simp;omega)) (HY.o.later (bi.trans (Kp.below hB))) (hu.kp (bi.trans (Kp.below hB))) vj (HJ.o _ _ _ (Nw.below hB) hj);have qkw:=();exact qbC
  |clear qyJ;exact qkv
  |have vj:(pre ++ ([n] ++ ao (a.take k)) ++ aE a[k]) <+: xs:=by
    have qc4:=();exact qbD
   have CC:=fd.o a[k] (ap bj) M B J xs (pre ++ ([n] ++ ao (a.take k))) _ u D8 (fun t=>(HJ.o t).mono (by simp;omega)) HG.o (hu.kp (bi.trans (Kp.below hB))) vj (HJ.o _ _ _ ((Nw.below hB)) hj);exact qbC
 |have hmW:=HMW.o.1;have Rm:=HS1.o;have D8:∀ b,(M b\/b=mb)->b<(wr.alloc (.cells #[.bool u.v,.string u.n,.slice u.a u.l u.c] 43)).heap.size:=fun b hb=>by
   rcases hb with hb | hb
   ·have:=DT.o b hb;have:=HMW.o.2;simp;omega
   ·simp;omega
  have vj:(ao (a.take k) ++ aE a[k]) <+: ao a:=by
   exact qbD
  have CC:=BM (W.heap.size+1) (W.heap.size+2) a[k] (HFT.o _ (ap bj)) (fun b=>M b\/b=mb) wr.heap.size (FrJ J pre M W0 mb n bs l W.heap.size) (ao a) (ao (a.take k)) _ u D8 (fun t=>(HFA.o wr y' t).mono (by simp)) HG.o
   ((hu.move (ok':=fun b=>b<wr.heap.size/\¬(M b\/b=mb)) (fun b hb hlt=>⟨⟨bJ hlt hj.kp.size,fun h=>by rcases h with h | h;exact hb.2 h;have:=ZQ.o;omega⟩,(Kp.trans hj.kp (Kp.below hB)).same b hlt hb.2⟩))) vj (HFA.o wr y' _ _ _ (Nw.below hB) hj)
  unfold TQ.val frV at CC;have qzr:=();exact qcV):G:=h
theorem qkx(h:G:=by
 have ⟨m,hm⟩:=aj (di (aL [] f));rw[<-hm]at hE;have L9:∀ x∈m,x.length<=2000000:=fun x hx=>by rw[hm,dV]at hx;exact nU f [] wm.o.2.1.2 x hx
 first
 |clear qzs;have JG:m.length<=2000000:=by rw[hm];have h1:=eH (aL [] f);have h2:=fp f [];have h3:=wm.o.2.2;omega
  have HM:=aA L9 JG;clear L9 JG;have sg:=ab hE;have qtE:=();exact qag
 |have JG:m.length<=400:=by rw[hm];have h1:=eH (aL [] f);have h2:=fp f [];have h3:=wm.o.2.2;omega
  have HM:=bx L9 JG hm;have ⟨HYl,HE2,zdF⟩:=cE JB hE xx;clear L9 JG hm hE aT zC fC K1 GZ JB xx ro JD GC L4;have qwN:=();exact qdF):G:=h
theorem qiX(h:G:=by
 refine nG Tryz.func127 ?_;simp only[Tryz.ntmps127,Nat.reduceAdd,Nat.reduceSub,lE]
 first
 |clear qvW;have jx:=eU
  first
  |clear qxB;gi_wp2_with (first | (gi_at_call 119;rw[<-HX.o];refine aH.2 (t7.o.mono ?_);rintro e w3 ⟨rfl,aG⟩;have y1:=(aG.block _ (by have:=HY.o.2.2.2.1;omega)).trans HY.o.2.1;have y0:=(aG.block _ (by have:=HY.o.2.2.2.1;omega)).trans HY.o.2.2.1;have qB:=aG.size;have o9:=HY.o.2.2.2.1;have Lx:w.heap.size+2<=w3.heap.size:=(by omega);have bD:=cq (HY.o.1.tr aG) y1 y0 (HY.o.2.2.2.2.tr aG);obtain ⟨p0,p1,p2,_⟩:=fV y0;clear aG qB o9 y1;have cF:Below w3.heap.size w3 (w3.alloc (.cells #[.bool true,.string ⟨n.toArray⟩,.slice none 0 0] 43)):=cI;have r2:=aa cF p2;clear y0 cF) | (gi_at_call 128;refine aH.2 ((_o.o _ bD.o.2.2.2).mono ?_);rintro e w4 ⟨rfl,Yn⟩;cases Yn));clear p0 p1 p2 r2;have ⟨W1,bY⟩:=aj (w3.alloc (.cells #[.bool true,.string ⟨n.toArray⟩,.slice none 0 0] 43));have jf:Below w.heap.size w W1:=by rw[bY];exact bD.o.1.tr cI
   have x1:W1.heap[w.heap.size+1]?=some (.cells #[.bool false,.string ⟨#[]⟩,.slice none 0 0] 43 (0,0)):=by rw[bY];exact (bH _ _ _ (by omega)).trans bD.o.2.1
   have x2:=bS bY;have qzt:=();exact qaL
  |gi_wp2_with (first | (gi_at_call 119;rw[<-HX.o];refine aH.2 (t7.o.mono ?_);rintro e w3 ⟨rfl,aG⟩;have y1:=(aG.block _ (by have:=HY.o.2.2.2.1;omega)).trans HY.o.2.1;have y0:=(aG.block _ (by have:=HY.o.2.2.2.1;omega)).trans HY.o.2.2.1;have qB:=aG.size;have o9:=HY.o.2.2.2.1;have Lx:w.heap.size+2<=w3.heap.size:=(by omega);have bD:=cq (HY.o.1.tr aG) y1 y0 (HY.o.2.2.2.2.tr aG);obtain ⟨p0,p1,p2,_⟩:=fV y0;clear aG qB o9 y1;clear y0) | (gi_at_call 128;refine aH.2 ((_o.o _ bD.o.2.2.2).mono ?_);rintro e w4 ⟨rfl,Yn⟩;cases Yn) | (gi_at_call 130;refine aH.2 ((fK n _ (by omega)).mono ?_);rintro e w7 ⟨rfl,hw5⟩;cases hw5) | (gi_at_call 131;refine aH.2 ((h_ (bI n) _).mono ?_);rintro e w7 ⟨rfl,bh⟩;have x1:=(bh.block _ (by omega)).trans bD.o.2.1;obtain ⟨e0,e1,e2,z0,z1,z2⟩:=fV x1;have H5:=aA (bD.o.1.tr bh) x1;have hz6:=bh.size;clear bh x1));have x6:=qu (v0:=.bool true) (v1:=.string ⟨(bI n).toArray⟩) (v2:=.slice none 0 0) H5.o.2;have k6:=eN (W:=w7) (b:=w.heap.size+1) (v0:=.bool true) (v1:=.string ⟨(bI n).toArray⟩) (v2:=.slice none 0 0);have ⟨W6,cQ⟩:=aj (((w7.setCell ⟨w.heap.size+1,0,none⟩ (.bool true)).setCell ⟨w.heap.size+1,1,none⟩ (.string ⟨(bI n).toArray⟩)).setCell ⟨w.heap.size+1,2,none⟩ (.slice none 0 0));rw[<-cQ]at x6 k6 ⊢;clear cQ;obtain ⟨g0,g1,g2,_⟩:=fV x6;refine bK (v:=TQ.val ⟨true,⟨(bI n).toArray⟩,none,0,0⟩) (by simp[TQ.val,results,Tryz.results127,go_sem,g0,g1,g2]) rfl ⟨⟨⟨true,⟨(bI n).toArray⟩,none,0,0⟩,rfl,aM.2 ⟨_,rfl,none,0,fun _=>.string ByteArray.empty,rfl,.inl rfl,fun j hj=>absurd hj (by simp)⟩⟩,Below.kp1 H5.o.1 k6 (by omega)⟩
 |exact qc1):G:=h
theorem qbA(h:G:=by
 rw[<-cQ]at x6 k6 ⊢;clear cQ;obtain ⟨g0,g1,g2,g3,_,_,_,_⟩:=dc x6
 first
 |clear qrV;refine bK (v:=.tuple #[FQ.val ⟨0,⟨#[]⟩,none,0,0,none,0,0⟩,.int .i64 2]) (by simp[FQ.val,results,Tryz.results32,go_sem,g0,g1,g2,g3]) rfl ⟨⟨⟨0,⟨#[]⟩,none,0,0,none,0,0⟩,(by rw[HE.o];try rfl),?_⟩,Below.kp1 (HB.o.1.tr H4.o) k6 (by omega)⟩;rw[HE.o];exact mO
 |clear qrW;refine bK (v:=.tuple #[FQ.val ⟨0,⟨#[]⟩,none,0,0,none,0,0⟩,.int .i64 3]) (by simp[FQ.val,results,Tryz.results32,go_sem,g0,g1,g2,g3]) rfl ⟨⟨⟨0,⟨#[]⟩,none,0,0,none,0,0⟩,(by rw[HE.o];try rfl),?_⟩,Below.kp1 (H8.o.1.tr H9.o) k6 (by omega)⟩;rw[HE.o];exact mO
 |clear qrX;refine bK (v:=.tuple #[FQ.val ⟨0,⟨#[]⟩,none,0,0,none,0,0⟩,.int .i64 er]) (by simp[FQ.val,results,Tryz.results32,go_sem,g0,g1,g2,g3]) rfl ⟨⟨⟨0,⟨#[]⟩,none,0,0,none,0,0⟩,(by rw[HE.o];try rfl),?_⟩,Below.kp1 (HB.o.1.tr (H5.o.1.tr H6.o)) k6 (by omega)⟩;rw[HE.o];exact mO
 |refine bK (v:=.tuple #[FQ.val ⟨p0,p1,p2,p3,p4,p5,p6,p7⟩,.int .i64 0]) (by simp[FQ.val,results,Tryz.results32,go_sem,g0,g1,g2,g3]) rfl ⟨⟨⟨p0,p1,p2,p3,p4,p5,p6,p7⟩,(by rw[HE.o];try rfl),?_⟩,Below.kp1 (H8.o.1.tr H9.o.1) k6 (by omega)⟩;rw[HE.o];exact (H9.o.2.move (fun b hb hlt=>⟨by have h:w6.heap.size<=b:=hb;have:=HS8.o;have:=HB.o.1.size;omega,k6.same b hlt (by have h:w6.heap.size<=b:=hb;have:=HS8.o;have:=HB.o.2.1;omega)⟩))):G:=h
theorem qgc(h:G:=by
 go_quiet ((first | (go_at_call 240;exact f_ (CR.o _)) | (go_at_call 190;exact f_ (CF.o _))))
 first
 |clear qqc;exact qcJ
 |exact qge):G:=h
theorem qgd(h:G:=by
 go_quiet ((first | (go_at_call 240;exact f_ (CR.o _)) | (go_at_call 216;exact f_ (CF.o _))))
 first
 |clear qqg;exact qcJ
 |go_wp2;go_loopw [5] (fun i wr=>∃k:Nat,1<=k/\k<=s.size/\i=.int .i64 k/\ml D7 (s.data.toList.take k).tail=true/\∃n,wr=w.drewN n) (fun i _=>s.size - (intOf i).toNat)
  case atStart=>exact ⟨1,aC _,h1,rfl,by rw[List.take_one];cases s.data.toList <;> simp[ml],⟨_,rfl⟩⟩
  case round=>
   obtain ⟨k,kt,hk,rfl,ha,hw⟩:=hrel;have KN:wr.cell? ⟨b2,0,none⟩=some (.func (.func 217) #[] #[]):=by obtain ⟨n,rfl⟩:=hw;exact E5
   have ⟨HA,HW⟩:=aS ha hw;clear ha d1 d2 hw XA E5
   by_cases hlt:k<s.size
   ·cases hp:D7 s[k].toNat
    ·have HP:=ab hp;have qzu:=();exact qky
    ·have HP:=ab hp;exact qky
   ·obtain rfl:k=s.size:=by omega
    exact qgo):G:=h
theorem qkz(h:G:=by
 have _Q:((m0:Int) != (r4:Int))=true:=by simp;omega
 have HE:Hd (BX=false):=ab (hM.trans (by simp[Pw]));exact qdL):G:=h
theorem qb4(h:G:=by
 have xS:=ko.o b jy;have d0:=bi.cell xS c0;have d1:=bi.cell xS c1;have d2:=bi.cell xS c2
 first
 |clear qlX;have nO:=jT l (k+1);have js:=kB bj;have IM:=vd bj;have Gj:=AW (sc:=sc) bj;have gI:TermV ok wr u.val l[k]:=hu.move (fun b hok hlt=>⟨hok,bi.same b hlt (ko.o b hok)⟩);have Zp:=qV l[k];have fR:=HL.o l[k] (ap bj) ok J sc (left - nodesTs (l.take k)) bz bc (wr.alloc (.cells #[.bool u.v,.string u.n,.slice u.a u.l u.c] 43)) u (gI.later cI) ko.o (hj.later cI) (by omega) (by omega) hde hd (by omega);have ⟨bb,cZ⟩:=aj (jc sc l[k] && (decide ((nodesT l[k]:Int)<=left - nodesTs (l.take k)) && decide (bc+dh l[k]<=bz+1)));rw[<-cZ]at fR
  cases bb with
  | true=>
   have pt:=cZ.symm;simp only[ae,br]at pt;have hrel:d9 sc (l.take (k+1))=true/\((nodesTs (l.take (k+1)):Int))<=left/\bc+bE (l.take (k+1))<=bz+1/\left - nodesTs (l.take k) - nodesT l[k]=left - nodesTs (l.take (k+1)):=⟨by rw[Gj,ha,pt.1];rfl,by omega,by omega,by omega⟩;have ⟨HR,HC,lj⟩:=cE hrel fR bi;clear hrel fR cZ pt Gj IM js nO Zp ha hb hc hj bi hu gI c0 c1 c2;go_wp2_with (go_at_call 122;refine HC.o.mono ?_;rintro e w3 ⟨rfl,jr,l3,qK,M9,U1,IC⟩;have rG:=bx jr qK (IC rfl);clear jr qK M9 U1 IC);exact qhY
  | false=>
   have kC:(d9 sc l && (decide ((nodesTs l:Int)<=left) && decide (bc+bE l<=bz+1)))=false:=by
    have dD:=jT l (k+1);have hdm:=IL bj
    cases h1:jc sc l[k] with
    | false=>rw[QU bj h1];rfl
    | true=>
     have qu2:=();exact qdj
   have ⟨HF,HC,lj⟩:=cE kC fR bi;clear kC fR cZ Gj IM js nO Zp ha hb hc hj bi hu gI c0 c1 c2;go_wp2_with (go_at_call 122;refine HC.o.mono ?_;rintro e w3 ⟨rfl,jr,l3,qK,M9,U1,IC⟩;have rG:=cq jr qK M9 U1;clear jr qK M9 U1 IC);go_ret;exact ⟨az HF.o.symm,lj.o.trans ((Kp.below cI).trans rG.o.1),l3,rG.o.2.1,rG.o.2.2.1,by have:=rG.o.2.2.2;omega,fun h=>by rw[HF.o]at h;cases h⟩
 |clear qlZ;have js:=kB bj;have nO:=jT l (j+1);have hf:=HF.o.mem (ap bj);have p_:=fd.o l[j] (ap bj);have gI:TermV ok wr u.val l[j]:=hu.move (fun b hok hlt=>⟨hok,bi.same b hlt (ko.o b hok)⟩);obtain ⟨⟨xv,xn,xa⟩,hx⟩:∃x,l[j]=x:=⟨_,rfl⟩;rw[hx]at gI hf p_ js;have tP:nodesT (.mk xv xn xa)=nodesTs xa+1:=rfl;rw[tP]at js;obtain ⟨s1,h2,fC⟩:=aM.1 gI;obtain ⟨uv,un,ua,ul,uc⟩:=u;have qvK:=();exact qbS
 |have d3:=bi.cell xS c3;have nO:=bQ s (k+1);have js:=dr bj;have IM:=iH bj;have Gj:dt sc (s.take (k+1))=_:=kE bj;exact qfM):G:=h
theorem qb0(h:G:=by
 rw[hp];have CP:=ab (fun w=>ob r w hn);have hr:r.length<=1000000000:=by simp at hn;omega
 first
 |clear qlI;have hs:=hO (63 :: r);have qv3:=();exact qa6
 |clear qlK;have qv4:=();exact qa6
 |have qv5:=();exact qa6):G:=h
theorem qkA(h:G:=by
 have Ux:=eH (aL [] g);have uM:=fp g [];have CT:=fT (di (aL [] g)) (by have:=ox.o.1;omega) nx _ wf vf UB.o.strs;rw[my,zs]at CT;have I_:=ab CT
 first
 |clear qzv;clear Ux uM CT zs;gi_wp2_with (gi_at_call 128;refine aH.2 (I_.o.mono ?_);rintro e w4 ⟨rfl,rfl⟩);have CC:=oU (.mk qo n [] [g]) HFq.o.1 ok w4 ⟨qo,⟨n.toArray⟩,qa,0,qc,some ⟨b,off,none⟩,1,qe⟩ (HFq.o.2.later Jh.o.below);exact qgf
 |clear Ux uM CT;have CFT:=mv z RD.o.1 (fun _=>True) (wf.alloc (.cells #[.int .u8 go,.string gn,.slice ga gl gc,.slice gb gm ge] 36)) ⟨zv,zn,za,zl,zc⟩ ((HZ.o.later Jh.o.below).move (xH cI));simp only[TQ.val]at CFT;have zdo:=ab CFT;have ZW:=Jh.o.later ((ai _ _).alloc (aC _) (.cells #[.int .u8 go,.string gn,.slice ga gl gc,.slice gb gm ge] 36));have ⟨d0,d1,d2,d3⟩:=lH Jh.o.below HC.o.1 HC.o.2.1 HC.o.2.2.1 HC.o.2.2.2;have ⟨u0,u1,u2⟩:=mq ZW.bu;have ⟨GD,HCn⟩:=aS ZW zs;clear CFT ZW zs;gi_wp2_with fail;refine aH.2 (I_.o.mono ?_);rintro e w4 ⟨rfl,rfl⟩;gi_wp2_with fail;refine aH.2 (zdo.o.mono ?_);rintro e w6 ⟨⟨vn,rfl,hvn⟩,cF⟩;clear d0 d1 d2 d3 u0 u1 u2 p0 p1 p2 p3;have ZX:=GD.o.later cF;have t6:w6.heap[w4.heap.size]?=some (.cells #[.int .u8 go,.string gn,.slice ga gl gc,.slice gb gm ge] 36 (0,0)):=(cF.block _ (by simp)).trans (ah rfl);have hlz:=eH (aE z);have tM:=oP z;have CT2:=fT (di (aE z)) (by have:=RD.o.2;omega) n _ w6 vn hvn.strs;rw[my]at CT2;have ⟨zdp,GE,HT6,HVn⟩:=eD CT2 ZX t6 hvn;have Vp:=ab (show Below w4.heap.size w4 w6 from cI.tr cF);have n1:=ag ZX.b0 1;clear CT2 ZX t6 hlz tM hvn cF;gi_wp2_with fail;refine aH.2 (zdp.o.mono ?_);rintro e w7 ⟨rfl,rfl⟩
  cases RH:(aE z).contains n with
  | false=>
   have ym:Hd (RS=.mk qo n [] [fI kk nx z g]):=ab (by rw[XV.o,pE qL,HCn.o,RH,ak (by simpa using hn)];rfl);have HGX:=ab ((HG.o.later Jh.o.below).later Vp.o);clear n1 RH;have CP:=fd.o W0 g nx z ox.o.2.2.2.2 ox.o.1 ox.o.2.1 ox.o.2.2.1 ox.o.2.2.2.1 Ns.o RD.o.1 RD.o.2 _ _ w7 ⟨go,gn,ga,gl,gc,gb,gm,ge⟩ ⟨zv,zn,za,zl,zc⟩ (RE.o.next GE.o.below) HGX.o (HZ.o.later GE.o.below);simp only[FQ.val,TQ.val]at CP;have LN:=ab CP;have ⟨tu0,tu1,tu2⟩:=mq GE.o.bu;have ⟨tt0,tt1,tt2,tt3⟩:=nI HT6.o;exact qgv
  | true=>
   have zdq:=eH (aL [] g);have zdr:=fp g [];have zds:=eH (aE z);have zdt:=oP z;have za9:=RD.o.2;have zba:=ox.o.1;have zbb:OwnS ix.heap.size w7 vf (di (aL [] g)):=OwnS.later (show OwnS ix.heap.size w4 vf (di (aL [] g)) from UB.o.1) Vp.o;have zbc:∀ b,vf.ownBlock=some b->w.heap.size+3<b/\b<w4.heap.size:=fun b hb=>by
    have h1:=(UB.o.1.lt b hb);have h2:=HPB.o.lt;exact ⟨by omega,by omega⟩
   have ⟨m,hm⟩:=aj (dL (aL [] g ++ aE z));have Nt:dL (di (aL [] g) ++ di (aE z))=m:=by rw[hm];exact LL (by omega) (by omega) (by omega) (by omega)
   have ro:m.length<=2000000:=by rw[hm];exact pF (by simp only[cU];omega)
   have mt:∀ x∈di (aL [] g) ++ di (aE z),x.length<=2000000:=fun x hx=>by
    rcases List.mem_append.1 hx with hx | hx
    ·exact nU g [] ox.o.2.2.2.2.2 x ((dV x _).1 hx)
    ·exact m4 z RD.o.1.2 x ((dV x _).1 hx)
   have o8:(di (aL [] g) ++ di (aE z)).length<=1000000:=by simp only[cU];omega
   have ym:Hd (RS=.mk qo m [] [fI kk nx z (fI kk n (aP m) g)]):=ab (by rw[XV.o,pE qL,HCn.o,RH,ak (by simpa using hn),aw rfl,<-hm];rfl);have HM:=cq Nt ro mt o8;have ⟨HVB,HV6⟩:=aS zbc zbb;have HL6:=ab (show ix.heap.size<=w7.heap.size from aN (by have:=Jh.o.below.size;have:=HPB.o.lt;exact zdn.o) Vp.o.size);have Vq:=ab (show (di (aL [] g)).length+(di (aE z)).length<=4000000 by omega);clear n1 RH zdq zdr zds zdt za9 zba zbb zbc hm Nt ro mt o8;gi_wp2_with (gi_at_builtin;refine qC rfl _ _ rfl ix.heap.size HL6.o vf _ rfl HV6.o vn _ rfl _ HVn.o.strs Vq.o ?_;intro v8 w8 Ji XY;have Vr:=aA Ji XY;clear Ji XY);have ZZ:=GE.o.grown Vr.o.2 (fun b hb=>(HVB.o b hb).1);have t8:w8.heap[w4.heap.size]?=some (.cells #[.int .u8 go,.string gn,.slice ga gl gc,.slice gb gm ge] 36 (0,0)):=(Vr.o.2.block _ (by have:=Vp.o.size;have:=(bA HT6.o);omega) (fun e=>by have:=(HVB.o _ e.symm).2;omega)).trans HT6.o;have Z0:=Fb W0 w8 (RE.o.next ZZ.below) _ HM.o.2.2.2 HM.o.2.2.1 _ v8 Vr.o.1.strs;rw[HM.o.1]at Z0;have ⟨Z1,zdu,HT8⟩:=cE Z0 ZZ t8;clear Z0 ZZ t8;refine aH.2 (Z1.o.mono ?_);rintro e w9 ⟨rfl,mz⟩;have vS:=zdu.o.later mz;have t9:w9.heap[w4.heap.size]?=some (.cells #[.int .u8 go,.string gn,.slice ga gl gc,.slice gb gm ge] 36 (0,0)):=bN mz HT8.o;have q1:=ag vS.b2 1;have zq1:=ac vS.b2 1;have nM:=vS.setR 1 (.string ⟨m.toArray⟩);have tA:(w9.setCell ⟨w.heap.size+1+1+1,1,none⟩ (.string ⟨m.toArray⟩)).heap[w4.heap.size]?=some (.cells #[.int .u8 go,.string gn,.slice ga gl gc,.slice gb gm ge] 36 (0,0)):=(eC _ _ _ _ (by have:=Jh.o.lt;simp <;> omega)).trans t9;have ⟨OQ,Z2⟩:=aS nM tA;clear mz vS t9 nM tA;gi_wp2;have ⟨W2,aZ⟩:=aj (w9.setCell ⟨w.heap.size+1+1+1,1,none⟩ (.string ⟨m.toArray⟩));rw[<-aZ]at OQ Z2 ⊢;clear aZ q1 zq1;have qtw:=();exact qag):G:=h
theorem qj4(h:G:=by
 have l2:=(hl (w4.alloc (.cells #[.bool false,.string ⟨#[]⟩,.slice none 0 0] 43)).drew (bH _ _ _ (by have:=l9.ts.lt;omega))).1
 first
 |clear qyt;have ⟨W6,cQ⟩:=aj (w4.alloc (.cells #[.bool false,.string ⟨#[]⟩,.slice none 0 0] 43)).drew;have qG:Below w4.heap.size w4 W6:=by rw[cQ];exact cF.drew
  have oq:Below W3.heap.size W3 W6:=H4.o.tr qG;have Ez:Below W6.heap.size W6 W6.drew:=(ai _ _).drew;have RW:=(l9.later qG).later Ez;have zbq:=(HV.o.2.1.later oq).later Ez;obtain ⟨w6,cD,Jn,Jo,sd⟩:=RW.storeT (fun h=>h HG.o.2.2.2.1) (by have:=RV.o.1;omega) (x:=n) (by omega) zbq HF.o.2 (l':=g_ n (.mk uv n' a') k.ts) (fun y=>BU hg y);have r0:=aa qG g0;have r1:=aa Ez r0;have r2:=aa oq e1;have r3:=aa Ez r2;have r4:=aa oq f0;have r5:=aa Ez r4;have r6:=aa oq f1;have r7:=aa Ez r6;have r8:=aa oq f2;have r9:=aa Ez r8;have HE:=ab (show R=some (g_ n (.mk uv n' a') k.ts) by rw[HR.o,aw (by simp[l_]),hg]);have Ex:=aA Jn ((Kp.below ((H3.o.1.tr oq).tr Ez)).trans Jo);unfold TQ.val at cD;clear l9 hl RW zbq Jn Jo sd hg oq qG Ez;go_region
  all_goals
   rw[<-cQ];clear cQ;go_wp2;go_region;go_wp2;go_ret;exact ⟨Ex.o.2,true,rfl,(fun h=>by rw[HE.o]at h;cases h),(fun ts eW=>⟨rfl,nT+1,by have:=RV.o.2;omega,by rw[HE.o]at eW;cases eW;exact Ex.o.1⟩)⟩
 |have ⟨W6,cQ⟩:=aj (w4.alloc (.cells #[.bool xv,.string xn,.slice xa xl xc] 43)).drew;have qG:Below w4.heap.size w4 W6:=by rw[cQ];exact cI.drew
  have oq:Below W3.heap.size W3 W6:=H4.o.tr qG;have x5:W6.heap[w4.heap.size]?=some (.cells #[.bool xv,.string xn,.slice xa xl xc] 43 (0,0)):=by rw[cQ];exact ah rfl
  have ⟨r0,r1,r2⟩:=jX oq f0 f1 f2;obtain ⟨s0,s1,s2,_⟩:=fV x5;have CS:=vZ u (.mk uv n' a') _ _ W6 ⟨xv,xn,xa,xl,xc⟩ ⟨uv,⟨n'.toArray⟩,ua,n2,uc⟩ (HG.o.2.1 _ hpu) (HG.o.2.1 _ HF.o.2) (hxv.later qG) (HV.o.2.1.later oq);simp only[TQ.val]at CS;have uP:=ab CS;have HE:=ab (show R=if xF u (.mk uv n' a') then some k.ts else none by rw[HR.o,aw (by simp[l_]),hg]);have Vz:=aA (l9.later qG) (H3.o.1.tr oq);have ⟨bb,cZ⟩:=aj (xF u (.mk uv n' a'));rw[<-cZ]at HE uP;clear l9 hl hg oq qG x5 CS cZ hxv hpu;go_region
  all_goals
   rw[<-cQ];clear cQ;go_wp2_with (go_at_call 162;refine uP.o.mono ?_;rintro e w6 ⟨rfl,bh⟩;have H6:=ab bh;clear bh);go_ret;refine ⟨Kp.below (Vz.o.2.tr H6.o),bb,rfl,(fun h=>?_),(fun ts eW=>?_)⟩
   ·rw[HE.o]at h;cases bb;rfl;cases h
   ·rw[HE.o]at eW;cases bb;cases eW;cases eW;exact ⟨rfl,nT,by omega,Vz.o.1.later H6.o⟩):G:=h
theorem qdW(h:G:=by
 obtain ⟨k1,hk,rfl,row,hF⟩:=hrel;obtain ⟨Gz,Rp⟩:∃x,x=wr:=⟨_,rfl⟩;subst Rp
 first
 |clear qzw;have aq:=hF.below dY.o (by omega)
  by_cases hlt:k1<n1
  ·have dy:=cb qE.o hlt;have qwp:=();exact qai
  ·obtain rfl:k1=n1:=by omega
   exact qfH
 |clear qzx;have aq:=hF.below sF.o (Nat.le_add_right _ 2)
  by_cases hlt:k1<k0
  ·have dy:=cb du.o hlt;have qwr:=();exact qai
  ·obtain rfl:k1=k0:=by omega
   have ce:((a.map aK).take k1).length=k1:=by rw[dS];have:=du.o;simp;omega
   have j_:(a.map aK).take k1=(a.map aK):=iP (by have:=du.o;simp;omega);have qvG:=();exact qdt
 |have aq:=hF.below dY.o ((by omega))
  by_cases hlt:k1<k0
  ·have dy:=cb du.o hlt;have qwi:=();exact qai
  ·obtain rfl:k1=k0:=by omega
   exact qfE):G:=h
theorem qkB(h:G:=by
 rw[HE.o];exact H6.o.2.1.move (fun b hb hlt=>⟨aN H5.o.1.size hb,k8.same b hlt (by have:=(bA H5.o.2);omega)⟩)):G:=h
theorem qkc(h:G:=by
 simp only[af];refine c_ 5 23 (.string ⟨n.toArray⟩) rfl (fun V hX=>by obtain ⟨h0,h1,h2⟩:=ff V hX;go_simp) jj fun jz=>?_;simp only[af]
 first
 |clear qyM;refine c_ 6 24 (.agg #[.bool z0,.string z1,.slice z2 z3 z4]) rfl (fun V hX=>by obtain ⟨h0,h1,h2⟩:=ff V hX;go_simp) jz fun lM=>?_
  have qzy:=();exact qaK
 |refine c_ 6 24 (.agg #[.int .u8 g0,.string g1,.slice g2 g3 g4,.slice g5 g6 g7]) rfl (fun V hX=>by obtain ⟨h0,h1,h2⟩:=ff V hX;go_simp) jz fun lM=>?_
  exact qaK):G:=h
theorem qfP(h:G:=by
 go_wp2_with (first | (go_at_call 115;refine C1.o.mono ?_;rintro e w' ⟨rfl,nJ⟩;obtain rfl:=nJ.symm));go_ret
 first
 |clear qoW;exact JPost.no (l:=left - 1) HE.o (nL.o) (xz.o) (by omega) (by omega)
 |exact JPost.no (l:=left - 1) HE.o pu.o.1 pu.o.2.1 (by omega) (by omega)):G:=h
theorem qkC(h:G:=by
 have ht:l.take k=l:=by rw[du.o];exact cK
 rw[ht]at hR ⊢;have ⟨HR,HB,HT⟩:=cE hR aq ht;clear hR aq ht;rw[<-du.o]at HR ⊢;go_wp2;go_ret
 first
 |clear qzz;exact ⟨ra,rc,rfl,by have:=HR.o.terms;rw[du.o]at *;exact this,HB.o⟩
 |exact ⟨ra,rc,rfl,by have:=HR.o.forms;rw[du.o]at *;exact this,HB.o⟩):G:=h
theorem qbU(h:G:=by
 have CN:=ab (fun w=>dD ▸ rU r2 Rz n tM w)
 first
 |clear qj8;have HE:Hd (BX=false):=ab (hM.trans (by simp[dD]));exact qdL
 |clear qyE
  by_cases dy:k0<=r3
  ·have _O:¬((r3:Int)<(k0:Int)):=by omega
   by_cases Pw:m0=r4
   ·have _P:((m0:Int) == (r4:Int))=true:=by simp;omega
    have qw9:=();exact qjs
   ·have _P:((m0:Int) == (r4:Int))=false:=by simp;omega
    exact qkz
  ·have _O:(r3:Int)<(k0:Int):=by omega
   exact qkD
 |by_cases dy:k0<=r3
  ·have _O:¬((r3:Int)<(k0:Int)):=by omega
   by_cases Pw:m0=r4
   ·have _P:((m0:Int) == (r4:Int))=true:=by simp;omega
    exact qjs
   ·have _P:((m0:Int) == (r4:Int))=false:=by simp;omega
    exact qkz
  ·have _O:(r3:Int)<(k0:Int):=by omega
   exact qkD):G:=h
theorem qkE(h:G:=by
 have ce:((a.map aK).take k).length=k:=by rw[dS];have:=du.o;simp;omega
 have j_:(a.map aK).take k=(a.map aK):=iP (by have:=du.o;simp;omega)
 first
 |clear qzA;have qzB:=();exact qax
 |have qzC:=();exact qax):G:=h
theorem qjq(h:G:=by
 have ⟨W5,e_⟩:=aj (w4.alloc (.cells #[.int .u8 p0,.string p1,.slice p2 p3 p4,.slice p5 p6 p7] 36));rw[<-e_];have qG:=cM e_
 first
 |clear qzD;have oq:Below W3.heap.size W3 W5:=H4.o.2.tr qG;have Lx:=Gb e_;have x7:=bS e_;have Jw:FormV (fun b=>¬M b) W5 (FQ.val ⟨p0,p1,p2,p3,p4,p5,p6,p7⟩) im:=H4.o.1.move (fun b hb hlt=>⟨fun hm=>by have:=HG.o.2.2.2.2 b hm;have:=H3.o.1.size;omega,qG.block b hlt⟩);have j4:=nL.o.later oq;have bj:kb<W5.heap.size:=j4.ltb;have g0:W5.cell? ⟨kb,0,none⟩=some (.map (some mF)):=ag j4.box 0;have g1:W5.drew.cell? ⟨kb,0,none⟩=some (.map (some mF)):=ag j4.box 0;have g2:=aa oq e1;have g3:=aa oq.drew e1;have bh:Below W5.heap.size W5 (W5.alloc (.cells #[.int .u8 0,.string ⟨#[]⟩,.slice none 0 0,.slice none 0 0] 36)):=cI;have ⟨g4,g5⟩:=AN bh g0 g2;have H5:=cq oq Jw x7 j4;rcases j4.fs.look Tryz.underlying9 Tryz.underlying145 mN (x:=n) (by have:=HF.o.2.2.1;omega) with ⟨hg,hlk⟩ | ⟨g,vg,hg,hvg,hlk⟩
  ·have l1:=(hlk W5.drew rfl).1;have qyR:=();exact qki
  ·obtain ⟨⟨GO,GP,GQ,GR,GS,GT,GU,GV⟩,rfl,oy,Jy⟩:=hvg;simp only[FQ.val]at hlk;have l1:=(hlk W5.drew rfl).1;exact qki
 |have G1:Below W2.heap.size W2 W5:=H4.o.2.tr qG;have x5:=bS e_;have Jw:FormV (fun b=>¬M b/\b≠W1.heap.size) W5 (FQ.val ⟨p0,p1,p2,p3,p4,p5,p6,p7⟩) im:=H4.o.1.move (fun b hb hlt=>⟨⟨fun hm=>by have:=HG.o.2.2.2.2 b hm;have:=H2.o.2.1.size;omega,by have:=zg.o.2.2.2.1;omega⟩,qG.block b hlt⟩);have hgi:=X7.o im rfl;have H5:=cq G1 x5 Jw hgi;have HT7:=ab (show W1.heap.size≠w4.heap.size by have:=zg.o.2.2.2.1;have:=H4.o.2.size;omega);have pH:=ab e_;clear P0 P1 P2 P3 P4 P5 P6 P7 P8 e0 e1 e2 e3 qG G1 x5 Jw hgi e_;have zbJ:=bN H5.o.1 H2.o.2.2.2;have ⟨P0,P1,P2,P3⟩:=nI zbJ;have zdO:=ab (HIN.o W5 (H2.o.1.tr H5.o.1));go_upto_region 10 with (go_at_call 96;refine zdO.o.mono ?_;rintro e w6 ⟨rfl,cF⟩;have H6:=ab cF;clear cF);clear P0 P1 P2 P3 zbJ;have _D:Below W2.heap.size W2 w6:=H5.o.1.tr H6.o;have x26:=bN _D H2.o.2.2.1;obtain ⟨e0,e1,e2,e3,_,_,_,_⟩:=dc x26;have zdP:=ab (O7.o w6 _D);clear _D x26;go_upto_region 11 with (go_at_call 97;refine zdP.o.mono ?_;rintro e w7 ⟨rfl,fW⟩;have H7:=ab fW;clear fW);clear e0 e1 e2 e3;have SH:Below W2.heap.size W2 w7:=(H5.o.1.tr H6.o).tr H7.o;have Mq:Below W5.heap.size W5 w7:=H6.o.tr H7.o;have V_:=bN SH H2.o.2.2.1;have x57:=bN Mq H5.o.2.1;obtain ⟨e0,e1,e2,e3,z0,z1,z2,z3⟩:=dc V_;obtain ⟨f0,f1,f2,f3,_,_,_,_⟩:=dc x57;have J9:=cq SH V_ x57 (H5.o.2.2.1.later Mq);have Yj:=ab (XD.o.later SH);have V7:=ab (Am.o.2.later SH);clear SH Mq V_ x57
  by_cases h0:n0=0
  ·subst h0;have ⟨bb,cZ⟩:=aj (cg [] f im);have hE:=_C.o;rw[aw rfl,<-cZ]at hE;have HE:=ab hE;have CA:=wi f im [] (.slice none 0 0) _ _ w7 ⟨GO,GP,GQ,GR,GS,GT,GU,GV⟩ ⟨p0,p1,p2,p3,p4,p5,p6,p7⟩ (by have:=Am.o.1.nodes;simp[eI];omega) Am.o.1.fit V7.o J9.o.2.2.2 (PairsV.nil w7);simp only[FQ.val,List.reverse_nil,<-cZ]at CA;have GW:=ab CA;clear hE CA cZ;cases bb
   ·go_wp2_with (go_at_call 92;refine GW.o.mono ?_;rintro e w8 ⟨rfl,iA⟩;have H8:=ab iA;clear iA);go_ret;exact StepPost.bad HE.o (by decide) (Kp.below (H2.o.2.1.tr (J9.o.1.tr H8.o)))
   ·go_wp2_with (go_at_call 92;refine GW.o.mono ?_;rintro e w8 ⟨rfl,iA⟩;have H8:=ab iA;clear iA);go_ret;exact StepPost.good nF nT HE.o (Kp.below (H2.o.2.1.tr (J9.o.1.tr H8.o))) (by omega) (by omega) ((Yj.o.later H8.o).move (fun b hb _=>⟨hb.1,rfl⟩) rfl rfl rfl)
  have V8:=_C.o;rw[ak h0]at V8;have qE:=ab (show n0<=400/\0<n0 by have:=Am.o.1.nodes;have:=pM dm f;have:=HN0.o;omega);have oQ:(0:Int)<(n0:Int):=by omega
  have zeU:=HF.o.2.2.1;have k0:w7.cell? ⟨kb,1,none⟩=some (.map (some mT)):=ag Yj.o.box 1;clear h0;rcases Yj.o.ts.look Tryz.underlying9 Tryz.underlying146 kg (x:=y) (by omega) with ⟨hg,hlk⟩ | ⟨t,vt,hg,hvt,hlk⟩
  ·have l1:=(hlk w7 rfl).1;clear hlk;go_upto_region 14 with fail;clear k0 l1 oQ e0 e1 e2 e3 z0 z1 z2 z3 f0 f1 f2 f3;have ⟨W8,kV⟩:=aj (w7.alloc (.cells #[.bool false,.string ⟨#[]⟩,.slice none 0 0] 43));have qzE:=();exact qkF
  ·obtain ⟨⟨R7,R8,R9,R_,Sa⟩,rfl,qF,Zz⟩:=hvt;simp only[TQ.val]at hlk;have l1:=(hlk w7 rfl).1;clear hlk;go_upto_region 18 with fail;clear k0 l1 oQ;have ⟨W8,kV⟩:=aj (w7.alloc (.cells #[.bool R7,.string R8,.slice R9 R_ Sa] 43));exact qkF):G:=h
theorem qba(h:G:=by
 obtain ⟨a1,a2,a3,a4⟩:=gL k g n m hw.2 hq1.2 (by omega)
 first
 |clear qzF;have hmx:m≠x:=fun e=>hm.1 (by rw[e];simpa using h1.2);have hmu:(aE u).contains m=false:=by simpa using hm.2
  have Nm:nodesT (aP m)=1:=by simp[aP,nodesT,nodesTs]
  have hU:1<=nodesT u:=by obtain ⟨_,_,_⟩:=u;simp[nodesT]
  simp only[jF,hq,if_true,rg,em];rw[nS k _ x u _ _ a1 a2 (by omega) (by omega),nS k g n (aP m) _ _ hw.2 hq1.2 (by omega) (by omega),IX hmu];congr 2;have e1:fY (upd (upd σ m (.lvl d)) x (fY σ u)) (aP m)=.lvl d:=by
   have:(m == x)=false:=by simpa using hmx
   simp[aP,fY,upd,this]
  rw[e1,vI _ hmx,vI (upd σ x (fY σ u)) (x:=m) (y:=n) (fun e=>by subst e;rw[h2]at hmu;cases hmu),IZ hm.1]
 |clear qzG;have b0:=pG k g n (aP m) hw.2 hq1.2 (by omega) (by simp[aP,nodesT,nodesTs]at *;omega) hf.2.2.2 (yi hm);have b1:=pG k _ x u a1 a2 (by omega) (by rw[a4];simp[nodesTs]at hs;omega) b0 hu;simp only[li,nmFs,ae,br,eL,List.map_nil,nmTs];exact ⟨hf.1,hm,trivial,b1,trivial⟩
 |clear qzH;obtain ⟨b1,b2,b3,b4⟩:=gL k _ x y a1 a2 (by omega);simp only[gS,eR,qone,fF,depthF,aV,nodesF,nodesFs,eL,List.map_nil,dO,b1,b2,b3,b4,a3,a4,hq];simp
 |clear qzI;have b1:=we k _ x u a1 a2 (by omega);rw[a4]at b1;exact qkG
 |obtain ⟨b1,b2⟩:=pR hu k _ x a1 a2 (by omega);simp[gS,eR,qone,fF,eL,dO,b1,b2]):G:=h
theorem qdI(h:G:=by
 obtain ⟨k,hk,rfl,hR,aq⟩:=hrel;obtain ⟨ra,rc,rfl⟩:=hR.slice
 by_cases hlt:k<k0
 first
 |clear qzJ
  ·have dy:=cb du.o hlt;have qwh:=();exact qai
  ·obtain rfl:k=k0:=by omega
   have qzz:=();exact qkC
 |clear qzK
  ·have dy:=cb du.o hlt;obtain ⟨b,off,u,rfl,_,hu,c0,c1,c2,c3⟩:=dT.o.get dy;exact qaI
  ·obtain rfl:k=k0:=by omega
   exact qkC
 |case pos=>
   have bj:k<bd.fs.length:=by rw[<-qE.o];exact hlt
   obtain ⟨⟨nm,fm⟩,vO⟩:∃x,x=bd.fs[k]:=⟨_,rfl⟩;obtain ⟨b,off,x,rfl,hok,hx,c0,c1,c2,c3,c4⟩:=(HQV.o.1).get bj;rw[<-vO]at hx c0;simp only at hx c0;have hm:(kT (bd.fs.take k)).length=2 * k:=by rw[wU,dS];omega
   have ⟨M,hMM⟩:=aj (2 * k);rw[hm,<-hMM]at hR ⊢;rw[<-hMM]at hm;have D3:(k:Int)<(k0:Int):=by omega
   have qzL:=();exact qkH
  obtain rfl:k=k0:=by omega
  have ⟨wo,Gx⟩:=aj wr;subst Gx;have hm:(kT (bd.fs.take k)).length=2 * k:=by rw[wU,dS];have:=qE.o;omega
  rw[hm]at hR ⊢;rw[iP (by rw[<-qE.o];exact aC _)]at hR;have d0:=aa aq jt.o.2.1;have ⟨HR0,VH⟩:=aS hR aq;clear hR aq hm;go_wp2;go_loopw [3,5] (fun r i wr=>∃j:Nat,j<=n2/\i=.int .i64 j/\RowX W1.heap.size r (kT bd.fs ++ lS (bd.ts.take j)) wr/\Below W1.heap.size W1 wr) (fun _ i _=>n2 - (intOf i).toNat)
  case atStart=>exact ⟨0,aX _,rfl,by simpa[lS] using HR0.o,VH.o⟩
  case round=>
   obtain ⟨j,hj,rfl,hR,aq⟩:=hrel;obtain ⟨ra,rc,rfl⟩:=hR.slice;clear d0
   by_cases eE:j<n2
   case pos=>
    have bj:j<bd.ts.length:=by rw[<-xU.o];exact eE
    obtain ⟨⟨nm,tm⟩,vO⟩:∃x,x=bd.ts[j]:=⟨_,rfl⟩;obtain ⟨b,off,x,rfl,hok,hx,c0,c1,c2,c3⟩:=(HQV.o.2).get bj;rw[<-vO]at hx c0;simp only at hx c0;have hm:(kT bd.fs ++ lS (bd.ts.take j)).length=2 * k+j:=by rw[cU,wU,<-qE.o];simp[lS];omega
    have ⟨M,hMM⟩:=aj (2 * k+j);rw[hm,<-hMM]at hR ⊢;rw[<-hMM]at hm;have D3:(j:Int)<(n2:Int):=by omega
    exact qkH
   obtain rfl:j=n2:=by omega
   have hm:(kT bd.fs ++ lS (bd.ts.take j)).length=2 * k+j:=by rw[cU,wU,<-qE.o];simp[lS];have:=xU.o;omega
   rw[hm]at hR ⊢;rw[iP (by rw[<-xU.o];exact aC _)]at hR;have d0:=aa aq jt.o.2.2;have CS:=F0 (kT bd.fs ++ lS bd.ts) Yl.o _ wr ra _ rc hR.forms;have ⟨uP,HB⟩:=aS CS aq;clear hR CS aq hm;go_wp2_with (go_at_call 22;refine uP.o.mono ?_;rintro e w' ⟨rfl,hb⟩;have il:=ab hb;clear hb);go_ret;exact ⟨by rw[HE.o];rfl,(jt.o.1.tr HB.o).tr il.o⟩):G:=h
theorem qha(h:G:=by
 subst sT;rw[List.getElem_append_right (by omega),List.getElem_append_right (by omega)];simp only[hk,Nat.sub_self,List.getElem_cons_zero]
 first
 |clear qsa;refine ⟨trivial,hq.move (fun b hok hlt=>⟨⟨by omega,fun e=>?_⟩,hold b (by omega) hlt (fun e=>by have:=hv b e;omega)⟩)⟩
  exact qbB
 |refine hq.move (fun b hok hlt=>⟨⟨by omega,fun e=>?_⟩,hold b (by omega) hlt (fun e=>by have:=hv b e;omega)⟩)
  exact qbB):G:=h
theorem qgG(h:G:=by
 clear CT LU Ah gV dD X_ hc;go_wp2_with (go_at_call 128;refine I_.o.mono ?_;rintro e w8 ⟨rfl,rfl⟩)
 first
 |clear qrl;obtain ⟨W8,kV,x8,k8,g0,g1,g2⟩:=sJ Ik.o.1 (.bool false) (.string ⟨#[]⟩) (.slice none 0 0);rw[<-kV];refine bK (v:=.tuple #[TQ.val ⟨false,⟨#[]⟩,none,0,0⟩,.bool false]) (by simp[TQ.val,results,Tryz.results98,go_sem,g0,g1,g2]) rfl ⟨⟨⟨false,⟨#[]⟩,none,0,0⟩,by rw[HE.o];rfl,fun u hu=>by rw[HE.o]at hu;cases hu⟩,Below.kp1 Ik.o.2 k8 (by omega)⟩
 |go_roundw
  case rel=>exact ⟨j3+1,by omega,by go_num,by simp,BH.o⟩
  case measure=>simp[intOf];omega):G:=h
theorem qkI(h:G:=by
 exact ⟨Kp.below H4.o,by rw[wL HG.o.1];exact NW.o.symm,bN H4.o HG.o.2.1,HG.o.2.2.trans (Kp.below H4.o)⟩):G:=h
theorem qeH(h:G:=by
 have bi:0<k0:=by rw[cd];exact jp.2 h0
 rw[<-cd]at bW ⊢;have ⟨du,dT,HCp⟩:=cE cd hv XT;have kt:((k0:Int) == 0)=false:=by simp;omega
 first
 |clear qzM;have ze:∀ W:World,(Instr.makeSlice 33 (.int .i64 0) (.int .i64 (k0:Int))).run Tryz.prog W=.ok (.slice (some ⟨W.heap.size,0,none⟩) 0 k0) (W.alloc (.cells (madeCells (Value.cells (.agg #[.bool false,.string ByteArray.empty,.slice none 0 0])) (k0 * 3)) 43)):=fun W=>by
   have h:=run_makeSlice (P:=Tryz.prog) W 33 43 i0 (.agg #[.bool false,.string ByteArray.empty,.slice none 0 0]) Tryz.underlying33 hi ow .i64 .i64 0 (k0:Int) (by omega) (by omega) (by rw[iM];simp;omega) (by rw[gY];omega) (by omega);exact qkJ
  have Jf:RowT w.heap.size (.slice (some ⟨w.heap.size,0,none⟩) 0 k0) (l.take 0) (w.alloc (.cells (madeCells (Value.cells (.agg #[.bool false,.string ByteArray.empty,.slice none 0 0])) (k0 * 3)) 43)):=RowT.made _ _ (aC _) (by unfold maxLen;omega) (by rw[size_madeCells]);have RB:=ab Jf;clear hv XT cd ar Jf h0;exact qkK
 |have ze:∀ W:World,(Instr.makeSlice 34 (.int .i64 0) (.int .i64 (k0:Int))).run Tryz.prog W=.ok (.slice (some ⟨W.heap.size,0,none⟩) 0 k0) (W.alloc (.cells (madeCells (Value.cells (.agg #[.int .u8 0,.string ByteArray.empty,.slice none 0 0,.slice none 0 0])) (k0 * 4)) 36)):=fun W=>by
   have h:=run_makeSlice (P:=Tryz.prog) W 34 36 i0 (.agg #[.int .u8 0,.string ByteArray.empty,.slice none 0 0,.slice none 0 0]) Tryz.underlying34 hi ow .i64 .i64 0 (k0:Int) (by omega) (by omega) (by rw[iM];simp;omega) (by rw[gY];omega) (by omega);exact qkJ
  have Jf:RowF w.heap.size (.slice (some ⟨w.heap.size,0,none⟩) 0 k0) (l.take 0) (w.alloc (.cells (madeCells (Value.cells (.agg #[.int .u8 0,.string ByteArray.empty,.slice none 0 0,.slice none 0 0])) (k0 * 4)) 36)):=RowF.made _ _ (aC _) (by unfold maxLen;omega) (by rw[size_madeCells]);have RB:=ab Jf;clear hv XT cd ar Jf h0;go_enter Tryz.func108,Tryz.ntmps108;go_wp2;go_loopw [5,16] (fun r i wr=>∃k:Nat,k<=k0/\i=.int .i64 k/\RowF w.heap.size r (l.take k) wr/\Below w.heap.size w wr) (fun _ i _=>k0 - (intOf i).toNat)
  case atStart=>exact ⟨0,aX _,rfl,RB.o,cI⟩
  case round=>
   have qzK:=();exact qdI):G:=h
theorem qdn(h:G:=by
 have f4:=fun x:Later wr=>x.get (aa aq kX);have f5:=fun x:Later wr=>x.get (aa aq kY)
 first
 |clear qvc;have CC:=ab (fun (x:Later wr)=>qk l[k] p_ m[k] ok ok' x.w u u' hf E3 ((hu.later aq).later x.below) ((gI.later aq).later x.below));unfold TQ.val at CC;rw[<-he]at ht CC;have ⟨HB,HT⟩:=aS aq ht;clear hu gI p_ hf E3 aq ht c0 c1 c2 kr kX kY he;go_wp2;have qsw:=();exact qac
 |clear qve;have f6:=fun x:Later wr=>x.get (aa aq kr);have f7:=fun x:Later wr=>x.get (aa aq B_);have Bv:(k:Int)<(k0:Int):=by omega
  have ⟨HB,HT⟩:=aS aq ht;have jb:∀ (h:l[k]≠m[k]),oF l m=false:=fun h=>by
   cases he:oF l m with
   | false=>rfl
   | true=>exact absurd (by rw[List.getElem_of_eq ((oM _ _).1 he)]) h
  have HNe:=ab jb;have CC:=fun (x:Later wr)=>p_ m[k] ok ok' x.w u u' hf ((hu.later aq).later x.below) ((gI.later aq).later x.below);have ⟨R,hR⟩:=aj (uV l[k] m[k]);rw[<-hR]at CC;have ⟨HC,HR⟩:=aS CC hR;clear hu gI p_ hf aq ht jb hR CC c0 c1 c2 c3 kX kY kr B_;go_wp2;have qsz:=();exact qac
 |have Bv:(k:Int)<(k0:Int):=by omega
  have ⟨HB,HT⟩:=aS aq ht;have HX:=aA hx hy;have jb:∀ (h:l[k]≠m[k]),iR l m=false:=fun h=>by
   cases he:iR l m with
   | false=>rfl
   | true=>exact absurd (by rw[List.getElem_of_eq ((gK _ _).1 he)]) h
  have HNe:=ab jb;have CC:=ab (fun (x:Later wr)=>p_ ya ok ok' x.w ua ul uc va vl vc hf.args ((fC.later aq).later x.below) ((Ac.later aq).later x.below));clear hu gI p_ hf hx hy fC Ac aq ht jb c0 c1 c2 kr kX kY
  by_cases hv:uv=vv
  ·subst hv;have Np:(uv != uv)=false:=by simp
   by_cases hn:xn=yn
   ·subst hn;have ⟨R,hR⟩:=aj (iR xa ya);have CC:=ab (show ∀ x:Later wr,Calls Tryz.prog 19 #[.slice ua ul uc,.slice va vl vc] x.w fun e w'=>e=.returned (.bool R)/\Below x.w.heap.size x.w w' from fun x=>by rw[hR];exact CC.o x);have HR:=ab hR;clear hR;go_wp2;have qsx:=();exact qac
   ·have gG:(xn == yn)=false:=by simpa using hn
    have kf:(!(xn == yn))=true:=by simpa using hn
    go_wp2;have qsy:=();exact qac
  ·cases uv <;> cases vv
   all_goals
    first
    | exact absurd rfl hv
    | (go_wp2
       refine aI (by kernel_rfl) (by kernel_rfl) ?_
       repeat (go_big_quiet_step (fail))
       refine wpQuiet_nil ?_;rintro _ ⟨x',rfl⟩;clear f0 f1 f2 f3 f4 f5;go_wp2;go_ret;exact ⟨az (HNe.o (by rw[HX.o.1,HX.o.2];intro h;injection h with h _ _;exact hv h)).symm,HB.o.trans (x'.below.mono HB.o.size)⟩)):G:=h
theorem qea(h:G:=by
 rcases h.shape with ⟨rfl,h0⟩ | ⟨g,cap,rfl,_⟩
 ·exact ⟨none,0,by rw[h0]⟩
 ·exact ⟨_,_,rfl⟩):G:=h
theorem qju(h:G:=by
 have HB:=ab aq;clear CB aq gV hq c0 hok;go_wp2_with (go_at_fn g;refine HC.o.mono ?_;rintro e w4 ⟨rfl,aR⟩;have H4:=ab aR;clear aR)
 first
 |clear qxv;go_ret;exact ⟨.inr ⟨k,_,HE.o.2.2,rfl,HE.o.1,HE.o.2.1⟩,HB.o.tr H4.o⟩
 |exact qdE):G:=h
theorem qfL(h:G:=by
 have hB:Below wr.heap.size wr (wr.alloc (.cells #[.int .u8 u.o,.string u.n,.slice u.a u.l u.c,.slice u.b u.m u.e] 36)):=cI
 first
 |clear qzN;have y':=bi.size;have D8:∀ b,M b->b<(wr.alloc (.cells #[.int .u8 u.o,.string u.n,.slice u.a u.l u.c,.slice u.b u.m u.e] 36)).heap.size:=fun b hb=>by have:=DT.o b hb;simp;omega
  have vj:(pre ++ ([f] ++ dJ (s.take k)) ++ iC s[k]) <+: xs:=by
   have h1:dJ s=dJ (s.take (k+1)) ++ dJ (s.drop (k+1)):=by
    conv=>lhs;rw[<-List.take_append_drop (k+1) s]
    exact qX _ _
   have h2:=nK.o;rw[h1,js]at h2;obtain ⟨r,rfl⟩:=h2;exact ⟨dJ (s.drop (k+1)) ++ r,by simp⟩
  have CC:=fd.o s[k] (ap bj) M B l J xs (pre ++ ([f] ++ dJ (s.take k))) _ u D8 (fun t=>(HJ.o t).mono (by simp;omega)) (HY.o.later (bi.trans (Kp.below hB))) (hu.kp (bi.trans (Kp.below hB))) vj (HJ.o _ _ _ (Nw.below hB) hj);exact qcV
 |have e1:(wr.alloc (.cells #[.int .u8 u.o,.string u.n,.slice u.a u.l u.c,.slice u.b u.m u.e] 36)).cell? ⟨W.heap.size+1,0,none⟩=some (.map (some mb)):=aa hB (ag b1 0);have e2:(wr.alloc (.cells #[.int .u8 u.o,.string u.n,.slice u.a u.l u.c,.slice u.b u.m u.e] 36)).cell? ⟨W.heap.size+2,0,none⟩=some (.func (.yield l) #[] #[]):=aa hB (ag b2 0);have vj:(pre ++ (A ++ bn bs' (ss.take k)) ++ aL bs' ss[k]) <+: xs:=by
   have h1:bn bs' ss=bn bs' (ss.take (k+1)) ++ bn bs' (ss.drop (k+1)):=by
    conv=>lhs;rw[<-List.take_append_drop (k+1) ss]
    exact om _ _ _
   have h2:=nK.o;rw[h1,js]at h2;obtain ⟨r,rfl⟩:=h2;exact ⟨bn bs' (ss.drop (k+1)) ++ r,by simp⟩
  have hNn:=xy.o;have CC:=fd.o ss[k] (ap bj) M B l J xs (pre ++ (A ++ bn bs' (ss.take k))) W0 _ u mb n' bs' DT.o ZQ.o HJ.o HY.o hu (kt.trans (Kp.below hB)) (hbd.same (hB.block mb hbd.lt)) (by omega) (by omega) vj (HJ.o _ _ _ ((Nw.below hB)) hj);unfold FQ.val at CC;have HC:=ab CC;have HS:=bx js hns Ay;have lj:=ab (bi.trans (Kp.below hB));clear hu hB vj CC js hns kz Ay hbd kt bi hj c0 c1 c2 c3 b0 b1 b2 hNn;go_wp2_with (go_at_call 149;refine HC.o.mono ?_;rintro e w3 ⟨rfl,qK,jr,aG,RA⟩;have HH:=cq qK jr aG RA;clear qK jr aG RA);go_roundw
  case rel=>
   obtain ⟨n'',zdl,ZR⟩:=HH.o.2.2.1;exact ⟨k+1,by omega,by go_num,by rw[HS.o.1,<-List.append_assoc A];simpa using HH.o.1,HH.o.2.1,⟨n'',by have:=HS.o.2.1;have:=HS.o.2.2;omega,ZR⟩,lj.o.trans HH.o.2.2.2⟩
  case measure=>simp[intOf];omega):G:=h
theorem qkL(h:G:=by
 simp only[af];refine b_ 6 rfl fun K hK=>?_;go_simp;refine aH.2 ((HCL.o W2.drew (cv.o.drew)).mono ?_);rintro _ A ⟨ra,rc,rfl,hp,hA⟩
 first
 |clear qzO;have qzP:=();exact qan
 |have bZ:Below W2.heap.size W2 A:=((ai W2.heap.size W2).drew).trans hA;have HP:=aA hp bZ;exact qcM):G:=h
theorem qky(h:G:=by
 have CP:=ab (fun w:World=>hp ▸ AR s[k].toNat w);clear hp;go_wp2;go_quiet ((go_at_call 217;exact f_ (CP.o _)))
 first
 |clear qzu;exact qkM
 |exact qjR):G:=h
theorem qgn(h:G:=by
 have CP:=ab (fun w:World=>hp ▸ pi s[k].toNat w);clear hp;go_wp2;go_quiet ((go_at_call 189;exact f_ (CP.o _)))
 first
 |clear qqr;exact qkM
 |exact qjR):G:=h
theorem qe9(h:G:=by
 obtain ⟨bb,off,⟨a0,a1,a2,a3,a4,a5,a6,a7⟩,⟨b0,b1,b2,b3,b4,b5,b6,b7⟩,rfl,hok,hs,hf,c0,c1,c2,c3,c4,c5,c6,c7⟩:=HV.o.1.get le
 first
 |clear qnC;have ⟨d0,d1,d2,d3,d4,d5,d6,d7⟩:=Lc l8 c0 c1 c2 c3 c4 c5 c6 c7;simp only at d0 d1 d2 d3 d4 d5 d6 d7;have cD:=Hi le;have lN:=HV.o.2.2.2.2 _ (ap le);obtain ⟨⟨s,f⟩,Mv⟩:∃x,x=l[j]:=⟨_,rfl⟩;rw[<-Mv]at cD lN hs hf;simp only at cD lN hs hf;have ⟨W5,e_⟩:=aj (wr.alloc (.cells #[.int .u8 a0,.string a1,.slice a2 a3 a4,.slice a5 a6 a7,.int .u8 b0,.string b1,.slice b2 b3 b4,.slice b5 b6 b7] 50));have bh:=cM e_;have x5:=bS e_;have z7:(j:Int)<(n1:Int):=by omega
  have CS:=C9 W0 s lN.1 _ W5 ((HV.o.2.2.1.next l8).next bh) ⟨a0,a1,a2,a3,a4,a5,a6,a7⟩ ((hs.move (dI l8)).later bh);have CR:=fun (V:World) (h:Below W5.heap.size W5 V)=>oZ W0 f lN.2 _ V (((HV.o.2.2.1.next l8).next bh).next h) ⟨b0,b1,b2,b3,b4,b5,b6,b7⟩ (((hf.move (dI l8)).later bh).later h);simp only[FQ.val]at CS CR;have ⟨gs,SM⟩:=aj (fM s);have ⟨gr,We⟩:=aj (bT f);rw[<-SM]at CS;rw[<-We]at CR;rw[<-SM,<-We]at cD;have ⟨uP,HCR,pH⟩:=cE CS CR e_;have H5:=bx (l8.tr bh) bh x5;have cz:=ab aq;have QE:=((H3.o.2.1 ▸ (aq.block _ (bA H3.o.2.1))):wr.heap[w.heap.size+1]?=_);have jS:=ab (bN bh QE);clear CS CR e_ bh x5 l8 aq hs hf lN Mv SM We hok c0 c1 c2 c3 c4 c5 c6 c7 QE le
  cases gs with
  | false=>
   have qzQ:=();exact qkN
  | true=>
   cases gr with
   | false=>
    exact qkN
   | true=>
    have HG:=ab (show fA 0 l=fA (j+1) (l.drop (j+1)) by rw[ik,cD];rfl);clear ik cD;gi_wp2_with (first | (rw[<-pH.o];gi_at_call 26;refine aH.2 (uP.o.mono ?_);rintro e w6 ⟨rfl,cF⟩;have SN:=bN cF H5.o.2.2;have i4:=ag SN 4;have i5:=ag SN 5;have i6:=ag SN 6;have i7:=ag SN 7;have H6:=ab cF;clear cF SN) | (gi_at_call 39;refine aH.2 ((HCR.o _ H6.o).mono ?_);rintro e w7 ⟨rfl,fW⟩;have H7:=ab (H6.o.tr fW);clear fW));go_roundw
    case rel=>exact ⟨j+1,by omega,by go_num,(cz.o.tr H5.o.2.1).tr H7.o,HG.o⟩
    case measure=>simp[intOf];omega
 |have ⟨d0,d1,d2,d3,d4,d5,d6,d7⟩:=Lc mn c0 c1 c2 c3 c4 c5 c6 c7;simp only at d0 d1 d2 d3 d4 d5 d6 d7;have cD:=C_ (step:=aY) (k:=kj) le;have lN:=HV.o.2.2.2.2 _ (ap le);have Dd:=(kF l 0).1 HBp.o _ (ap le);obtain ⟨⟨s,f⟩,Mv⟩:∃x,x=l[j]:=⟨_,rfl⟩;rw[<-Mv]at cD lN hs hf Dd;simp only at cD lN hs hf Dd;rw[cD]at ik;have qpW:=();exact qf0):G:=h
theorem qjF(h:G:=by
 rintro X Y hn ⟨h1,k',er,h2,h3,h4,h5,h6⟩;exact ⟨h1,k',er,h2,h3,hn.cells h4,hn.cells h5,ot h6 hn⟩):G:=h
theorem qhy(h:G:=by
 have aG:Below W2.heap.size W2 (W2.alloc (.cells #[.int .u8 0,.string ⟨#[]⟩,.slice none 0 0,.slice none 0 0] 36)):=cI
 first
 |clear qth;have ⟨g4,g5⟩:=AN aG g0 e1;rcases H2.o.2.2.fs.look Tryz.underlying9 Tryz.underlying145 mN (x:=n) (by omega) with ⟨hg,hlk⟩ | ⟨f,vf,hg,hvf,hlk⟩
  first
  |clear qzR
   ·have l1:=(hlk W2.drew rfl).1;have qvs:=();exact qdo
   ·obtain ⟨⟨GO,GP,GQ,GR,GS,GT,GU,GV⟩,rfl,oy,Jy⟩:=hvf;simp only[FQ.val]at hlk;have l1:=(hlk W2.drew rfl).1;have qvt:=();exact qdo
  |·have l1:=(hlk W2.drew rfl).1;have l2:=(hlk (W2.alloc (.cells #[.int .u8 0,.string ⟨#[]⟩,.slice none 0 0,.slice none 0 0] 36)).drew (bH _ _ _ (by have:=H2.o.2.2.fs.lt;omega))).1;have O3:=ab (show R=true by rw[hE,hg]);have bD:=ab (H2.o.1.tr aG.drew);clear hlk hg aG hE;go_enter Tryz.func124,Tryz.ntmps124;go_upto_region 4 with fail;rw[<-fj.o];go_region
    all_goals
     go_wp2;go_ret;exact ⟨by rw[O3.o];rfl,bD.o⟩
   ·obtain ⟨⟨GO,GP,GQ,GR,GS,GT,GU,GV⟩,rfl,oy,Jy⟩:=hvf;simp only[FQ.val]at hlk;have l1:=(hlk W2.drew rfl).1;exact qdo
 |have ⟨k4,k5⟩:=AN aG k0 e1;have l1:=xx W2.drew rfl;have l2:=xx (W2.alloc (.cells #[.int .u8 0,.string ⟨#[]⟩,.slice none 0 0,.slice none 0 0] 36)).drew (bH _ _ _ (by omega));have ⟨W3,dF⟩:=aj (W2.alloc (.cells #[.int .u8 g0,.string g1,.slice g2 g3 g4,.slice g5 g6 g7] 36)).drew;have qH:Below W2.heap.size W2 W3:=by rw[dF];exact cI.drew
  have x3:=bN qH H2.o.2.1;have y3:W3.heap[W2.heap.size]?=some (.cells #[.int .u8 g0,.string g1,.slice g2 g3 g4,.slice g5 g6 g7] 36 (0,0)):=by rw[dF];exact ah rfl
  obtain ⟨i0,i1,i2,i3,_,_,_,_⟩:=dc x3;have ⟨n0,tW⟩:=aj (ea dm f);have KT:n0<=400:=by have:=pM dm f;have:=wm.o.2.2;omega
  have Au:=ab (Ip W3 qH);have O7:=ab (fun (V:World) (h:Below W3.heap.size W3 V)=>jV dm f wm.o.2.1 _ V ⟨g0,g1,g2,g3,g4,g5,g6,g7⟩ ((wm.o.1.later qH).later h));have DX:=ab (fun (V:World) (h:Below W3.heap.size W3 V)=>lq f wm.o.2.1 _ V ⟨g0,g1,g2,g3,g4,g5,g6,g7⟩ ((wm.o.1.later qH).later h));have ⟨nf,vO⟩:=aj (nodesF f);have hn5:nf<=400:=by have:=wm.o.2.2;omega
  simp only[FQ.val,<-tW,<-vO]at O7 DX;rw[<-tW,<-vO]at hE;have H3:=bx qH y3 (H2.o.2.2.later qH);have HE3:=ab hE;have HY:=bx JB KT hn5;clear hE x3 y3 Ip aT zC fC K1 GZ QB tW vO qH aG xx ro JB KT hn5 JD GC L4;have qwY:=();exact qdJ):G:=h
theorem qeD(h:G:=by
 have jx:=eU;unfold FQ.val;gi_wp2_with (gi_at_call 86;refine aH.2 ((Jb q _).mono ?_);rintro e w' ⟨rfl,rfl⟩)
 first
 |clear qmB;have ⟨w1,s8⟩:=aj ((((w.alloc (.cells #[.int .u8 q.o,.string q.n,.slice q.a q.l q.c,.slice q.b q.m q.e] 36)).alloc (.cells #[.int .i64 9223372036854775807] 3)).alloc (.cells #[.int .i64 0] 3)).alloc (.cells #[.int .u8 q.o,.string q.n,.slice q.a q.l q.c,.slice q.b q.m q.e] 36));have hb1:=UT s8;have iM:=Zd s8;have xL:NAt (w.heap.size+1) 9223372036854775807 w1:=by rw[s8];exact (bH _ _ _ (by simp)).trans ((bH _ _ _ (by simp)).trans (ah (by simp)))
  have xN:NAt (w.heap.size+1+1) 0 w1:=by rw[s8];exact (bH _ _ _ (by simp)).trans (ah (by simp))
  have xX:=QL s8;rw[<-s8];clear s8;have hq1:FormV (fun b=>b<w1.heap.size/\¬(b=w.heap.size+1+1)) w1 q.val f:=(HQ.o.later hb1).move (fun b hb hlt=>⟨⟨hlt,by omega⟩,rfl⟩);have nH:=Jc f jw.o (fun b=>b=w.heap.size+1+1) w1.heap.size (w.heap.size+1+1+1) w1 q xX (by omega) hq1;have ⟨ZL,dY,Qv,HL,HN⟩:=qt nH hb1 iM xL xN;have hNl:w.heap.size+1+1<w1.heap.size:=by omega
  have Rw:=ab hNl;clear nH hb1 iM xL xN xX hq1 hNl;have qxR:=();exact qjL
 |have ⟨w1,s8⟩:=aj (((w.alloc (.cells #[.int .u8 q.o,.string q.n,.slice q.a q.l q.c,.slice q.b q.m q.e] 36)).alloc (.cells #[.int .u32 0] 74)).alloc (.cells #[.int .u8 q.o,.string q.n,.slice q.a q.l q.c,.slice q.b q.m q.e] 36));have hb1:=uS s8;have iM:=Ir s8;have xN:MAt (w.heap.size+1) [] w1:=by rw[s8];exact (bH _ _ _ (by simp)).trans (ah (by simp))
  have xX:=oD s8;rw[<-s8];clear s8;have hq1:FormV (fun b=>b<w1.heap.size/\¬(b=w.heap.size+1)) w1 q.val f:=(HQ.o.later hb1).move (fun b hb hlt=>⟨⟨hlt,by omega⟩,rfl⟩);have nH:=Jc f jw.o (fun b=>b=w.heap.size+1) w1.heap.size (w.heap.size+1+1) w1 q xX (by omega) hq1;have ⟨ZL,dY,Qv,HN⟩:=eD nH hb1 iM xN;have hNl:w.heap.size+1<w1.heap.size:=by omega
  have Rw:=ab hNl;clear nH hb1 iM xN xX hq1 hNl;exact qjL):G:=h
theorem qkO(h:G:=by
 have oX:Below W1.heap.size W1 (W1.alloc (.cells #[.int .u8 0,.string ⟨#[]⟩,.slice none 0 0,.slice none 0 0] 36)):=cI
 first
 |clear qzS;have ⟨g4,g5⟩:=AN oX g0 P1;rcases uA.fs.look Tryz.underlying9 Tryz.underlying145 mN (x:=n) (by have:=ma.2.1;omega) with ⟨hg,hlk⟩ | ⟨f,vf,hg,hvf,hlk⟩
  ·have l1:=(hlk W1.drew rfl).1;have qyQ:=();exact qkh
  ·obtain ⟨⟨GO,GP,GQ,GR,GS,GT,GU,GV⟩,rfl,oy,Jy⟩:=hvf;simp only[FQ.val]at hlk;have l1:=(hlk W1.drew rfl).1;exact qkh
 |have ⟨d00,d01,d02,d03,d04,d05,d06,d07⟩:=Lc oX c0 c1 c2 c3 c4 c5 c6 c7;clear oX;have hb1:Below W1.heap.size W1 ((W1.alloc (.cells #[.int .u8 0,.string ⟨#[]⟩,.slice none 0 0,.slice none 0 0] 36)).alloc (.cells #[.int .u8 0,.string ⟨#[]⟩,.slice none 0 0,.slice none 0 0] 36)):=cI.alloc (by simp) _;have ⟨d10,d11,d12,d13,d14,d15,d16,d17⟩:=Lc hb1 c0 c1 c2 c3 c4 c5 c6 c7;clear hb1;have bG:Below W1.heap.size W1 ((W1.alloc (.cells #[.int .u8 so,.string ⟨n.toArray⟩,.slice sa n1 sc,.slice sb m1 se] 36)).alloc (.cells #[.int .u8 0,.string ⟨#[]⟩,.slice none 0 0,.slice none 0 0] 36)):=cI.alloc (by simp) _;have ⟨d20,d21,d22,d23,d24,d25,d26,d27⟩:=Lc bG c0 c1 c2 c3 c4 c5 c6 c7;clear bG;have aG:Below W1.heap.size W1 ((W1.alloc (.cells #[.int .u8 0,.string ⟨#[]⟩,.slice none 0 0,.slice none 0 0] 36)).alloc (.cells #[.int .u8 so,.string ⟨n.toArray⟩,.slice sa n1 sc,.slice sb m1 se] 36)):=cI.alloc (by simp) _;have ⟨d30,d31,d32,d33,d34,d35,d36,d37⟩:=Lc aG c0 c1 c2 c3 c4 c5 c6 c7;clear aG;go_region
  ·go_wp2_with fail;go_meet;exact ⟨_,_,rfl,rfl,Cmp.one W W1 _ _⟩
  ·go_wp2_with fail;go_meet;exact ⟨_,_,rfl,rfl,Cmp.two W W1 _ _⟩):G:=h
theorem qh7(h:G:=by
 rw[aZ]at lJ u0 u1 u2 u3 P0 P1 P2 P3 P4 P5 P6 P7 P8;have fj:=ab aZ;clear hu c0 c1 c2 c3 Ag hF gR eu au gd CC eW gV hU BG Ek aq bG aZ
 first
 |clear quk
  cases U with
  | none=>
   exact qgX
  | some u'=>
   go_wp2_with (first | (go_at_call 91;refine lJ.o.mono ?_;rintro e w4 ⟨⟨⟨po,pn,pa,pl,pc,pb,pm,pe⟩,rfl,hp⟩,aR⟩;simp only[Option.isSome]at hp ⊢;rw[<-fj.o]at aR hp;have bh:Below w4.heap.size w4 (w4.alloc (.cells #[.int .u8 po,.string pn,.slice pa pl pc,.slice pb pm pe] 36)):=cI;have t5:=fh.o.later (aR.tr bh) (fun r=>r.below (aR.tr bh));have r2:(w4.alloc (.cells #[.int .u8 po,.string pn,.slice pa pl pc,.slice pb pm pe] 36)).cell? ⟨w.heap.size+1+1+1,3,none⟩=some (.slice ra k rc):=(t5.cell 3).trans rfl;have HF5:=ab t5;have LD:=aA ((hp u' rfl).later bh) (aR.tr bh);have HO:=ab (ba BI.o.2.1 (fun b _ hlt=>(aR.tr bh).block b hlt));have o9:((w4.alloc (.cells #[.int .u8 po,.string pn,.slice pa pl pc,.slice pb pm pe] 36)).alloc (.cells #[.int .u8 po,.string pn,.slice pa pl pc,.slice pb pm pe] 36)).heap.size=w4.heap.size+2:=(by simp);have Lx:=t5.size;simp only[World.size_alloc]at Lx;clear hp aR bh t5) | (at_builtin;refine wpList_append_lies _ rfl _ _ 34 rfl X4.heap.size 36 KO (.agg #[.int .u8 0,.string ByteArray.empty,.slice none 0 0,.slice none 0 0]) 4 72 Tryz.underlying34 hj gZ AU Uy rfl (by decide) (.slice ra k rc) k _ rfl (HO.o.alloc _) ⟨w4.heap.size+1,0,none⟩ 1 1 [.int .u8 po,.string pn,.slice pa pl pc,.slice pb pm pe] rfl rfl (cV (cs:=#[.int .u8 po,.string pn,.slice pa pl pc,.slice pb pm pe]) (t:=36) (fr:=(0,0)) (ah (by simp))) (by simp[Value.oneCell']) (by decide) (by unfold maxLen;omega) (by omega) (by simp;omega) (w4.heap.size+2) o9 ?_;intro g eF w6 aO am hg eA;have h4:=fh.o.at4 (kk:=3) BI.o.2.1 LD.o.2 am;have d3:=h4.2.2;have z3:=h4.2.1;have HG:=cq aO am hg eA;clear aO am hg eA h4));exact qh3
 |cases U with
  | none=>
   exact qgX
  | some u'=>
   go_wp2_with (first | (go_at_call 91;refine lJ.o.mono ?_;rintro e w4 ⟨⟨⟨po,pn,pa,pl,pc,pb,pm,pe⟩,rfl,hp⟩,aR⟩;simp only[Option.isSome]at hp ⊢;rw[<-fj.o]at aR hp;have bh:Below w4.heap.size w4 (w4.alloc (.cells #[.int .u8 po,.string pn,.slice pa pl pc,.slice pb pm pe] 36)):=cI;have t5:=fh.o.later (aR.tr bh) (fun r=>r.below (aR.tr bh));have r2:(w4.alloc (.cells #[.int .u8 po,.string pn,.slice pa pl pc,.slice pb pm pe] 36)).cell? ⟨w.heap.size+1+1+1,3,none⟩=some (.slice ra k rc):=(t5.cell 3).trans rfl;have HF5:=ab t5;have LD:=aA ((hp u' rfl).later bh) (aR.tr bh);have HO:=ab (ba BI.o.2.1 (fun b _ hlt=>(aR.tr bh).block b hlt));have o9:((w4.alloc (.cells #[.int .u8 po,.string pn,.slice pa pl pc,.slice pb pm pe] 36)).alloc (.cells #[.int .u8 po,.string pn,.slice pa pl pc,.slice pb pm pe] 36)).heap.size=w4.heap.size+2:=(by simp);have Lx:=t5.size;simp only[World.size_alloc]at Lx;clear hp aR bh t5) | (at_builtin;refine wpList_append_lies _ rfl _ _ 34 rfl X5.heap.size 36 KO (.agg #[.int .u8 0,.string ByteArray.empty,.slice none 0 0,.slice none 0 0]) 4 72 Tryz.underlying34 hj gZ AU Uy rfl (by decide) (.slice ra k rc) k _ rfl (HO.o.alloc _) ⟨w4.heap.size+1,0,none⟩ 1 1 [.int .u8 po,.string pn,.slice pa pl pc,.slice pb pm pe] rfl rfl (cV (cs:=#[.int .u8 po,.string pn,.slice pa pl pc,.slice pb pm pe]) (t:=36) (fr:=(0,0)) (ah (by simp))) (by simp[Value.oneCell']) (by decide) (by unfold maxLen;omega) (by omega) (by simp;omega) (w4.heap.size+2) o9 ?_;intro g eF w6 aO am hg eA;have h4:=fh.o.at4 (kk:=3) BI.o.2.1 LD.o.2 am;have d3:=h4.2.2;have z3:=h4.2.1;have HG:=cq aO am hg eA;clear aO am hg eA h4));exact qh3):G:=h
theorem qc3(h:G:=by
 clear dx ht;go_wp2;go_ret;exact ⟨az HE.o.symm,cz.o⟩):G:=h
theorem qdM(h:G:=by
 exact ⟨az HE.o.symm,cz.o.trans (cI.mono cz.o.size)⟩):G:=h
theorem qb1(h:G:=by
 go_enter Tryz.func185,Tryz.ntmps185
 first
 |clear qlJ;exact qdw
 |clear qlL;exact qat
 |go_wp2_with (first | (go_at_call 191;refine (CP.o _).mono ?_;rintro e w' ⟨rfl,rfl⟩) | (go_at_call 120;refine (oa r _ hr).mono ?_;rintro e w' ⟨rfl,hb⟩));go_ret;exact ⟨rfl,hb⟩):G:=h
theorem qb2(h:G:=by
 go_enter Tryz.func186,Tryz.ntmps186
 first
 |clear qlM;exact qdw
 |clear qlN;exact qat
 |go_wp2_with (first | (go_at_call 191;refine (CP.o _).mono ?_;rintro e w' ⟨rfl,rfl⟩) | (go_at_call 121;refine (mr r _ hr).mono ?_;rintro e w' ⟨rfl,hb⟩));go_ret;exact ⟨rfl,hb⟩):G:=h
theorem qhe(h:G:=by
 go_ret;exact JPost.no HE.o (pu.o.1.trans (Kp.below bD.o)) (pu.o.2.1.later bD.o) (by omega) (by omega)):G:=h
theorem qkP(h:G:=by
 obtain ⟨b,off,u,rfl,_,hu,c0,c1,c2⟩:=HL.o.get bj;obtain ⟨b',jZ,u',rfl,_,gI,kr,kX,kY⟩:=HM.o.get kK;have hf:=HF.o.mem (ap bj)
 first
 |clear qzT;have E3:=fh.o.mem (ap kK);have p_:=fd.o l[k] (ap bj);rw[OW bj kK]at ht;have ⟨e,he⟩:=aj (vY l[k] m[k]);have qvb:=();exact qbF
 |have p_:=fd.o l[k] (ap bj);exact qdQ):G:=h
theorem qbX(h:G:=by
 obtain ⟨qs,hk,ho,ht⟩:=h;rcases f9 ho with ⟨rfl,h0⟩ | ⟨g,cap,rfl,hg,_⟩
 first
 |clear qlz
  ·obtain rfl:=j6 h0;exact cm
  ·refine ⟨_,cap,fun j=>if h:j<qs.length then qs[j].val else .bool false,rfl,.inr ⟨g,0,rfl,hg,fun j hj=>?_⟩,fun j hj=>?_⟩
   ·have tH:j<qs.length:=by omega
    simp only[dif_pos tH,Nat.zero_add];exact ID ho j tH
   ·have tH:j<qs.length:=by omega
    exact qkQ
 |clear qlA
  ·obtain rfl:=j6 h0;exact f8
  ·refine ⟨_,cap,fun j=>if h:j<qs.length then qs[j].val else .bool false,rfl,.inr ⟨g,0,rfl,hg,fun j hj=>?_⟩,fun j hj=>?_⟩
   ·have tH:j<qs.length:=by omega
    exact qkR
   ·have tH:j<qs.length:=by omega
    exact qkQ
 |·obtain rfl:=j6 h0;exact f8
  ·refine ⟨_,cap,fun j=>if h:j<qs.length then qs[j].val else .bool false,rfl,.inr ⟨g,0,rfl,trivial,fun j hj=>?_⟩,fun j hj=>?_⟩
   ·have tH:j<qs.length:=by omega
    exact qkR
   ·have tH:j<qs.length:=by omega
    simp only[dif_pos tH];exact (ht j tH hj).move (fun b _ _=>⟨trivial,rfl⟩)):G:=h
theorem qjH(h:G:=by
 rintro D c pre X _ hD dq ⟨rfl,k',er,h2,h3,h4,h5,h6⟩ hd;obtain ⟨rs,hrs⟩:=dq;have ζ:=rH pre rs kj k' er h2 h3;rw[hrs]at ζ
 first
 |clear qxL;have iG:e7 aY 0 k l=(k',j,er):=by rw[Yk.o,ζ,ak h2]
  have HE:=ab (show R=(⟨[],[]⟩,j,er) by rw[BE.o,<-t4.o.1 (by simp),iG];exact aw h2);exact qf2
 |have iG:e7 dp 0 k l=(k',j,er):=by rw[Yk.o,ζ,ak h2]
  have HE:=ab (show R=(⟨[],[]⟩,j,er) by rw[BE.o,t4.o.2.1 (by simp)];simp only[ne_eq,not_true_eq_false,↓reduceIte];rw[iG];exact aw h2);exact qf2):G:=h
theorem qi1(h:G:=by
 rw[<-hR];have HE:=ab hE;exact qi0):G:=h
theorem qcY(h:G:=by
 go_wp2;rw[<-fj.o];go_ret;exact ⟨az HE.o.symm,cv.o⟩):G:=h
theorem qbV(h:G:=by
 have QZ:∀ b,M b->b<W.heap.size:=fun b hb=>bJ (hM b hb) hk.size
 first
 |clear qzU;have CC:=OA f ar M B l J (iC f) [] W q QZ hJ (fun pre vs x W1 h1 h2 h3 h4=>by
   obtain ⟨fn,tmps,assign,body,hy,hR⟩:=hY pre vs x W1 h1 h2 h3 h4;refine ⟨fn,tmps,assign,body,hy,hR.mono ?_⟩;rintro e W' (h | ⟨h,_⟩)
   ·exact h
   ·exact h.elim) (hq.kp hk) (by simp) hj
  have HC:=ab CC;clear CC hY hJ hj hX z' hq QZ;unfold FQ.val at HC;go_enter Tryz.func150,Tryz.ntmps150;go_wp2_with (go_at_call 151;refine HC.o.mono ?_;rintro e W2 ⟨rfl,zh,iO⟩);exact ⟨rfl,.tuple #[],by simp[results,Tryz.results150,go_sem],⟨_,rfl⟩,.inl ⟨by simpa using zh,iO⟩⟩
 |clear qzV;have hB:Below W.heap.size W (W.alloc (.map #[] 0)):=cI;have CC:=Em f ar M B l J (aL [] f) [] W (W.alloc (.map #[] 0)) q W.heap.size 0 [] QZ (aC _) hJ (fun pre vs x W1 h1 h2 h3 h4=>by
   obtain ⟨fn,tmps,assign,body,hy,hR⟩:=hY pre vs x W1 h1 h2 h3 h4;refine ⟨fn,tmps,assign,body,hy,hR.mono ?_⟩;rintro e W' (h | ⟨h,_⟩)
   ·exact h
   ·exact h.elim) (hq.kp hk) (Kp.below hB) (BoundW.made W) (by omega) (by simp;omega) (by simp) (hJ _ _ _ (Nw.below hB) hj)
  have HC:=ab CC;clear CC hY hJ hj hX z' hq QZ hB;unfold FQ.val at HC;go_enter Tryz.func148,Tryz.ntmps148;go_wp2_with (go_at_call 149;refine HC.o.mono ?_;rintro e W2 ⟨rfl,zh,iO,_,_⟩);exact ⟨rfl,.tuple #[],by simp[results,Tryz.results148,go_sem],⟨_,rfl⟩,.inl ⟨by simpa using zh,iO⟩⟩
 |clear qzW;have CC:=LV s f ar [] (by simpa using Im) M B l J Jx (a_ [] s f) [] W ⟨q,r,none,0,0⟩ QZ ⟨hl,hlM⟩ hJ hJx (fun pre vs x W1 h1 h2 h3 h4=>by
   obtain ⟨fn,tmps,assign,body,hy,hR⟩:=hY pre vs x W1 h1 h2 h3 h4;refine ⟨fn,tmps,assign,body,hy,hR.mono ?_⟩;rintro e W' (h | ⟨_,h⟩)
   ·exact .inl h
   ·exact .inr h) (hq.kp hk) (hr.kp hk) ⟨⟨none,0,rfl,aC _,.inl ⟨rfl,rfl,rfl⟩⟩,fun b h=>by simp[Value.ownBlock]at h⟩ (by simp) hj
  have HSp:=ab (show ∀ (e:Ending) (W2:World),((e=.returned (.bool true)/\J ([] ++ a_ [].reverse s f) W2/\Kp M W W2)\/(e=.returned (.bool false)/\∃GH,GH <+: a_ [] s f/\Jx GH W2/\KpFrom M (l+1) W W2))->∃bb:Bool,e=.returned (.bool bb)/\((J (a_ [] s f) W2/\Kp M W W2)\/(True/\∃pre,pre <+: a_ [] s f/\Jx pre W2/\KpFrom M (l+1) W W2)) by
   rintro e W2 (⟨rfl,h,h'⟩ | ⟨rfl,h⟩)
   ·exact ⟨true,rfl,.inl ⟨by simpa using h,h'⟩⟩
   ·exact ⟨false,rfl,.inr ⟨trivial,h⟩⟩)
  have sG:=ab CC;clear CC hY hJ hJx hj hX z' hY0 hYW hq hr QZ;simp only[PlQ.val,PlQ.cells]at sG;go_enter Tryz.func102,Tryz.ntmps102;go_wp2_with (go_at_call 103;refine sG.o.mono ?_;rintro e W2 h2;obtain ⟨bb,rfl,h3⟩:=HSp.o e W2 h2;have H2:=ab h3;clear h2 h3);exact ⟨rfl,.tuple #[],by simp[results,Tryz.results102,go_sem],⟨_,rfl⟩,H2.o⟩
 |have CC:=D9 t ar M B l J (aE t) [] W q QZ hJ (fun pre vs x W1 h1 h2 h3 h4=>by
   obtain ⟨fn,tmps,assign,body,hy,hR⟩:=hY pre vs x W1 h1 h2 h3 h4;refine ⟨fn,tmps,assign,body,hy,hR.mono ?_⟩;rintro e W' (h | ⟨h,_⟩)
   ·exact h
   ·exact h.elim) (hq.kp hk) (by simp) hj
  have HC:=ab CC;clear CC hY hJ hj hX z' hq QZ;unfold TQ.val at HC;go_enter Tryz.func270,Tryz.ntmps270;go_wp2_with (go_at_call 214;refine HC.o.mono ?_;rintro e W2 ⟨rfl,zh,iO⟩);exact ⟨rfl,.tuple #[],by simp[results,Tryz.results270,go_sem],⟨_,rfl⟩,.inl ⟨by simpa using zh,iO⟩⟩):G:=h
theorem qbd(h:G:=by
 obtain ⟨_,_,_,hv,_⟩:=h;injection hv):G:=h
theorem qeL(h:G:=by
 obtain ⟨⟨a,cap,rfl,hc,h⟩,hM⟩:=h;refine ⟨⟨a,cap,rfl,hc,?_⟩,hM⟩;rcases h with h | ⟨b,off,rfl,h⟩
 ·exact .inl h
 first
 |clear qmM
  ·exact .inr ⟨b,off,rfl,fun j hj=>⟨hk.cell (hM b rfl) (h j hj).1,hk.cell (hM b rfl) (h j hj).2⟩⟩
 |·exact .inr ⟨b,off,rfl,fun j hj=>⟨hb.cell hl (h j hj).1,hb.cell hl (h j hj).2⟩⟩):G:=h
theorem qc9(h:G:=by
 rw[Af.o]at e0 e1 e2 f0 f1 f2;have qs9:=();exact qbs):G:=h
theorem qjT(h:G:=by
 go_enter Tryz.func72,Tryz.ntmps72;go_upto_region 1 with fail;rw[<-fj.o]
 first
 |clear qye;have e0:=ag HB.o.2.2.1 0;go_upto_region 3 with fail;clear e0;exact qaZ
 |go_upto_region 6 with (go_at_call 96;refine HIN.o.mono ?_;rintro e w4 ⟨rfl,aR⟩;have H4:=ab aR;clear aR);clear c0 c1 c2 c3;have aG:Below w4.heap.size w4 (w4.alloc (.cells #[.int .u8 0,.string ⟨#[]⟩,.slice none 0 0,.slice none 0 0] 36)):=cI;have pJ:=KZ.o.later H4.o;have k0:w4.cell? ⟨kb,0,none⟩=some (.map (some mF)):=ag pJ.box 0;have k1:w4.drew.cell? ⟨kb,0,none⟩=some (.map (some mF)):=k0;have x14:=bN H4.o HB.o.2.2.1;have e1:=ag x14 1;have k3:w4.drew.cell? ⟨w.heap.size,1,none⟩=some (.string ⟨n.toArray⟩):=e1;have ⟨k4,k5⟩:=AN aG k0 e1;have ro:=pJ.fs.lt;have l1:=HGl.o w4.drew (H4.o.block _ KZ.o.fs.lt);have l2:=HGl.o (w4.alloc (.cells #[.int .u8 0,.string ⟨#[]⟩,.slice none 0 0,.slice none 0 0] 36)).drew ((bH _ _ _ ro).trans (H4.o.block _ KZ.o.fs.lt));have ⟨W3,dF⟩:=aj (w4.alloc (.cells #[.int .u8 g0,.string g1,.slice g2 g3 g4,.slice g5 g6 g7] 36)).drew;have Α:Below w4.heap.size w4 W3:=by rw[dF];exact cI.drew
  have y3:W3.heap[w4.heap.size]?=some (.cells #[.int .u8 g0,.string g1,.slice g2 g3 g4,.slice g5 g6 g7] 36 (0,0)):=by rw[dF];exact ah rfl
  have H3:=bx (H4.o.tr Α) y3 (KZ.o.later (H4.o.tr Α));clear aG pJ x14 e1 ro Α y3;go_region
  all_goals
   rw[<-dF];clear dF l1 l2 k0 k1 k3 k4 k5;have O7:=ab (fun (V:World) (h:Below W3.heap.size W3 V)=>jV dm f wm.o.2.1 _ V ⟨g0,g1,g2,g3,g4,g5,g6,g7⟩ ((wm.o.1.later H3.o.1).later h));have lJ:=ab (fun (V:World) (h:Below W3.heap.size W3 V)=>oU f wm.o.2.1 _ V ⟨g0,g1,g2,g3,g4,g5,g6,g7⟩ ((wm.o.1.later H3.o.1).later h));simp only[FQ.val,<-HN0.o]at O7 lJ;obtain ⟨j0,j1,j2,j3,_,_,_,_⟩:=dc H3.o.2.1;have HC4:=ab (O7.o W3 (ai _ _))
   by_cases h0:n0=0
   ·have ow:((n0:Int) == 0)=true:=by simp;omega
    have qw3:=();exact qjn
   ·have ow:((n0:Int) == 0)=false:=by simp;omega
    have iM:¬((n0:Int)=0):=by omega
    have gY:decide ((n0:Int)=0)=false:=by simp;omega
    exact qjn):G:=h
theorem qiy(h:G:=by
 have b0:=(bi.same W.heap.size qE.o.1 qE.o.2.1).trans Lh.o;have b1:=(bi.same (W.heap.size+1) qE.o.2.2.1 qE.o.2.2.2.1).trans jS.o
 first
 |clear qu8;have b2:=(bi.same (W.heap.size+2) qE.o.2.2.2.2.1 qE.o.2.2.2.2.2).trans HX2.o
  by_cases hlt:k<m0
  ·have bj:=cb gt.o hlt;have qoK:=();exact qbq
  first
  |clear qzX
   ·obtain rfl:m0=k:=by omega
    have ht:ss.take m0=ss:=by rw[gt.o];exact cK
    rw[ht]at hj Ay;have xU:=ab Ay;have HH:=cq hj kt hbd bi;clear hj kt hbd bi ht b0 b1 b2 Ay;go_wp2;simp only[bodyPostD];refine ⟨.bool true,by simp[results,Tryz.results149,go_sem],rfl,HH.o.1,HH.o.2.1,⟨n',by have:=xU.o;have:=xy.o;omega,by have h:=HH.o.2.2.1;rw[il.o]at h;exact h⟩,(Kp.below dY.o).trans HH.o.2.2.2⟩
  |·obtain rfl:m0=k:=by omega
    have ht:ss.take m0=ss:=by rw[gt.o];exact cK
    rw[ht]at hj Ay;have xU:=ab Ay;have HH:=cq hj kt hbd bi;have f1:wr.cell? ⟨W.heap.size+1,0,none⟩=some (.map (some mb)):=ag b1 0;have f0:wr.cell? ⟨W.heap.size,1,none⟩=some (.string ⟨nm.toArray⟩):=ag b0 1;have CD:=Vl mb n' W.heap.size bs nm IQ.o (by have:=xU.o;have:=xy.o;omega) (by have:=xy.o;omega) .returning wr f1 f0 (il.o ▸ hbd);have HCD:=ab CD;clear hj kt hbd bi ht b0 b1 b2 Ay CD f0 f1;go_wp2;refine leaves_cons (f:=215) (args:=#[.pointer (some ⟨W.heap.size+1,0,none⟩),.pointer (some ⟨W.heap.size,0,none⟩)]) (by simp) (by simp[go_sem]) ?_;refine HCD.o.mono ?_;rintro e u' w5 ⟨rfl,rfl,bh,hg5,zt,hn5⟩;have hmS:=HMS.o;refine ⟨.bool true,by simp[results,Tryz.results149,go_sem],rfl,HJ.o _ _ _ (hn5 _ ZQ.o) HH.o.1,Ry HH.o.2.1 (hn5 _ ZQ.o) (aC _),⟨n'+1,by have:=xU.o;have:=xy.o;omega,bh⟩,((Kp.below dY.o).trans HH.o.2.2.2).trans ⟨hg5.os,hg5.tape,hg5.output,Nat.le_of_eq zt.symm,fun b hb hm=>hg5.block b hb (fun h=>hm (.inr (by cases h;rfl)))⟩⟩
 |have x0:wr.cell? ⟨W.heap.size,0,none⟩=some (.int .u8 uo):=ag b0 0;have x1:wr.cell? ⟨W.heap.size,1,none⟩=some (.string ⟨nm.toArray⟩):=ag b0 1;have x2:wr.cell? ⟨W.heap.size,2,none⟩=some (.slice ua k0 uc):=ag b0 2;have x3:wr.cell? ⟨W.heap.size,3,none⟩=some (.slice ub m0 ue):=ag b0 3;have x4:wr.cell? ⟨W.heap.size+1,0,none⟩=some (.map (some mb)):=ag b1 0
  cases qL:bm uo with
  | false=>
   have il:Hd (bs'=bs):=ab (by rw[il.o,qL];rfl);have qzY:=();exact qkS
  | true=>
   have il:Hd (bs'=nm :: bs):=ab (by rw[il.o,qL];rfl);exact qkS):G:=h
theorem qiB(h:G:=by
 have s8:IntKind.i64.wrap ((q:Nat):Int)=q:=gU _ (by omega);have Qu:IntKind.i64.wrap (1+((q:Nat):Int))=1+(q:Int):=gU _ (by omega)
 first
 |clear qvg;have _n:IntKind.i64.wrap (left - (m:Int))=left - (m:Int):=gU _ (by omega);have Yn:IntKind.i64.wrap (1+(q:Int)+(R:Int))=1+(q:Int)+(R:Int):=gU _ (by omega);have hw5:IntKind.i64.wrap ((m:Int)+(1+(q:Int)+(R:Int)))=((m+(1+q+R):Nat):Int):=by rw[gU _ (by omega)];omega
  have ⟨HC,HB⟩:=aS CC aq;have HS:=aA Dx L9;clear hu p_ hf hx fC aq hcut CC hq YV Dx L9 hR hRb Bw c0 c1 c2;go_wp2;have qsB:=();exact qac
 |have Yn:IntKind.i64.wrap (1+(q:Int)+(R:Int))=((1+q+R:Nat):Int):=by rw[gU _ (by omega)];omega
  have hNb:1+q+R<=100002000000:=by omega
  have ⟨DX,HC⟩:=aS hcF CT;clear hq bB eb ar ih cd dQ hR hRb iN hcF TZ CT;exact qiY):G:=h
theorem qf6(h:G:=by
 refine nG Tryz.func69 ?_;simp only[Tryz.ntmps69,Nat.reduceAdd,Nat.reduceSub,lE]
 first
 |clear qp6;have jx:=eU
  first
  |clear qzj;gi_wp2_with (gi_at_call 123;refine aH.2 ((CP.o _).mono ?_);rintro e w3 ⟨rfl,aG⟩;obtain ⟨b1,b2,b3,b0⟩:=QS HY.o aG;have p1:w3.cell? ⟨w.heap.size,1,none⟩=some (.string ⟨n.toArray⟩):=ag b0 1;have p2:w3.cell? ⟨w.heap.size,2,none⟩=some (.slice qa k0 qc):=ag b0 2;have bD:=ab b1;have Zm:=ab b2;have uZ:=ab b3;clear aG b1 b2 b3 b0);have ⟨W1,bY⟩:=aj w3;have jf:Below w.heap.size w W1:=by rw[bY];exact bD.o
   have x1:W1.heap[w.heap.size+1]?=some (.cells #[.bool false,.string ⟨#[]⟩,.slice none 0 0] 43 (0,0)):=by rw[bY];exact Zm.o
   have x2:W1.heap[w.heap.size+1+1]?=some (.cells #[.bool true,.string ⟨n.toArray⟩,.slice none 0 0] 43 (0,0)):=by rw[bY];exact uZ.o
   have qzZ:=();exact qaL
  |gi_wp2_with (gi_at_call 123;refine aH.2 ((CP.o _).mono ?_);rintro e w3 ⟨rfl,aG⟩;obtain ⟨b1,b2,b3,b0⟩:=QS HY.o aG;have p1:w3.cell? ⟨w.heap.size,1,none⟩=some (.string ⟨n.toArray⟩):=ag b0 1;have p2:w3.cell? ⟨w.heap.size,2,none⟩=some (.slice qa k0 qc):=ag b0 2;have bD:=ab b1;have Zm:=ab b2;have uZ:=ab b3;have e1:w3.cell? ⟨w.heap.size+1+1,1,none⟩=some (.string ⟨n.toArray⟩):=ag b3 1;have z1:w3.frozen? ⟨w.heap.size+1+1,1,none⟩=false:=ac b3 1;clear aG b1 b2 b3 b0);have ⟨W1,bY⟩:=aj (w3.setCell ⟨w.heap.size+1+1,1,none⟩ (.string ⟨r.toArray⟩));have jf:Below w.heap.size w W1:=by rw[bY];exact bD.o.setCell (by simp;omega) _
   have x1:W1.heap[w.heap.size+1]?=some (.cells #[.bool false,.string ⟨#[]⟩,.slice none 0 0] 43 (0,0)):=by rw[bY];exact (eC _ _ _ _ (by simp)).trans Zm.o
   have x2:W1.heap[w.heap.size+1+1]?=some (.cells #[.bool true,.string ⟨r.toArray⟩,.slice none 0 0] 43 (0,0)):=by rw[bY];exact (bp uZ.o _).trans rfl
   have qz0:=();exact qaL
 |have qz1:=();exact qc1):G:=h
theorem qdA(h:G:=by
 go_ret;exact ⟨by simp,hb.trans (bG.mono hb.size)⟩):G:=h
theorem qkT(h:G:=by
 rw[ak h16]at hE;have iY:(so == 16)=false:=by simp[h16]
 have sg:=ab hE;have JA:=HQ.o.2.1;have _l:=ab JA;clear hE JD GC xx ro JA
 first
 |clear qz2;exact qdJ
 |exact qdF):G:=h
theorem qfn(h:G:=by
 exact ⟨⟨v5,rfl,ownsRow_base_a H5.o.1.1 ia.size,H5.o.1.2⟩,ia.trans (H5.o.2.mono ia.size)⟩):G:=h
theorem qf8(h:G:=by
 go_roundw
 case rel=>exact ⟨k+1,by omega,by go_num,eG.o,HT.o⟩
 case measure=>simp[intOf];omega):G:=h
theorem qj7(h:G:=by
 have mz:Below w8.heap.size w8 (w8.alloc (.cells #[.int .u8 po,.string pn,.slice pa pl pc,.slice pb pm pe] 36)):=cI
 first
 |clear qyz;have vS:=(vT.o.later iA).later mz;exact qhN
 |have vS:=(GE.o.later iA).later mz;have qtX:=();exact qhN):G:=h
theorem qkU(h:G:=by
 have qB:W2.heap.size=w.heap.size+1+1:=by omega
 have HZ3:=ab qB;rw[qB]at C2;have ⟨tb,cv,fj,Va⟩:=eD C2 bG aZ nO;rw[aZ]at tb
 first
 |clear qz3;clear C2 bG aZ nO pw hq ar gY qB;obtain ⟨qv,qn,qa,ql,qc⟩:=q;unfold TQ.val;go_enter Tryz.func166,Tryz.ntmps166;go_wp2_with (go_at_call 220;refine (D_ ⟨qv,qn,qa,ql,qc⟩ _).mono ?_;rintro e w2 ⟨rfl,rfl⟩);exact qhs
 |clear C2 bG aZ nO pw hq ar gY qB Im;obtain ⟨qo,qn,qa,ql,qc,qb,qm,qe⟩:=q;unfold FQ.val;go_enter Tryz.func40,Tryz.ntmps40;go_wp2_with (go_at_call 85;refine (En ⟨qo,qn,qa,ql,qc,qb,qm,qe⟩ _).mono ?_;rintro e w2 ⟨rfl,rfl⟩);exact qhs):G:=h
theorem qgY(h:G:=by
 obtain ⟨W6,cQ,x6,k6,g0,g1,g2,g3⟩:=yf H5.o.2 (.int .u8 0) (.string ⟨#[]⟩) (.slice none 0 0) (.slice none 0 0);rw[<-cQ]
 first
 |clear qrU;have HE:=ab (show RS=none from Ru.o.2.1 (BH.o (by simp)));exact qio
 |have HE:=ab (show RS=none from BE.o.1 (BH.o (by simp)));exact qio):G:=h
theorem qbi(h:G:=by
 obtain ⟨a',cap,hv,_,h⟩:=h;injection hv with hv _ _;subst hv
 first
 |clear qme;rcases h with rfl | ⟨b,off,ha,hc⟩
  ·simp at hj
  ·exact ⟨b,off,ha,hc⟩
 |clear qmg;rcases h with rfl | ⟨b,off,ha,hok,hc⟩
  ·simp at hj
  ·exact ⟨b,off,ha,hok,hc j hj⟩
 |clear qmj;rcases h with rfl | ⟨b,off,ha,hc⟩
  ·exact absurd rfl hl
  ·exact ⟨b,off,ha,hc⟩
 |rcases h with ⟨rfl,_⟩ | ⟨b,off,ha,hc⟩
  ·simp at hj
  ·exact ⟨b,off,ha,(hc j hj).1,(hc j hj).2⟩):G:=h
theorem qbT(h:G:=by
 refine hK _ _ (fun _=>by rw[cR.o];exact H7.o.2.2.1) (fun _=>?_)
 first
 |clear qwF;clear hK K qi yq ug Fx NH hp hA bZ;exact qjZ
 |clear qz4;clear hK K hp hA bZ;refine bw 17 32 (.agg #[.bool qv,.string ⟨n.toArray⟩,.slice r1 m0 r2]) rfl (by rw[cR.o];exact H7.o.2.2.1) fun zey=>?_
  simp only[af];exact qjZ
 |clear qz5;clear hK K hp hA bZ;refine bw 8 15 (.agg #[.int .u8 qo,.string ⟨n.toArray⟩,.slice r1 k0 r2,.slice none 0 0]) rfl (by rw[cR.o];exact H7.o.2.2.1) fun Eu=>?_
  simp only[af];exact qj2
 |clear hK K qi yq ug Fx NH hp hA bZ;exact qj2):G:=h
theorem qh5(h:G:=by
 have c1:W.cell? ⟨X,1,none⟩=some (.string q.n):=ag z' 1;have c2:W.cell? ⟨X,2,none⟩=some (.slice q.a q.l q.c):=ag z' 2
 first
 |clear qud;have c3:W.cell? ⟨X,3,none⟩=some (.slice q.b q.m q.e):=ag z' 3
  first
  |clear qy3;have qzU:=();exact qbV
  |clear qy4;have qzV:=();exact qbV
  |have e0:W.cell? ⟨Y,0,none⟩=some (.int .u8 r.o):=ag hYW 0;have e1:W.cell? ⟨Y,1,none⟩=some (.string r.n):=ag hYW 1;have e2:W.cell? ⟨Y,2,none⟩=some (.slice r.a r.l r.c):=ag hYW 2;have e3:W.cell? ⟨Y,3,none⟩=some (.slice r.b r.m r.e):=ag hYW 3;have qzW:=();exact qbV
 |exact qbV):G:=h
theorem qgE(h:G:=by
 have za1:∀ p,S=some p->p≠[]/\p.length<=2000000:=fun p hp=>by
  rw[hS]at hp;exact ⟨yd hp,aN (m6 xa 0 p hp) hf.args.1⟩
 first
 |clear qz6;rw[<-hS]at ht C1;have ⟨HC,HT⟩:=aS C1 ht;have HB:=ab (aq.trans (hW.mono aq.size));have HSo:=ab za1;have U2:uv=true->(xn == x)=false:=fun h=>by simpa using fun h'=>hc ⟨h,h'⟩
  clear aq hW hu fC hf p_ hx ht c0 c1 c2 hS za1 C1 Zz hc;cases uv
  ·clear U2;exact qf7
  ·have gG:(xn == x)=false:=U2 rfl;clear U2;exact qf7
 |have ⟨k0,cd⟩:=aj xs.length;rw[<-cd]at ek hX Bw;rw[<-cd]at aZ;rw[<-cd];have ⟨du,HL,fd,HF,HX,cv,fj,HC,HR,HSo⟩:=MY cd Bw ih hfs hX bG aZ C1 rj za1;clear cd Bw ih hfs hX bG aZ C1 rj za1 hR hS hq fC hf za0;unfold FQ.val;go_enter Tryz.func165,Tryz.ntmps165
  cases S with
  | some p=>
   exact qf9
  | none=>
   clear HSo;go_wp2_with (rw[<-fj.o];go_at_call 229;refine HC.o.mono ?_;rintro e w2 ⟨⟨v2,rfl,jW⟩,bG⟩;obtain ⟨a2,c2,rfl⟩:=jW.slice;simp only[Option.getD,List.length_nil]at jW ⊢;have x3:w2.cell? ⟨w.heap.size,3,none⟩=some (.slice ub k0 ue):=aa bG (ag HX.o 3);have bD:=ab (cv.o.trans (bG.mono cv.o.size));clear bG jW);clear x3;go_loopw [22] (fun i wr=>∃k:Nat,k<=k0/\i=.int .i64 k/\Below w.heap.size w wr/\R=lg x (xs.drop k) k) (fun i _=>k0 - (intOf i).toNat)
   case atStart=>exact ⟨0,aX _,rfl,bD.o,by simpa using HR.o⟩
   case round=>
    exact qaQ):G:=h
theorem qff(h:G:=by
 intro m ok ok' w a n c a' n' c' ar hl hm;obtain rfl:=hl.len;obtain rfl:=hm.len;have bW:=ar.len
 by_cases o8:l.length=m.length
 first
 |clear qnL
  ·have ⟨k0,cd⟩:=aj l.length;rw[<-o8,<-cd];rw[<-cd]at bW;have ⟨du,Vq,HL,HM,fd,HF⟩:=QJ cd o8 hl hm ih ar;clear cd o8 hl hm ih ar;exact qjl
  ·have jb:iR l m=false:=by
    cases he:iR l m with
    | false=>rfl
    | true=>exact absurd (by rw[(gK _ _).1 he]) o8
   have qwR:=();exact qjk
 |·have ⟨k0,cd⟩:=aj l.length;rw[<-o8,<-cd];rw[<-cd]at bW;have ⟨du,Vq,HL,HM,fd,HF⟩:=QJ cd o8 hl hm ih ar;clear cd o8 hl hm ih ar;go_enter Tryz.func52,Tryz.ntmps52;exact qjK
  ·have jb:oF l m=false:=by
    cases he:oF l m with
    | false=>rfl
    | true=>exact absurd (by rw[(oM _ _).1 he]) o8
   exact qjk):G:=h
theorem qhK(h:G:=by
 have hli:¬((n1:Int)=(n2:Int)):=by omega
 have hlb:((n1:Int) == (n2:Int))=false:=by simp[hli]
 have Az:(n == n)=true:=by simp
 first
 |clear qtU;exact qc8
 |exact qc9):G:=h
theorem qgl(h:G:=by
 refine nG Tryz.func154 ?_;simp only[Tryz.ntmps154,Nat.reduceAdd,Nat.reduceSub,lE]
 first
 |clear qqq;have jx:=eU;have Ri:Below w.heap.size w ((w.alloc (.cells #[.bool true,.string ⟨n.toArray⟩,.slice qa k0 qc] 43)).alloc (.cells #[.bool false,.string ⟨#[]⟩,.slice none 0 0] 43)):=cI.alloc (by simp) _;have y1:((w.alloc (.cells #[.bool true,.string ⟨n.toArray⟩,.slice qa k0 qc] 43)).alloc (.cells #[.bool false,.string ⟨#[]⟩,.slice none 0 0] 43)).heap[w.heap.size+1]?=some (.cells #[.bool false,.string ⟨#[]⟩,.slice none 0 0] 43 (0,0)):=ah (by simp);have y0:((w.alloc (.cells #[.bool true,.string ⟨n.toArray⟩,.slice qa k0 qc] 43)).alloc (.cells #[.bool false,.string ⟨#[]⟩,.slice none 0 0] 43)).heap[w.heap.size]?=some (.cells #[.bool true,.string ⟨n.toArray⟩,.slice qa k0 qc] 43 (0,0)):=(bH _ _ _ (by simp)).trans (ah rfl);have sG:((w.alloc (.cells #[.bool true,.string ⟨n.toArray⟩,.slice qa k0 qc] 43)).alloc (.cells #[.bool false,.string ⟨#[]⟩,.slice none 0 0] 43)).heap.size=w.heap.size+2:=by simp
  have CI:=hI n ((w.alloc (.cells #[.bool true,.string ⟨n.toArray⟩,.slice qa k0 qc] 43)).alloc (.cells #[.bool false,.string ⟨#[]⟩,.slice none 0 0] 43)) kz (Nq.o.tr Ri);rw[sU]at CI;have HY:=cq Ri y1 y0 sG;have XG:=ab CI
  first
  |clear qxA;clear Ri y1 y0 sG CI sU;gi_wp2_with (gi_at_fn g;refine aH.2 (XG.o.mono ?_);rintro e w3 ⟨⟨q3,rfl,Rj⟩,aG⟩;obtain ⟨XJ,XK,XL,XM,XN⟩:=q3;simp only[TQ.val,Option.isSome]at Rj ⊢;have b1:=HY.o.1.tr aG;have y1:=(aG.block _ (by have:=HY.o.2.2.2;omega)).trans HY.o.2.1;have y0:=(aG.block _ (by have:=HY.o.2.2.2;omega)).trans HY.o.2.2.1;have qB:=aG.size;have o9:=HY.o.2.2.2;have Lx:w.heap.size+2<=w3.heap.size:=(by omega);have bD:=cq b1 y1 y0 Rj;clear aG b1 qB o9 Rj;have p0:w3.cell? ⟨w.heap.size,0,none⟩=some (.bool true):=ag y0 0;have p1:w3.cell? ⟨w.heap.size,1,none⟩=some (.string ⟨n.toArray⟩):=ag y0 1;have p2:w3.cell? ⟨w.heap.size,2,none⟩=some (.slice qa k0 qc):=ag y0 2;have aR:Below w3.heap.size w3 (w3.alloc (.cells #[.bool XJ,.string XK,.slice XL XM XN] 43)):=cI;have q0:=aa aR p0;have q1:=aa aR p1;have q2:=aa aR p2;have cF:Below (w3.alloc (.cells #[.bool XJ,.string XK,.slice XL XM XN] 43)).heap.size (w3.alloc (.cells #[.bool XJ,.string XK,.slice XL XM XN] 43)) ((w3.alloc (.cells #[.bool XJ,.string XK,.slice XL XM XN] 43)).alloc (.cells #[.bool true,.string ⟨n.toArray⟩,.slice none 0 0] 43)):=cI;have r2:=aa cF q2;clear y1 y0 aR cF);clear p0 p1 p2 q0 q1 q2 r2;have ⟨W1,bY⟩:=aj ((w3.alloc (.cells #[.bool XJ,.string XK,.slice XL XM XN] 43)).alloc (.cells #[.bool true,.string ⟨n.toArray⟩,.slice none 0 0] 43));have jf:Below w.heap.size w W1:=by rw[bY];exact bD.o.1.tr ((cI.alloc (by simp) _))
   have x1:W1.heap[w.heap.size+1]?=some (.cells #[.bool false,.string ⟨#[]⟩,.slice none 0 0] 43 (0,0)):=by rw[bY];exact (bH _ _ _ (by simp;omega)).trans ((bH _ _ _ (by omega)).trans bD.o.2.1)
   have x2:=jH bY;exact qaL
  |clear Ri y1 y0 sG CI;clear sU;have HCu:=ab hcu;clear hcu;gi_wp2_with (first | (gi_at_fn g;refine aH.2 (XG.o.mono ?_);rintro e w3 ⟨⟨q3,rfl,Rj⟩,aG⟩;obtain ⟨XJ,XK,XL,XM,XN⟩:=q3;simp only[TQ.val,Option.isSome]at Rj ⊢;have b1:=HY.o.1.tr aG;have y1:=(aG.block _ (by have:=HY.o.2.2.2;omega)).trans HY.o.2.1;have y0:=(aG.block _ (by have:=HY.o.2.2.2;omega)).trans HY.o.2.2.1;have qB:=aG.size;have o9:=HY.o.2.2.2;have Lx:w.heap.size+2<=w3.heap.size:=(by omega);have bD:=cq b1 y1 y0 Rj;clear aG b1 qB o9 Rj;have aR:Below w3.heap.size w3 (w3.alloc (.cells #[.bool XJ,.string XK,.slice XL XM XN] 43)):=cI;have z1:=(aR.block _ (by omega)).trans y1;have HE:=ab (HCu.o _ _ ⟨XJ,XK,XL,XM,XN⟩ ((bD.o.2.2.2 u rfl).later aR));simp only[TQ.val]at HE;have HZ:=aA z1 (bD.o.1.tr aR);clear y1 y0 aR z1) | (gi_at_call 218;refine aH.2 (HE.o.mono ?_);rintro e w5 ⟨⟨p5,rfl,qD⟩,bh⟩;obtain ⟨pv,pn,pa,pl,pc⟩:=p5;simp only at qD ⊢;have x1:=(bh.block _ (by simp;omega)).trans HZ.o.1;have e0:=ag x1 0;have e1:=ag x1 1;have e2:=ag x1 2;have z0:=ac x1 0;have z1:=ac x1 1;have z2:=ac x1 2;have H5:=cq qD (HZ.o.2.tr bh) x1 bh.size;clear bh qD x1));exact qcc
 |have qz7:=();exact qc1):G:=h
theorem qd1(h:G:=by
 refine ⟨fun h=>(by rw[h]at hr;cases hr),fun j hj=>?_⟩
 by_cases z7:j=i
 ·subst z7;exact AK qO hi hy hS ⟨fun _=>hS,H⟩
 first
 |clear qll
  ·have:=ready_mono hj z7;rw[H.1]at this;cases this
 |·have h1:=H.2 j (ready_mono hj z7);obtain ⟨zaI,oj,hoj,eJ⟩:=mem_ready.1 hj;have K8:∀ e∈oj.after,Region.binds md e=true->e.on≠i:=fun e he hb heq=>by
    have h1:=eJ e he hb;have h0:=(mem_ready.1 hr).1;rw[heq]at h1;rcases Nat.lt_or_ge i listed.size with h' | h'
    ·simp[h']at h0 h1;rw[h0]at h1;cases h1
    ·simp[Array.getElem?_eq_none h']at h1
   have h2:=Iu qO hoj (Xv j oj hoj z7 zaI K8) (fun cs b=>zaH i oi cs b hi) (fun cs b=>zaH j oj cs b hoj) hQ hy h1;have Ze:∀ k ok,ops[k]?=some ok->k≠i->(listed.setIfInBounds j true).getD k true=false →
     (∀ e∈ok.after,Region.binds md e=true->e.on≠i)->oi.apart ops ok=true:=fun k ok hk D3 Qs gV=>by
    refine Xv k ok hk D3 ?_ gV
    by_cases sT:j=k
    ·subst sT;exact zaI
    ·rw[getD_set_ne true sT]at Qs;exact Qs
   have hje:j<e:=by
    have le:j<ops.size:=(bA hoj);have h7:=List.all_eq_true.1 zaG j (List.mem_range.2 le);simp only[Bool.or_eq_true,br]at h7;rcases h7 with h7 | h7
    ·exact h7
    ·have h5:=Oo hcl hj h7;have h6:=(mem_ready.1 hr).1;rcases Nat.lt_or_ge i listed.size with h' | h'
     ·simp[h']at h5 h6;rw[h5]at h6;cases h6
     ·simp[Array.getElem?_eq_none h']at h6
   refine wpOpIn_mono (fun a' w' h3=>⟨h3.2.1,ih (listed.setIfInBounds j true) a' w' (K7 hcl hj) Ze (ready_mono hr (Ne.symm z7)) h3.1 (h3.2.1 hje) ?_⟩) h2;rw[Array.setIfInBounds_comm _ _ z7];exact h3.2.2):G:=h
theorem qfg(h:G:=by
 refine ⟨some ⟨b,0,none⟩,c,fun j=>if j=0 then p.val else q.val,rfl,.inr ⟨b,0,rfl,hok,fun j hj=>?_⟩,fun j hj=>?_⟩
 first
 |clear qnN
  ·rcases j with _ | _ | j
   ·exact ⟨_,_,_,rfl,ag hb 0,ag hb 1,ag hb 2⟩
   ·exact ⟨_,_,_,rfl,ag hb 3,ag hb 4,ag hb 5⟩
   ·simp at hj;omega
  ·rcases j with _ | _ | j
   ·exact hx
   ·exact hy
   ·simp at hj;omega
 |·rcases j with _ | _ | j
   ·exact ⟨_,_,_,_,rfl,ag hb 0,ag hb 1,ag hb 2,ag hb 3⟩
   ·exact ⟨_,_,_,_,rfl,ag hb 4,ag hb 5,ag hb 6,ag hb 7⟩
   ·simp at hj;omega
  ·rcases j with _ | _ | j
   ·exact hx
   ·exact hy
   ·simp at hj;omega):G:=h
theorem qes(h:G:=by
 rw[Gl];exact ⟨by simp only[ae];exact ⟨⟨hn,ht⟩,hk.1⟩,tQ n t k ((iy _ _).1 hg) hk.2⟩):G:=h
theorem qjt(h:G:=by
 rw[sK]at f0 f1 f2 f3 r0 r1 r2 r3 z0 z1 z2 z3;have HW9:=ab sK;clear XW iA ZY hwX mz vS hx9 sK nM XX XR BN;gi_wp2;rw[<-HW9.o]
 first
 |clear qxg;have x6:=lZ (v0:=.int .u8 qo) (v1:=.string ⟨n.toArray⟩) (v2:=.slice gy 0 gz) (v3:=.slice (some ⟨w8.heap.size,0,none⟩) 1 1) RC.o.b1;have k6:=dM (W:=W9) (b:=w.heap.size+1+1) (v0:=.int .u8 qo) (v1:=.string ⟨n.toArray⟩) (v2:=.slice gy 0 gz) (v3:=.slice (some ⟨w8.heap.size,0,none⟩) 1 1);have ⟨W6,cQ⟩:=aj ((((W9.setCell ⟨w.heap.size+1+1,0,none⟩ (.int .u8 qo)).setCell ⟨w.heap.size+1+1,1,none⟩ (.string ⟨n.toArray⟩)).setCell ⟨w.heap.size+1+1,2,none⟩ (.slice gy 0 gz)).setCell ⟨w.heap.size+1+1,3,none⟩ (.slice (some ⟨w8.heap.size,0,none⟩) 1 1));have qz8:=();exact qjI
 |have x6:=lZ (v0:=.int .u8 qo) (v1:=.string ⟨m.toArray⟩) (v2:=.slice gy 0 gz) (v3:=.slice (some ⟨w8.heap.size,0,none⟩) 1 1) RC.o.b1;have k6:=dM (W:=W9) (b:=w.heap.size+1+1) (v0:=.int .u8 qo) (v1:=.string ⟨m.toArray⟩) (v2:=.slice gy 0 gz) (v3:=.slice (some ⟨w8.heap.size,0,none⟩) 1 1);have ⟨W6,cQ⟩:=aj ((((W9.setCell ⟨w.heap.size+1+1,0,none⟩ (.int .u8 qo)).setCell ⟨w.heap.size+1+1,1,none⟩ (.string ⟨m.toArray⟩)).setCell ⟨w.heap.size+1+1,2,none⟩ (.slice gy 0 gz)).setCell ⟨w.heap.size+1+1,3,none⟩ (.slice (some ⟨w8.heap.size,0,none⟩) 1 1));exact qjJ):G:=h
theorem qkK(h:G:=by
 go_enter Tryz.func106,Tryz.ntmps106;go_wp2
 first
 |clear qz9;go_ret;exact ⟨none,0,rfl,cm,ai _ _⟩
 |go_loopw [5,16] (fun r i wr=>∃k:Nat,k<=k0/\i=.int .i64 k/\RowT w.heap.size r (l.take k) wr/\Below w.heap.size w wr) (fun _ i _=>k0 - (intOf i).toNat)
  case atStart=>exact ⟨0,aX _,rfl,RB.o,cI⟩
  case round=>
   have qzJ:=();exact qdI):G:=h
theorem qgs(h:G:=by
 go_roundw
 case rel=>exact ⟨k+1,by omega,by go_num,_,og.o⟩
 case measure=>simp[intOf];omega):G:=h
theorem qcp(h:G:=by
 obtain ⟨b,rfl,h1,h2,_⟩:=hv;obtain ⟨b',cs,rfl,h3,q,hq,h4⟩:=hf;cases h1
 first
 |clear qnO;simp only[FQ.val,cr]at hq;exact qdl
 |clear qnP;simp only[TQ.val,cr]at hq;exact qdl
 |simp only[BQ.val,cr]at hq;exact qdl):G:=h
theorem qbR(h:G:=by
 rw[<-Ae.o]at CC;unfold TQ.val at CC;clear dF fv ji d0 d1 d2 y2
 first
 |clear qvy;have qsK:=();exact qac
 |clear qvz;have qsM:=();exact qac
 |clear qAa;have qsN:=();exact qac
 |exact qac):G:=h
theorem qe7(h:G:=by
 rw[hb]at C;have ⟨HC,HB⟩:=aS C hB;clear C hB hJ hb hn hq hf;have HW:=ab aZ;rw[aZ]at HC;clear aZ;unfold FQ.val at HC ⊢
 first
 |clear qnz;have ⟨bb,cZ⟩:=aj (bT t);rw[<-cZ]at HC ⊢;clear cZ;cases bb
  all_goals
   go_enter Tryz.func39,Tryz.ntmps39;go_wp2_with (go_at_call 64;refine HC.o.mono ?_;rintro e w3 ⟨rfl,jr,_⟩;have nL:=ab jr;clear jr);go_ret;refine ⟨rfl,?_⟩;rw[<-HW.o]at nL;exact Below.kp1 HB.o nL.o (by omega)
 |have ⟨bb,cZ⟩:=aj (fM t);rw[<-cZ]at HC ⊢;clear cZ;cases bb
  all_goals
   go_enter Tryz.func26,Tryz.ntmps26;go_wp2_with (go_at_call 64;refine HC.o.mono ?_;rintro e w3 ⟨rfl,jr,_⟩;have nL:=ab jr;clear jr);go_ret;refine ⟨rfl,?_⟩;rw[<-HW.o]at nL;exact Below.kp1 HB.o nL.o (by omega)):G:=h
theorem qaO(h:G:=by
 simp only[af];refine b_ 3 rfl fun K hK=>?_;go_simp
 first
 |clear qAb;refine aH.2 ((fK n w3.drew (by have:=IQ.o;omega)).mono ?_);have qAc:=();exact qkV
 |clear qAd;refine aH.2 ((fd.o s[k] (ap dy) (u_.o.mem (ap dy)) _ W2.drew u (HU.o.later (cv.o.drew))).mono ?_);rintro _ A ⟨p,rfl,hp,hA⟩;have qAe:=();exact qan
 |clear qw8;refine aH.2 ((fK n _ (by have:=UF.o.2.1;omega)).mono ?_);rintro _ _ ⟨rfl,rfl⟩;refine hK _ _ (fun _=>dN) (fun _=>?_);clear hK K;refine b_ 6 rfl fun K hK=>?_;go_simp
  first
  |clear qto;refine aH.2 ((h_ n _).mono ?_);have qxq:=();exact qiC
  |refine aH.2 ((h_ m _).mono ?_);exact qiC
 |clear qx6;refine aH.2 ((fd.o a[k] (ap dy) (jw.o.mem (ap dy)) _ W2.drew u (HU.o.later (cv.o.drew))).mono ?_);rintro _ A ⟨p,rfl,hp,hA⟩
  first
  |clear qAf;have qAg:=();exact qan
  |have qAh:=();exact qan
 |clear qyb;refine CallsIn.inRound lR (aH.2 (uP.o.mono ?_));rintro _ w4 ⟨rfl,aR⟩;have bZ:Below W2.heap.size W2 w4:=((ai W2.heap.size W2).drew).trans aR;refine hK _ _ (fun _=>by rw[HS.o];exact bZ) (fun ir=>?_);clear hK K;refine c_ 4 31 (.int .i64 (S1:Int)) rfl (fun V hX=>by have Vg:=HWr.o.1;go_simp) (ir (by omega)) fun jj=>?_;simp only[af];have χ:=bN bZ HGs.o.2.1;have PD:=bN bZ HGs.o.2.2.1;have n4:=ag χ 0;have z4:=ac χ 0;refine b_ 5 rfl fun K hK=>?_;have qqT:=();exact qaa
 |refine aH.2 ((sX a[k1] (AV.o.mem (ap dy)) _ W2.drew u (HU.o.later (cv.o.drew))).mono ?_);rintro _ A ⟨p,rfl,hp,hA⟩;have qAi:=();exact qan):G:=h
theorem qkW(h:G:=by
 have f0:∀ V,S V->V.cell? ⟨w.heap.size,1,none⟩=some (.string ⟨xn.toArray⟩):=fun V h=>by rw[hS]at h;exact aa h sZ
 first
 |clear qAj;have f1:∀ V,S V->V.cell? ⟨w.heap.size+1,1,none⟩=some (.string ⟨yn.toArray⟩):=fun V h=>by rw[hS]at h;exact aa h sG
  have qAk:=();exact qkX
 |have f1:∀ V,S V->V.cell? ⟨w.heap.size+1,1,none⟩=some (.string ⟨xn.toArray⟩):=fun V h=>by rw[hS]at h;exact aa h sG
  exact qkX):G:=h
theorem qkt(h:G:=by
 simp only[PlQ.cells,PlQ.val,TQ.val]at CC P0 P1 P2 P3 P4 P5 P6 P7 P8;have eW:=qd (c:=ps.reverse) (ins:=ins) dy;rw[BG]at eW
 first
 |clear qzl;have gV:=fun (h:iB ps.reverse ins a[k]=none)=>BD (c:=ps.reverse) (ins:=ins) (ap dy) h;have ⟨U,hU⟩:=aj (iB ps.reverse ins a[k]);have qum:=();exact qbJ
 |have gV:=fun (h:iB ps.reverse ins a[k1]=none)=>BD (c:=ps.reverse) (ins:=ins) (ap dy) h;have ⟨U,hU⟩:=aj (iB ps.reverse ins a[k1]);exact qbJ):G:=h
theorem qef(h:G:=by
 have C1:=ab (fun w=>h1 ▸ oc n w hn);clear h1;go_enter Tryz.func119,Tryz.ntmps119
 first
 |clear qlO;go_wp2_with (go_at_call 185;refine (C1.o _).mono ?_;rintro e w' ⟨rfl,hb⟩);go_ret;exact ⟨by simp,hb⟩
 |go_wp2_with (first | (go_at_call 185;refine (C1.o _).mono ?_;rintro e w' ⟨rfl,hb⟩) | (go_at_call 186;refine (ly n _ hn).mono ?_;rintro e QM ⟨rfl,bG⟩));exact qdA):G:=h
theorem qkS(h:G:=by
 have CQ:=lY ⟨uo,⟨nm.toArray⟩,ua,k0,uc,ub,m0,ue⟩ wr;simp only[FQ.val,qL]at CQ;have KS:=ab CQ;have HE:=bx hj KO bi
 first
 |clear qzY;have ie:=ab x3;have qAl:=();exact qkY
 |have ⟨ie,HX4,l7⟩:=cE x3 x4 x1;exact qkY):G:=h
theorem qfA(h:G:=by
 have hW:Below wr.heap.size wr (wr.alloc (.cells #[.bool uv,.string ⟨xn.toArray⟩,.slice ua ul uc] 43)):=cI
 first
 |clear qoc;have Bv:(k:Int)<(k0:Int):=by omega
  by_cases hc:uv=true/\xn=x
  ·obtain ⟨rfl,rfl⟩:=hc;have gG:(xn == xn)=true:=by simp
   have HE:=ab (show R=some [k] by rw[ht];simp[mi]);have HB:=ab (aq.trans (hW.mono aq.size));clear aq hW hu fC hf p_ hx ht c0 c1 c2;go_wp2;go_ret;refine ⟨⟨_,rfl,?_⟩,?_⟩
   ·rw[HE.o];exact IntsV.one 1 (aC _) (ah (by simp))
   ·exact HB.o.trans (cI.mono HB.o.size)
  ·have Zz:mi x (.mk uv xn xa)=ev x xa 0:=by
    rw[mi,ak];simpa using hc
   rw[Zz]at ht;have C1:=p_ x ok _ ua ul uc hf.args ((fC.later aq).later hW);simp only[Tm.a]at C1;have ⟨S,hS⟩:=aj (ev x xa 0);have qz6:=();exact qgE
 |have pw:(wr.alloc (.cells #[.bool uv,.string ⟨xn.toArray⟩,.slice ua ul uc] 43)).heap[wr.heap.size]?=some (.cells #[.bool uv,.string ⟨xn.toArray⟩,.slice ua ul uc] 43 (0,0)):=ah rfl;have hL1:NAt L 9223372036854775807 wr:=HL.o.kp bi (fun h=>hNL h.symm);have zfj:N<wr.heap.size:=(bA hn);have C1:=Lj N L hNL (k+nodesTs (l.take j)) _ ⟨uv,⟨xn.toArray⟩,ua,ul,uc⟩ (hn.later hW) (hL1.later hW) (by omega) (by omega);unfold TQ.val at C1;have CC:=fun (W:World) (h:Kp (fun c=>c=N) wr W) (hN:NAt N (k+nodesTs (l.take j)+1) W)=>p_ N L ok (k+nodesTs (l.take j)+1) W ua ul uc hNL hf.args (fC.move (fun b hb hlt=>⟨hb,h.same b hlt (ko.o b hb)⟩)) ko.o hN (hL1.kp h (fun h=>hNL h.symm)) (by omega) (by simp only[Tm.a];omega);simp only[Tm.a]at CC;have ⟨P,hP⟩:=aj (nodesTs (l.take j));have ⟨M,hM⟩:=aj (nodesTs xa);rw[<-hP,<-hM]at js;rw[<-hP]at C1;rw[<-hP,<-hM]at CC;have ⟨Au,lJ,HS,lj⟩:=eD C1 CC js bi;have HW:=aA hW pw;clear hu gI p_ hf hx fC hn C1 CC js bi hW pw hL1 hP hM tP c0 c1 c2;go_wp2_with (first | (go_at_call 231;refine Au.o.mono ?_;rintro e w1 ⟨rfl,kt,eh⟩;have e2:w1.cell? ⟨wr.heap.size,2,none⟩=some (.slice ua ul uc):=ag ((kt.same _ (by simp) (by omega)).trans HW.o.2) 2;have HH1:=aA ((Kp.below HW.o.1).trans kt) eh;clear kt eh) | (go_at_call 230;refine (lJ.o _ HH1.o.1 HH1.o.2).mono ?_;rintro e w2 ⟨rfl,iO,i_⟩;have HH2:=aA iO i_;clear iO i_));go_roundw
  case rel=>exact ⟨j+1,by omega,by go_num,lj.o.trans (HH1.o.1.trans HH2.o.1),by have h:=HH2.o.2;rw[HS.o];rw[show k+((P+(M+1):Nat):Int)=k+(P:Int)+1+(M:Int) by omega];exact h⟩
  case measure=>simp[intOf];omega):G:=h
theorem qcm(h:G:=by
 obtain ⟨so,sn,sa,sl,sc,sb,sm,se⟩:=q;obtain ⟨v1,v2,h1,iu,lU⟩:=aQ.1 hq
 first
 |clear qnF;have qrt:=();exact qah
 |clear qnG;have qrv:=();exact qah
 |have qrx:=();exact qah):G:=h
theorem qbh(h:G:=by
 go_ret;exact ⟨rfl,HH.o.1,HH.o.2⟩):G:=h
theorem qfv(h:G:=by
 have:=congrArg (fun v=>match v with | Value.agg xs=>xs.toList | _=>[]) hq;simpa using this):G:=h
theorem qdd(h:G:=by
 go_simp;refine aH.2 ((HC.o _ (by have h:=bV;rw[cR.o]at h;exact h)).mono ?_)
 first
 |clear qug
  first
  |clear qzy;rintro e w5 ⟨⟨pv,pn,pa,pl,pc⟩,rfl,L8,fW⟩;simp only at L8 ⊢;have iA:=((ai w3.heap.size w3).drew).trans fW;have x7:=(iA.block _ (by omega)).trans bD.o.2.1;obtain ⟨d0,d1,d2,f0,f1,f2⟩:=fV x7;have XW:=L8.move (ok':=(w.heap.size+2<=·)) (fun b hok hlt=>⟨by have hzd:w3.drew.heap.size=w3.heap.size:=rfl;simp only at hok ⊢;omega,rfl⟩);have H7:=bx iA x7 XW;have hz7:=iA.size;refine hK _ _ (fun _=>by rw[cR.o];exact H7.o.1) (fun _=>?_);clear hK K fW iA x7 L8 XW;refine b_ 8 rfl fun K hK=>?_;have qqG:=();exact qaa
  |clear qwV;rintro e w7 ⟨⟨v7,rfl,KW⟩,fW⟩;have H7:=ab (((ai W5.heap.size W5).drew).trans fW);have ZE:=ab (sj m (by have:=HM.o.2.1;omega) HM.o.1 _ w7 v7 KW.1);have qxi:=();exact qaA
  |clear qse
   first
   |clear qze;rintro e w7 ⟨rfl,fW⟩;have H7:=ab (((ai w3.heap.size w3).drew).trans fW);have qxk:=();exact qaA
   |rintro e w7 ⟨⟨v7,rfl,KW⟩,fW⟩;have H7:=ab (((ai w3.heap.size w3).drew).trans fW);have CH:=sj m HM.o.2 HM.o.1 _ w7 v7 KW.1;have ZE:=ab CH;have qxl:=();exact qaA
  |clear qzh;rintro e w7 ⟨⟨p0,p1,p2,p3,p4,p5,p6,p7⟩,rfl,hp,fW⟩;have H7:=ab (((ai W2.heap.size W2).drew).trans fW);have HP7:=ab hp;have x7:=bN H7.o HB.o.2.2.2.1;have Mw:=ab x7;obtain ⟨e0,e1,e2,e3,z0,z1,z2,z3⟩:=dc x7;have qxn:=();exact qaA
  |clear qzg;rintro e w7 ⟨rfl,fW⟩;have H7:=ab (((ai W2.heap.size W2).drew).trans fW);have qxo:=();exact qaA
  |rintro e w7 ⟨⟨v7,rfl,KW⟩,fW⟩;have H7:=ab (((ai W2.heap.size W2).drew).trans fW);have ZE:=ab (sj m HM.o.2 HM.o.1 _ w7 v7 KW.1);have qxp:=();exact qaA
 |clear qAm;rintro _ A ⟨⟨p0,p1,p2,p3,p4,p5,p6,p7⟩,rfl,hp,hA⟩;have qy7:=();exact qh1
 |rintro _ A ⟨⟨p0,p1,p2,p3,p4⟩,rfl,hp,hA⟩;exact qh1):G:=h
theorem qcg(h:G:=by
 obtain ⟨fa,fl,fc,ta,tl,tc⟩:=q;obtain ⟨r_,qF⟩:=hq;simp only at r_ qF
 first
 |clear qmY;obtain rfl:=r_.len;have ⟨n1,eh⟩:=aj b.fs.length;have ⟨R,hR⟩:=aj (getB b.fs n);rw[<-eh]at hF r_;rw[<-eh,<-hR];have ⟨W2,aZ⟩:=aj ((w.alloc (.cells #[.slice fa n1 fc,.slice ta tl tc] 26)).alloc (.cells #[.int .u8 0,.string ⟨#[]⟩,.slice none 0 0,.slice none 0 0] 36));have bG:=k_ aZ;have gY:=xC aZ;have x1:=jH aZ;have ⟨Z9,HP,HN⟩:=cE r_ ar eh;have qAn:=();exact qkZ
 |clear qmZ;obtain rfl:=qF.len;have ⟨n1,eh⟩:=aj b.ts.length;have ⟨R,hR⟩:=aj (getB b.ts n);rw[<-eh]at hF qF;rw[<-eh,<-hR];have ⟨W2,aZ⟩:=aj ((w.alloc (.cells #[.slice fa fl fc,.slice ta n1 tc] 26)).alloc (.cells #[.bool false,.string ⟨#[]⟩,.slice none 0 0] 43));have bG:=k_ aZ;have gY:=xC aZ;have x1:=jH aZ;have ⟨Z9,HP,HN⟩:=cE qF ar eh;exact qkZ
 |obtain rfl:=r_.len;obtain rfl:=qF.len;have ⟨n1,eh⟩:=aj b.fs.length;have ⟨n2,i_⟩:=aj b.ts.length
  first
  |clear qmL;obtain ⟨M,hM⟩:∃M:Nat->Prop,M=fun b=>b=w.heap.size+1\/b=w.heap.size+1+1:=⟨_,rfl⟩;rw[<-eh]at hF;rw[<-i_]at hT;have ⟨W4,y_⟩:=aj ((((w.alloc (.cells #[.slice fa n1 fc,.slice ta n2 tc] 26)).alloc (.map #[] 0)).alloc (.map #[] 0)).alloc (.cells #[.map (some (w.heap.size+1)),.map (some (w.heap.size+1+1))] 148));have aR:=UT y_;have o9:=Zd y_;have x0:=QK y_;have kn4:KnV (fun b=>b<w.heap.size) PF PT W4 (w.heap.size+1+1+1) (w.heap.size+1) (w.heap.size+1+1) 0 0 ⟨[],[]⟩:=by
    refine ⟨by rw[y_];exact ah (by simp),?_,?_,by omega,by omega,by omega⟩
    ·have h:=MapV.made (P:=Tryz.prog) (k:=9) (V:=FormK (fun b=>b<w.heap.size) PF W4) (w.alloc (.cells #[.slice fa n1 fc,.slice ta n2 tc] 26));have hz:(w.alloc (.cells #[.slice fa n1 fc,.slice ta n2 tc] 26)).heap.size=w.heap.size+1:=by simp
     rw[hz]at h;exact h.move (by rw[y_];exact (bH _ _ _ (by simp <;> omega)).trans (bH _ _ _ (by simp))) (fun _ _ _ _ h=>h)
    ·have h:=MapV.made (P:=Tryz.prog) (k:=9) (V:=TermK (fun b=>b<w.heap.size) PT W4) ((w.alloc (.cells #[.slice fa n1 fc,.slice ta n2 tc] 26)).alloc (.map #[] 0));have hz:((w.alloc (.cells #[.slice fa n1 fc,.slice ta n2 tc] 26)).alloc (.map #[] 0)).heap.size=w.heap.size+1+1:=by simp
     rw[hz]at h;exact h.move (by rw[y_];exact (bH _ _ _ (by simp))) (fun _ _ _ _ h=>h)
   rw[<-eh]at r_;rw[<-i_]at qF;rw[<-eh,<-i_];have ⟨Z9,HTv⟩:=aS r_ qF;have HP:=sC sL qW hdF hdT hPF Ya;have HN:=aA eh i_;have H4:=cq aR o9 x0 kn4;have ⟨HM,HW4⟩:=aS hM y_;clear r_ qF sL qW hdF hdT hPF Ya eh i_ aR o9 x0 kn4 y_ hM;unfold BQ.val;go_enter Tryz.func46,Tryz.ntmps46;go_wp2_with fail;rw[<-HW4.o];go_loopw [15] (fun i wr=>∃k:Nat,k<=n1/\i=.int .i64 k/\Kp M W4 wr/\KnV (fun b=>b<w.heap.size) PF PT wr (w.heap.size+1+1+1) (w.heap.size+1) (w.heap.size+1+1) k 0 ⟨b.fs.take k,[]⟩) (fun i _=>n1 - (intOf i).toNat)
   case atStart=>exact ⟨0,aX _,rfl,Kp.refl _,by simpa using H4.o.2.2.2⟩
   case round=>
    obtain ⟨k,hk,rfl,bi,d_⟩:=hrel
    by_cases hlt:k<n1
    ·have bj:k<b.fs.length:=by rw[<-HN.o.1];exact hlt
     have qzo:=();exact qdV
    ·obtain rfl:k=n1:=by omega
     have ce:b.fs.take k=b.fs:=by rw[HN.o.1];exact cK
     rw[ce]at d_;have ⟨wo,Gx⟩:=aj wr;subst Gx;have x0:=(bi.same _ (by have:=H4.o.2.1;omega) (by rw[HM.o];omega)).trans H4.o.2.2.1;have ⟨y0,y1⟩:=UW x0;have HO:=aA bi d_;clear bi d_ ce x0;go_wp2_with fail;clear y0 y1;go_loopw [31] (fun i wr=>∃j:Nat,j<=n2/\i=.int .i64 j/\Kp M W4 wr/\KnV (fun b=>b<w.heap.size) PF PT wr (w.heap.size+1+1+1) (w.heap.size+1) (w.heap.size+1+1) k j ⟨b.fs,b.ts.take j⟩) (fun i _=>n2 - (intOf i).toNat)
     case atStart=>exact ⟨0,aX _,rfl,HO.o.1,by simpa using HO.o.2⟩
     case round=>
      obtain ⟨j,hj,rfl,bi,d_⟩:=hrel
      by_cases eE:j<n2
      ·have bj:j<b.ts.length:=by rw[<-HN.o.2];exact eE
       obtain ⟨bb,off,⟨qv,qn,qa,ql,qc⟩,rfl,hok,hf,c0,c1,c2,c3⟩:=HTv.o.get bj;exact qi2
      ·obtain rfl:j=n2:=by omega
       have ce:b.ts.take j=b.ts:=by rw[HN.o.2];exact cK
       rw[ce]at d_;have HE:=aA bi d_;clear bi d_ ce;go_wp2;go_ret;refine ⟨rfl,HE.o.2,?_⟩;exact ⟨HE.o.1.os.trans H4.o.1.os,HE.o.1.tape.trans H4.o.1.tape,HE.o.1.output.trans H4.o.1.output,aN H4.o.1.size HE.o.1.size,fun b hb=>(HE.o.1.same b (bJ hb H4.o.1.size) (by rw[HM.o];omega)).trans (H4.o.1.block b hb)⟩
  |have ⟨R,hR⟩:=aj (validB b);rw[<-eh]at hF r_;rw[<-i_]at hT qF;rw[<-eh,<-i_,<-hR];have ⟨W1,bY⟩:=aj (w.alloc (.cells #[.slice fa n1 fc,.slice ta n2 tc] 26));have hb1:=cM bY;have iM:=Gb bY;have x1:=bS bY;have ⟨Z9,HTv⟩:=aS r_ qF;have HP:=aA sL qW;have HN:=aA eh i_;have H1:=bx hb1 iM x1;have ⟨UJ,jt,HR⟩:=cE ht bY hR;clear r_ qF sL qW eh i_ hb1 iM x1 bY ht hR;unfold BQ.val;go_enter Tryz.func27,Tryz.ntmps27;go_wp2_with fail;rw[<-jt.o];go_loopw [3,12] (fun v i wr=>∃k:Nat,k<=n1/\i=.int .i64 k/\Below W1.heap.size W1 wr/\OwnS W1.heap.size wr v ((b.fs.take k).map (·.1))/\(b.fs.take k).all (fun x=>dA x.1 && bT (bl x.2))=true) (fun _ i _=>n1 - (intOf i).toNat)
   case atStart=>exact ⟨0,aX _,rfl,ai _ _,OwnS.nil _ _,by simp⟩
   case round=>
    obtain ⟨k,hk,rfl,aq,au,eJ⟩:=hrel
    by_cases hlt:k<n1
    ·have bj:k<b.fs.length:=by rw[<-HN.o.1];exact hlt
     exact qdV
    ·obtain rfl:k=n1:=by omega
     have ce:b.fs.take k=b.fs:=by rw[HN.o.1];exact cK
     rw[ce]at au eJ;have ⟨wo,Gx⟩:=aj wr;subst Gx;have y1:=aa aq (ag H1.o.2.2 1);have HO1:=cq aq au eJ (H1.o.1.tr aq);clear aq au eJ ce;go_wp2_with fail;clear y1;go_loopw [4,36] (fun v i wr=>∃j:Nat,j<=n2/\i=.int .i64 j/\Below wo.heap.size wo wr/\OwnS wo.heap.size wr v ((b.ts.take j).map (·.1))/\(b.ts.take j).all (fun x=>cX x.1 && jc false (aK x.2))=true) (fun _ i _=>n2 - (intOf i).toNat)
     case atStart=>exact ⟨0,aX _,rfl,ai _ _,OwnS.nil _ _,by simp⟩
     case round=>
      obtain ⟨j,hj,rfl,aq,au,eJ⟩:=hrel
      by_cases eE:j<n2
      ·have le:j<b.ts.length:=by rw[<-HN.o.2];exact eE
       obtain ⟨bb,off,⟨qv,qn,qa,ql,qc⟩,rfl,hok,hf,c0,c1,c2,c3⟩:=HTv.o.get le;have l8:=HO1.o.2.2.2.tr aq;have ⟨d0,d1,d2,d3⟩:=lH l8 c0 c1 c2 c3;have ⟨nm,dD⟩:=aj (b.ts[j].1);have ⟨g,hg⟩:=aj (b.ts[j].2);have mI:=HP.o.2 _ (ap le);rw[<-dD]at d0;rw[<-dD,<-hg]at mI;rw[<-hg]at hf;exact qi3
      ·obtain rfl:j=n2:=by omega
       have ce:b.ts.take j=b.ts:=by rw[HN.o.2];exact cK
       rw[ce]at au eJ;have hE:R=(dw (b.fs.map (·.1)) && dw (b.ts.map (·.1))):=by rw[HR.o];unfold validB;rw[HO1.o.2.2.1,eJ];simp
       have HE3:=ab hE;have C1:=vJ (b.fs.map (·.1)) (by simp;have:=HN.o.1;omega) wr u3 (J' (HO1.o.2.1.later aq).strs);have HS2:=ab (fun (W:World) (hb:Below wr.heap.size wr W)=>vJ (b.ts.map (·.1)) (by simp;have:=HN.o.2;omega) W u4 (J' (au.later hb).strs));have ⟨B1,jf⟩:=aj (dw (b.fs.map (·.1)));have ⟨B2,eV⟩:=aj (dw (b.ts.map (·.1)));rw[<-jf,<-eV]at HE3;rw[<-jf]at C1;rw[<-eV]at HS2;have HS1:=ab C1;have cz:=ab (HO1.o.2.2.2.tr aq);clear hE C1 jf eV au eJ aq ce
       cases B1 with
       | false=>
        go_wp2_with (go_at_call 70;refine HS1.o.mono ?_;rintro e w6 ⟨rfl,cF⟩;have H6:=ab cF;clear cF);go_ret;exact ⟨by rw[HE3.o];rfl,cz.o.tr H6.o⟩
       | true=>
        go_wp2_with fail;refine HS1.o.mono ?_;rintro e w6 ⟨rfl,cF⟩;have H6:=ab cF;clear cF;go_wp2_with fail;refine (HS2.o w6 H6.o).mono ?_;rintro e w7 ⟨rfl,fW⟩;have H7:=ab (H6.o.tr fW);clear fW;go_wp2;go_ret;exact ⟨by rw[HE3.o];rfl,cz.o.tr H7.o⟩):G:=h
theorem qhJ(h:G:=by
 obtain ⟨hs,hf,hc,he,hl⟩:=hpv;simp only at hs hf hc he hl sf;have iG:=hp.ps he;obtain ⟨v1,v2,h1,iu,lU⟩:=aQ.1 hs
 first
 |clear qtR;obtain ⟨v3,v4,h2,GJ,_f⟩:=aQ.1 hf;exact qce
 |have qrr:=();exact qah):G:=h
theorem qfk(h:G:=by
 refine ⟨by omega,by omega,fun h=>?_⟩;have h3:=h2.2.2 h;have h4:=h1.2 (by omega);omega):G:=h
theorem qfR(h:G:=by
 rw[ce]at de;have HK:=aA de hk;clear de hk ce;go_wp2;go_end0;exact ⟨rfl,HK.o.1,HK.o.2⟩):G:=h
theorem qfr(h:G:=by
 clear h;refine Oi _ _ ?_;refine wpIn_cond_false (aW tc) (wpIn_exit ?_);simp only[Exit.then,Exit.inBlock,↓reduceIte]
 first
 |clear qnY;refine zcx _ _ ?_;exact zez WB w i8 s bd kd hP b2 b3 b9 q9 ⟨_,_,_,_,If⟩ _ _ ⟨Ks,PS,Hy,⟨_,F2⟩,⟨_,B3⟩,B9⟩
 |refine zcB _ _ ?_;exact zeC WB w i8 s bd kd hP b2 b3 b9 q9 ⟨_,_,_,_,If⟩ _ _ ⟨Kr,PM,Hv,⟨_,F2⟩,⟨_,B3⟩,B9⟩):G:=h
theorem qcQ(h:G:=by
 have JB:=gh GZ;have QB:dm.length<=17:=by rw[zC];have:=jk K1;simp[bI];omega
 first
 |clear qrs;have uA:=d_.later hb1;have Ip:=fun (V:World) (h:Below W1.heap.size W1 V)=>fX (.mk 16 n a s) (by simp[Fm.a,fC]) (by simp[Fm.a,fC]) (fun t ht=>by
   have h2:=fP.1 ma.2.2.1 t (by simpa[Fm.a] using ht);obtain ⟨tv,tn,ta⟩:=t;simp only[jJ,ae,br]at h2;have:=h2.1;simp only;omega) _ V ⟨16,⟨n.toArray⟩,sa,n1,sc,sb,m2,se⟩ ((hs.later hb1).later h)
  simp only[FQ.val]at Ip;rw[aT,<-zC]at Ip;have ⟨HIN,HR,HP⟩:=cE Ip rj hp;have HG:=fG UD UC UE _d _e;have HV:=cq hf hc uA (Ca.next hb1);have HB:=cq sL qW hl iG;have jt:=ab bY;have H1:=bx hb1 iM x1;have HF:=fG ar ma.2.1 JB QB GZ;have g0:W1.cell? ⟨kb,0,none⟩=some (.map (some mF)):=ag uA.box 0;have g1:W1.drew.cell? ⟨kb,0,none⟩=some (.map (some mF)):=ag uA.box 0;have g3:W1.drew.cell? ⟨W.heap.size,1,none⟩=some (.string ⟨n.toArray⟩):=P1;have qzS:=();exact qkO
 |clear qAo;have Ip:=fun (V:World) (h:Below W2.heap.size W2 V)=>fX (.mk 16 n a ss) (by simp[Fm.a,fC]) (by simp[Fm.a,fC]) (fun t ht=>by
   have h2:=fP.1 HQ.o.2.2.2.2.2.2.1 t (by simpa[Fm.a] using ht);obtain ⟨tv,tn,ta⟩:=t;simp only[jJ,ae,br]at h2;have:=h2.1;simp only;omega) _ V ⟨16,⟨n.toArray⟩,sa,n1,sc,sb,m1,se⟩ (HQ.o.1.later h)
  simp only[FQ.val,aT]at Ip
  first
  |clear quU;have HIN:=ab Ip;have HY:=aA JB QB;have qzR:=();exact qhx
  |have k0:W2.cell? ⟨kb,0,none⟩=some (.map (some mF)):=ag H2.o.2.2.box 0;have k1:W2.drew.cell? ⟨kb,0,none⟩=some (.map (some mF)):=k0;have k3:W2.drew.cell? ⟨w.heap.size+1,1,none⟩=some (.string ⟨n.toArray⟩):=e1;exact qhy
 |have Ip:=fX (.mk 16 n a ss) (by simp[Fm.a,fC]) (by simp[Fm.a,fC]) (fun t ht=>by
   have h2:=fP.1 ma.2.2.1 t (by simpa[Fm.a] using ht);obtain ⟨tv,tn,ta⟩:=t;simp only[jJ,ae,br]at h2;have:=h2.1;simp only;omega) _ W2 ⟨16,⟨n.toArray⟩,sa,n1,sc,sb,m1,se⟩ (hq.later bG)
  simp only[FQ.val,aT]at Ip;have ⟨n0,tW⟩:=aj (ea dm f);rw[<-tW]at hR;have KT:n0<=400:=by have:=pM dm f;omega
  have HB:=fG bG gY x1 x2 hR;have wm:=fG oy JD GC Vn Vo;have ⟨HGl,KZ,fj,HIN⟩:=eD xx fJ aZ Ip;have HY:=bx JB QB KT;have HN0:=ab tW;have RE:=ab (i8.next (cZ.tr bG));clear bG gY x1 x2 hR oy JD GC Vn Vo xx fJ aZ Ip JB QB KT tW Gy hf fC K1 GZ aT zC jD hq iu lU hL VK Sc eh iI cZ ma kz hs;simp only[FQ.val];have ⟨c0,c1,c2,c3⟩:=nI HB.o.2.2.1;exact qjT):G:=h
theorem qbr(h:G:=by
 intro g eF w4 aO am hg eA;have h4:=fh.o.at4 (kk:=3) au bZ am
 first
 |clear qo1;have cD:=fh.o.stepF (F:=3) (t:=(bl s[k])) (g:=g) (cap:=eF) (by rw[dU.o];exact au) (by rw[dU.o];exact eu) gd bZ (hp:FormV (W2.heap.size<=·) A p.val (bl s[k])) (by rw[dU.o];exact aO) am hg rfl;rw[dU.o,cW bl s dy]at cD;have qcB:=();exact qaf
 |clear qo3;have cD:=fh.o.stepF (F:=3) (t:=(fI kk nx z s[k])) (g:=g) (cap:=eF) (by rw[dU.o];exact au) (by rw[dU.o];exact eu) gd bZ (hp:FormV (W2.heap.size<=·) A p.val (fI kk nx z s[k])) (by rw[dU.o];exact aO) am hg rfl;rw[dU.o,cW (fI kk nx z) s dy]at cD;have qcC:=();exact qaf
 |clear qo5;have cD:=fh.o.stepF (F:=3) (t:=(cw kd c ss[k])) (g:=g) (cap:=eF) (by rw[dU.o];exact au) (by rw[dU.o];exact eu) gd bZ (hp:FormV (W2.heap.size<=·) A p.val (cw kd c ss[k])) (by rw[dU.o];exact aO) am hg rfl;rw[dU.o,cW (cw kd c) ss dy]at cD;have qcC:=();exact qaf
 |have cD:=fh.o.stepF (F:=3) (t:=(et ns s[k])) (g:=g) (cap:=eF) (by rw[dU.o];exact au) (by rw[dU.o];exact eu) gd bZ (hp:FormV (wr.heap.size<=·) A p.val (et ns s[k])) (by rw[dU.o];exact aO) am hg rfl;rw[dU.o,cW (et ns) s dy]at cD;have qpJ:=();exact qaf):G:=h
theorem qfe(h:G:=by
 have HE:=ab (show R=(jq,2) by rw[HR.o];rfl);go_enter Tryz.func32,Tryz.ntmps32
 first
 |clear qnI;go_wp2_with (rw[<-fj.o];go_at_call 26;refine uP.o.mono ?_;rintro e w4 ⟨rfl,aR⟩;have x4:=bN aR HB.o.2.2.2.2;obtain ⟨i0,i1,i2,i3,z0,z1,z2,z3⟩:=dc x4;have Mw:=ab x4;have H4:=ab aR;clear aR x4);have qg2:=();exact qbl
 |go_wp2_with (first | (rw[<-fj.o];go_at_call 26;refine uP.o.mono ?_;rintro e w3 ⟨rfl,aG⟩;have x3:=bN aG HB.o.2.2.2.1;have j0:=ag x3 0;have j1:=ag x3 1;have H3:=ab aG;clear aG x3) | (go_at_call 27;refine (SL.o _ H3.o).mono ?_;rintro e w4 ⟨rfl,aR⟩;have x4:=bN (H3.o.tr aR) HB.o.2.2.2.2;obtain ⟨i0,i1,i2,i3,z0,z1,z2,z3⟩:=dc x4;have Mw:=ab x4;have H4:=ab (H3.o.tr aR);clear aR x4));have qg2:=();exact qbl):G:=h
theorem qkH(h:G:=by
 have ⟨wz,hwz⟩:=aj wr;subst hwz;obtain ⟨S,hS⟩:∃S:World->Prop,S=fun V=>Below W1.heap.size W1 V:=⟨_,rfl⟩
 first
 |clear qzL;have g0:=jt.o.2.1;have f0:∀ V,S V->V.cell? ⟨w.heap.size,0,none⟩=some (.slice (some ⟨b,off,none⟩) k0 qc):=fun V h=>by rw[hS]at h;exact aa h g0
  have ff:∀ V,S V->V.cell? ⟨b,off+k * 5,none⟩=some (.string ⟨nm.toArray⟩)/\V.cell? ⟨b,off+k * 5+1,none⟩=some (.int .u8 x.o)/\V.cell? ⟨b,off+k * 5+2,none⟩=some (.string x.n)/\V.cell? ⟨b,off+k * 5+3,none⟩=some (.slice x.a x.l x.c)/\V.cell? ⟨b,off+k * 5+4,none⟩=some (.slice x.b x.m x.e):=fun V h=>by
   rw[hS]at h;exact ⟨aa (jt.o.1.tr h) c0,aa (jt.o.1.tr h) c1,aa (jt.o.1.tr h) c2,aa (jt.o.1.tr h) c3,aa (jt.o.1.tr h) c4⟩
  have qyx:=();exact qj6
 |have g0:=jt.o.2.2;have f0:∀ V,S V->V.cell? ⟨w.heap.size,1,none⟩=some (.slice (some ⟨b,off,none⟩) n2 qe):=fun V h=>by rw[hS]at h;exact aa h g0
  have ff:∀ V,S V->V.cell? ⟨b,off+j * 4,none⟩=some (.string ⟨nm.toArray⟩)/\V.cell? ⟨b,off+j * 4+1,none⟩=some (.bool x.v)/\V.cell? ⟨b,off+j * 4+2,none⟩=some (.string x.n)/\V.cell? ⟨b,off+j * 4+3,none⟩=some (.slice x.a x.l x.c):=fun V h=>by
   rw[hS]at h;exact ⟨aa (jt.o.1.tr h) c0,aa (jt.o.1.tr h) c1,aa (jt.o.1.tr h) c2,aa (jt.o.1.tr h) c3⟩
  exact qj6):G:=h
theorem qdr(h:G:=by
 go_enter Tryz.func92,Tryz.ntmps92
 first
 |clear qAp;exact qhh
 |clear qvB
  by_cases dD:xn=yn
  ·subst dD;exact qds
  ·have gG:(xn == yn)=false:=by simpa using dD
   have kf:(!(xn == yn))=true:=by simpa using dD
   rw[gG,Bool.false_or]at ND;subst ND;have HM:Hd (R=(cf ps.reverse xa ya && cJ (ps ++ [(xn,yn)]).reverse xs ys)):=ab (by rw[hm];simp);clear hm;go_wp2_with (go_at_call 93;refine (Js.o _).mono ?_;rintro e X0 ⟨rfl,mn⟩;have ne:Below W2.heap.size W2 X0:=(by rw[fj.o];exact mn);have mC:=ab (bN ne HX.o);have nW:=ab (bN ne HY.o);have qp:=ab ((HP.o.later cv.o).later ne);have il:=ab (cv.o.trans (ne.mono cv.o.size));have z2:X0.cell? ⟨w.heap.size,2,none⟩=some (.slice ua k0 uc):=ag mC.o 2;clear mn ne);clear z2;exact qhH
 |go_wp2_with (go_at_call 93;refine (Js.o _).mono ?_;rintro e X0 ⟨rfl,mn⟩;have Ja:Hd (Below W2.heap.size W2 X0):=ab (by rw[fj.o];exact mn);clear mn);go_ret;exact ⟨az HE.o.symm,cv.o.trans (Ja.o.mono cv.o.size)⟩):G:=h
theorem qeA(h:G:=by
 have hba:Below W.heap.size W (W.alloc (.cells #[.bool false,.string ⟨#[]⟩,.slice none 0 0] 43)):=cI
 first
 |clear qmr;have e0:(W.alloc (.cells #[.bool false,.string ⟨#[]⟩,.slice none 0 0] 43)).cell? ⟨W.heap.size,0,none⟩=some (.bool false):=ag sZ 0;have e1:(W.alloc (.cells #[.bool false,.string ⟨#[]⟩,.slice none 0 0] 43)).cell? ⟨W.heap.size,1,none⟩=some (.string ⟨#[]⟩):=ag sZ 1;have e2:(W.alloc (.cells #[.bool false,.string ⟨#[]⟩,.slice none 0 0] 43)).cell? ⟨W.heap.size,2,none⟩=some (.slice none 0 0):=ag sZ 2;have HB:=ab hba;clear sZ hba;go_enter Tryz.func268,Tryz.ntmps268;go_wp2;refine bK (v:=.tuple #[TQ.val ⟨false,⟨#[]⟩,none,0,0⟩,.bool false]) (by simp[TQ.val,results,Tryz.results268,go_sem,e0,e1,e2]) rfl ⟨⟨⟨false,⟨#[]⟩,none,0,0⟩,rfl,fun u h=>by cases h⟩,HB.o⟩
 |have hx:(W.alloc (.cells #[.bool false,.string ⟨#[]⟩,.slice none 0 0] 43)).heap[W.heap.size]?=some (.cells #[.bool false,.string ⟨#[]⟩,.slice none 0 0] 43 (0,0)):=ah rfl;have qAq:=();exact qk0):G:=h
theorem qci(h:G:=by
 simp only[jc,↓reduceIte,ae]at hok;obtain rfl:a=[]:=by simpa using hok.1
 first
 |clear qnj;split <;> simp[aP,nodesT,nodesTs,ew,dZ]
 |clear qnm;simp[bL]
 |simp[jL,dZ,dO]):G:=h
theorem qhr(h:G:=by
 clear aq de ce;go_wp2;go_ret;exact ⟨⟨_,rfl,by rw[sg.o];exact HK.o.2⟩,HK.o.1⟩):G:=h
theorem qjM(h:G:=by
 have ⟨HK,HD⟩:=aS bi hd;clear hn bi hd;gi_wp2;refine ⟨by simp,.inl ⟨_,_,rfl,run_takeDeferred HD.o,?_⟩⟩
 first
 |clear qxS;refine ⟨.int .i64 (nodesF f),by simp[results,Tryz.results167,go_sem],rfl,?_⟩;exact qk1
 |refine ⟨.int .u32 ((lT (iC f)).toNat:Int),by simp[results,Tryz.results41,go_sem],rfl,?_⟩;exact qk1):G:=h
theorem qku(h:G:=by
 have ⟨d0,d1,d2,d3,d4⟩:=Zj l8 c0 c1 c2 c3 c4;have ⟨nm,dD⟩:=aj (b.fs[k].1);have ⟨g,hg⟩:=aj (b.fs[k].2)
 first
 |clear qzn;have qAr:=();exact qk2
 |have mI:=HP.o.1 _ (ap bj);rw[<-dD]at d0;rw[<-dD,<-hg]at mI;rw[<-hg]at hf;exact qdk):G:=h
theorem qiE(h:G:=by
 clear CC ik cD VB hx hy fJ bi pK hkd Nt pL bh x6 xA _b UG _a rp c0 c1 c2 y0 y1 y2 sM sN hS e_;go_wp2;rw[<-OU.o]
 first
 |clear qvj;have qzb:=();exact qgD
 |exact qgD):G:=h
theorem qed(h:G:=by
 go_enter Tryz.func242,Tryz.ntmps242;go_wp2;go_ret
 first
 |clear qlG;simp
 |refine ⟨az ?_,rfl⟩;rw[QR,ip];simp):G:=h
theorem qjf(h:G:=by
 obtain ⟨⟨z0,z1,z2,z3,z4⟩,hz,GY,Nu,_,_,Cb⟩:=l9.termOf (x:=n) kz;simp only[TQ.val]at Cb;have bj:=l9.ts.lt
 first
 |clear qwv;have qAs:=();exact qcT
 |have x3:=bD.o.2.2.1;exact qcT):G:=h
theorem qcf(h:G:=by
 go_ret;exact ⟨by rw[<-H4.o.1];rfl,H4.o.2⟩):G:=h
theorem qgK(h:G:=by
 have CT:=ab (fun w=>ht ▸ ly n w tM);have HE:=ab (hb.trans (by rw[hv,ht] <;> rfl));clear hv ht hb mt Qt tN p9
 first
 |clear qrE;have qsq:=();exact qao
 |have qss:=();exact qao):G:=h
theorem qgN(h:G:=by
 have Zf:¬bc<=bz:=fun h=>Oz ⟨hl,h⟩;simp only[decide_eq_false_iff_not];omega):G:=h
theorem qeX(h:G:=by
 have e:cw k c (.mk o n [] [g])=mW o n [] (cw k (n :: c) g):=by
  simp only[cw,ak ja,ak h16,aw hq,el,dZ]
 rw[e]
 first
 |clear qno;generalize cw k (n :: c) g=r at i1 i2;unfold mW;generalize (if (aL [] r).contains n then dL (aL [] r) else n)=m';obtain ⟨p1,p2,_⟩:=gL (depthF r) r (bI n) m' i1 i2 (aC _);exact ⟨by simp[gS,eR,dO,e9,p1],by simp[qone,fF,e9,p2]⟩
 |generalize cw k (n :: c) g=r at ih iw;have hm:=Mk (n:=n) (r:=r) dD.2.1 (by omega);unfold mW;generalize (if (aL [] r).contains n then dL (aL [] r) else n)=m' at hm;have hp:=we (depthF r) r (bI n) (aP m') iw.1 iw.2 (aC _);have hv:nodesT (aP m')=1:=by simp[aP,nodesT,nodesTs]
  have In:=pG (depthF r) r (bI n) (aP m') iw.1 iw.2 (aC _) (by rw[hv];omega) ih.2 (yi hm);rw[hv]at hp;refine ⟨?_,?_⟩
  ·simp only[nodesF,nodesTs,nodesFs,e9];omega
  ·simp only[li,nmTs,nmFs,e9,In,Bool.and_true,ae,br];exact ⟨dD.1,hm⟩):G:=h
theorem qaQ(h:G:=by
 obtain ⟨k,hk,rfl,aq,ht⟩:=hrel
 by_cases hlt:k<k0
 first
 |clear qml
  ·have bj:=cb du.o hlt;have qyl:=();exact qdP
  ·obtain rfl:k0=k:=by omega
   have HE:=ab (show R=none by rw[ht,gT (by rw[du.o];exact aC _)];simp[ev]);have HB:=ab aq;clear aq ht;go_wp2;go_ret;exact ⟨⟨_,rfl,by rw[HE.o];exact IntsV.nil _⟩,HB.o⟩
 |clear qw2
  ·have bj:=cb du.o hlt;have kK:k<m.length:=by rw[<-gt.o,<-HKM.o];exact hlt
   have Z_:k<m0:=by rw[<-HKM.o];exact hlt
   have qzT:=();exact qkP
  ·obtain rfl:k=k0:=by omega
   have he:R=0:=by rw[ht,gT (by rw[du.o];exact aC _),BS]
   have ⟨HE,HB⟩:=aS he aq;clear he aq ht;go_wp2;go_ret;exact ⟨rT HE.o.symm,HB.o⟩
 |clear qxO
  ·have bj:=cb du.o hlt;have kK:=cb Vq.o bj;exact qkP
  ·obtain rfl:k=k0:=by omega
   have qyg:=();exact qjV
 |clear qxP
  ·have bj:=cb du.o hlt;have kK:=cb Vq.o bj;obtain ⟨b,off,u,rfl,_,hu,c0,c1,c2,c3⟩:=HL.o.get bj;obtain ⟨b',jZ,u',rfl,_,gI,kX,kY,kr,B_⟩:=HM.o.get kK;have hf:=HF.o.mem (ap bj);have p_:=fd.o l[k] (ap bj);have qvd:=();exact qbF
  ·obtain rfl:k=k0:=by omega
   exact qjV
 |·have bj:=cb du.o hlt;obtain ⟨b,off,u,rfl,_,hu,c0,c1,c2,c3⟩:=HL.o.get bj;have hf:=HF.o.mem (ap bj);have p_:=fd.o xs[k] (ap bj);rw[I7 bj]at ht;have qAt:=();exact qiZ
  ·obtain rfl:k0=k:=by omega
   have HE:=ab (show R=none by rw[ht,gT (by rw[du.o];exact aC _)];simp[lg]);have HB:=ab aq;clear aq ht;go_wp2;refine bK (v:=.tuple #[.slice none 0 0,.slice none 0 0]) (by simp[results,Tryz.results165,go_sem]) rfl ⟨⟨_,_,rfl,?_,?_⟩,HB.o⟩
   ·rw[HE.o];exact IntsV.nil _
   ·rw[HE.o];exact IntsV.nil _):G:=h
theorem qaX(h:G:=by
 obtain ⟨k,hk,rfl,dx,ht⟩:=hrel
 by_cases hlt:k<k1
 first
 |clear qqX
  ·have bj:=cb KX.o hlt;have qsm:=();exact qa2
  ·obtain rfl:k1=k:=by omega
   exact qa4
 |clear qws
  ·have bj:=cb KX.o hlt;have qso:=();exact qa2
  ·obtain rfl:k1=k:=by omega
   exact qa4
 |clear qwt
  ·have bj:=cb KX.o hlt;exact qa2
  ·obtain rfl:k1=k:=by omega
   exact qa4
 |clear qw7
  ·have bj:=cb KX.o hlt;have qsk:=();exact qa2
  ·obtain rfl:k1=k:=by omega
   exact qa4
 |·have bj:=cb KX.o hlt;have qsi:=();exact qa2
  ·obtain rfl:k1=k:=by omega
   exact qa4):G:=h
theorem qh4(h:G:=by
 exact ⟨k+1,by omega,by go_num,_,us ++ [u'],cD,vK.o.1,by rw[cU,vK.o.2];rfl⟩):G:=h
theorem qeV(h:G:=by
 simp only[Df.mk.injEq,true_and]at h;rcases hz with hz | hz
 ·exact sk a hw.1 h.1 z (List.mem_filter.1 hz).1
 first
 |clear qnl
  ·rw[ib,List.mem_filter]at hz;have:=yC s _ _ _ hw.2 h.2 z hz.1;have hn:(z == n)=false:=by simpa using hz.2
   simpa[upd,hn] using this
 |·exact yC s _ _ _ hw.2 h.2 z hz):G:=h
theorem qk3(h:G:=by
 simp only[dif_pos tH];exact (ht j tH hj).2.move (fun b hok _=>⟨hok.1,rfl⟩)):G:=h
theorem qfh(h:G:=by
 subst hq;exact ⟨q,hs,h3,h4.move (fun c hc _=>⟨⟨hc.1,hc.2.1⟩,rfl⟩)⟩):G:=h
theorem qds(h:G:=by
 have gG:(xn == xn)=true:=by simp
 have kf:(!(xn == xn))=false:=by simp
 first
 |clear qvD;have HM:Hd (R=(cf ps.reverse xa ya && cJ ps.reverse xs ys)):=ab (by rw[hm];simp);clear hm;go_wp2_with (go_at_call 146;refine (Js.o _).mono ?_;rintro e X0 ⟨rfl,mn⟩;have ne:Below W2.heap.size W2 X0:=(by rw[fj.o];exact mn);have mC:=ab (bN ne HX.o);have nW:=ab (bN ne HY.o);have qp:=ab ((HP.o.later cv.o).later ne);have il:=ab (cv.o.trans (ne.mono cv.o.size));have z1:X0.cell? ⟨w.heap.size,1,none⟩=some (.string ⟨xn.toArray⟩):=ag mC.o 1;have z3:X0.cell? ⟨w.heap.size+1,1,none⟩=some (.string ⟨xn.toArray⟩):=ag nW.o 1;have z2:X0.cell? ⟨w.heap.size,2,none⟩=some (.slice ua k0 uc):=ag mC.o 2;clear mn ne);clear z1 z2 z3;go_loopw [47] (fun i wr=>∃k:Nat,k<=k0/\i=.int .i64 k/\Below X0.heap.size X0 wr/\R=(cf ps.reverse (xa.drop k) (ya.drop k) && cJ ps.reverse xs ys)) (fun i _=>k0 - (intOf i).toNat)
  case atStart=>exact ⟨0,aX _,rfl,ai _ _,by simpa using HM.o⟩
  case round=>
   have qt7:=();exact qaz
 |clear qv2;have HMt:Hd (R=cf ps.reverse xa ya):=ab (by rw[rk.o];simp);clear rk;go_wp2
  first
  |clear qAu;rw[<-fj.o];have qyX:=();exact qkl
  |clear qAv;exact qkl
  |rw[<-fj.o];go_loopw [36] (fun i wr=>∃k:Nat,k<=k0/\i=.int .i64 k/\Below W2.heap.size W2 wr/\R=cf ps.reverse (xa.drop k) (ya.drop k)) (fun i _=>k0 - (intOf i).toNat)
   case atStart=>exact ⟨0,aX _,rfl,(ai _ _),by simpa using HMt.o⟩
   case round=>
    have qt1:=();exact qaz
 |have il:=cv;have mC:=HX;have nW:=HY;have qp:=ab (HP.o.later cv.o);cases qb
  ·have HM:Hd (R=(cf ps.reverse xa ya && cJ ps.reverse xs ys)):=ab (by rw[hm];simp);clear hm;go_wp2;rw[<-fj.o];go_loopw [47] (fun i wr=>∃k:Nat,k<=k0/\i=.int .i64 k/\Below W2.heap.size W2 wr/\R=(cf ps.reverse (xa.drop k) (ya.drop k) && cJ ps.reverse xs ys)) (fun i _=>k0 - (intOf i).toNat)
   case atStart=>exact ⟨0,aX _,rfl,ai _ _,by simpa using HM.o⟩
   case round=>
    have qt2:=();exact qaz
  ·have HM:Hd (R=(cf ps.reverse xa ya && cJ (ps ++ [(xn,xn)]).reverse xs ys)):=ab (by rw[hm];simp);clear hm;go_wp2;rw[<-fj.o];go_loopw [47] (fun i wr=>∃k:Nat,k<=k0/\i=.int .i64 k/\Below W2.heap.size W2 wr/\R=(cf ps.reverse (xa.drop k) (ya.drop k) && cJ (ps ++ [(xn,xn)]).reverse xs ys)) (fun i _=>k0 - (intOf i).toNat)
   case atStart=>exact ⟨0,aX _,rfl,ai _ _,by simpa using HM.o⟩
   case round=>
    have qt4:=();exact qaz):G:=h
theorem qhd(h:G:=by
 go_wp2;have ⟨W3,dF⟩:=aj (wr.alloc (.cells #[.bool u.v,.string u.n,.slice u.a u.l u.c] 43))
 first
 |clear qsg;have qvx:=();exact qdq
 |exact qdq):G:=h
theorem qev(h:G:=by
 have bG:RowKit.Below w.heap.size w W2:=by rw[aZ];exact cI.alloc (by simp) _
 have gY:=xC aZ;have pw:=jH aZ
 first
 |clear ql8;have C2:=Gk (aE t) nO (m4 t ar.2) 270 #[.pointer (some ⟨w.heap.size+1,0,none⟩)] W2 (enters_of Tryz.func270 (by kernel_rfl) rfl) (fun w1 hb hl=>Ea t ar (fun b=>b=W2.heap.size) W2.heap.size (w.heap.size+1) w1 q (bN hb pw) (by omega) ((hq.later (bG.trans (hb.mono bG.size))).move (fun b U_ hlt=>⟨⟨by omega,by omega⟩,rfl⟩)));have qz3:=();exact qkU
 |have C2:=Gk (aL [] t) nO (nU t [] ar.2) 148 #[.pointer (some ⟨w.heap.size+1,0,none⟩)] W2 (enters_of Tryz.func148 (by kernel_rfl) rfl) (fun w1 hb hl=>Eo t ar Im (fun b=>b=W2.heap.size) W2.heap.size (w.heap.size+1) w1 q (bN hb pw) (by omega) ((hq.later (bG.trans (hb.mono bG.size))).move (fun b U_ hlt=>⟨⟨by omega,by omega⟩,rfl⟩)));exact qkU):G:=h
theorem qeC(h:G:=by
 obtain ⟨g,cap,rfl,_,_⟩:=h2.form (by omega);exact ⟨g,cap,w',hr,h2,h3⟩):G:=h
theorem qkQ(h:G:=by
 simp only[dif_pos tH];exact (ht j tH hj).move (fun b hok _=>⟨hok.1,rfl⟩)):G:=h
theorem qd9(h:G:=by
 have c0:=h.cells (g:=g) rfl _ _ h0;have c1:=h.cells (g:=g) rfl _ _ h1;have c2:=h.cells (g:=g) rfl _ _ h2
 first
 |clear qly;rw[oG]at c0 c1 c2;exact ⟨_,_,_,rfl,c0,c1,c2⟩
 |have c3:=h.cells (g:=g) rfl _ _ h3;rw[oG]at c0 c1 c2 c3;exact ⟨_,_,_,_,rfl,c0,c1,c2,c3⟩):G:=h
theorem qeR(h:G:=by
 have ⟨k0,cd⟩:=aj l.length;rw[<-cd]at bW ⊢;have ⟨du,HL,fd,HF⟩:=eD cd hl ih ar;clear cd hl ih ar
 first
 |clear qm3;go_enter Tryz.func164,Tryz.ntmps164;go_wp2;go_loopw [5,10] (fun r i wr=>∃k:Nat,k<=k0/\i=.int .i64 k/\Below w.heap.size w wr/\r=.int .i64 (eM x (l.take k))) (fun _ i _=>k0 - (intOf i).toNat)
  case atStart=>exact ⟨0,aX _,rfl,ai _ _,by simp[eM]⟩
  case round=>
   obtain ⟨k,hk,rfl,aq,rfl⟩:=hrel
   by_cases hlt:k<k0
   ·have bj:=cb du.o hlt;have qym:=();exact qdP
   ·obtain rfl:k=k0:=by omega
    have h1:l.take k=l:=by rw[du.o];exact cK
    rw[h1];have HB:=ab aq;clear h1 aq;go_wp2;go_ret;exact ⟨rfl,HB.o⟩
 |go_enter Tryz.func54,Tryz.ntmps54;go_wp2;go_loopw [5,6] (fun r i wr=>∃k m:Nat,k<=k0/\i=.int .i64 k/\r=.int .i64 m/\Below w.heap.size w wr/\jP l left 0=jP (l.drop k) left m/\m<=100002000000) (fun _ i _=>k0 - (intOf i).toNat)
  case atStart=>exact ⟨0,0,aX _,rfl,rfl,ai _ _,by simp,by omega⟩
  case round=>
   obtain ⟨k,m,hk,rfl,rfl,aq,hcut,DW⟩:=hrel
   by_cases hlt:k<k0
   ·by_cases ro:(m:Int)<=left
    ·have bj:=cb du.o hlt;exact qdP
    ·have JG:decide ((m:Int)<=left)=false:=by simp;omega
     exact qcr
   ·obtain rfl:k=k0:=by omega
    have hd:l.drop k=[]:=by rw[du.o];exact List.drop_length
    rw[hd]at hcut;have he:jP l left 0=m:=hcut;have ⟨HE,HB⟩:=aS he aq;clear he hcut aq hd;exact qk4):G:=h
theorem qjB(h:G:=by
 refine dK rfl rfl jx rfl (fun a γ wz aT=>⟨rfl,.int .i64 (l0:Int),γ,wz,?_,Gr.refl,fun _ _ h=>h,?_⟩)
 first
 |clear qxH
  ·obtain ⟨v88,t88,f88⟩:=aT.val 6 _ 88 rfl rfl (by kernel_rfl);rw[ju]at f88;obtain rfl:=f88;have e88:=aW t88;go_simp
  ·rw[ju];exact rfl
 |·obtain ⟨v90,t90,f90⟩:=aT.val 8 _ 90 rfl rfl (by kernel_rfl);rw[ju]at f90;obtain rfl:=f90;have e90:=aW t90;go_simp
  ·rw[ju];exact rfl):G:=h
theorem qa9(h:G:=by
 simp only[af];refine b_ 5 rfl fun K hK=>?_;go_simp
 first
 |clear qAw;refine aH.2 ((HFT.o a[k1] (zbS.o _ (ap dy)) _ W2.drew u ((cz.o.tr cv.o).tr (ai _ _).drew) (HU.o.later (cv.o.drew))).mono ?_);rintro _ A ⟨⟨p,rfl,hp⟩,hA⟩;have qAx:=();exact qan
 |clear qAy;refine aH.2 ((fd.o ss[k] (ap dy) c L _ W2.drew vL u (HL.o.2.2.2.tr ((cz.o.tr cv.o).tr (ai _ _).drew)) (HL.o.1.later ((cz.o.tr cv.o).tr (ai _ _).drew)) (by have:=fO (ap dy);have:=HL.o.2.1;simp only[nodesF]at this;omega) HL.o.2.2.1 (HU.o.later (cv.o.drew))).mono ?_);rintro _ A ⟨⟨p,rfl,hp⟩,hA⟩;have qAz:=();exact qan
 |clear qya;refine aH.2 ((fK x W2.drew z_).mono ?_);exact qkV
 |clear qyd;refine aH.2 ((h_ m _).mono ?_);rintro _ A1 ⟨rfl,qi⟩;have bZ:Below W2.heap.size W2 A1:=((ai W2.heap.size W2).drew).trans qi;have qAA:=();exact qar
 |refine aH.2 ((fd.o W0 s[k] nx z (u_.o.mem (ap dy)) (HS4.o _ (ap dy)).1 (HS4.o _ (ap dy)).2.1 (HS4.o _ (ap dy)).2.2.1 (HS4.o _ (ap dy)).2.2.2 Ns.o RD.o.1 RD.o.2 _ _ W2.drew u ⟨zv,zn,za,zl,zc⟩ (RE.o.next ((cz.o.tr cv.o).tr ((ai _ _).drew))) (HU.o.later (cv.o.drew)) (((HZ.o.later cz.o).later cv.o).later ((ai _ _).drew))).mono ?_);rintro _ A ⟨⟨p,rfl,hp⟩,hA⟩;exact qan):G:=h
theorem qjJ(h:G:=by
 rw[<-cQ]at x6 k6 ⊢;clear cQ;have g0:W6.cell? ⟨w.heap.size+1+1,0,none⟩=some (.int .u8 qo):=ag x6 0
 first
 |clear qxM;have g1:W6.cell? ⟨w.heap.size+1+1,1,none⟩=some (.string ⟨n.toArray⟩):=ag x6 1
  first
  |clear qz8;exact qjN
  |have g2:W6.cell? ⟨w.heap.size+1+1,2,none⟩=some (.slice gy k1 gz):=ag x6 2;have g3:W6.cell? ⟨w.heap.size+1+1,3,none⟩=some (.slice ra k rc):=ag x6 3;have hz:=zg.o;have h6:FormV (w.heap.size<=·) W6 (FQ.val ⟨qo,⟨n.toArray⟩,gy,k1,gz,ra,k,rc⟩) (.mk qo n (a.map (lG nx z)) (s.map (fI kk nx z))):=RowF.form (QT.o.kp1 k6 (by omega)) (HR.o.kp1 k6 (by have:=z9.o;omega)) dY.o.size (by have:=z9.o;have:=dY.o.size;omega);refine bK (v:=FQ.val ⟨qo,⟨n.toArray⟩,gy,k1,gz,ra,k,rc⟩) (by simp[FQ.val,results,Tryz.results101,go_sem,g0,g1,g2,g3]) rfl (⟨⟨⟨qo,⟨n.toArray⟩,gy,k1,gz,ra,k,rc⟩,rfl,ym.o ▸ h6⟩,Below.kp1 cz.o k6 (by omega)⟩)
 |have g1:W6.cell? ⟨w.heap.size+1+1,1,none⟩=some (.string ⟨m.toArray⟩):=ag x6 1;have qxX:=();exact qjN):G:=h
theorem qhT(h:G:=by
 have NE:=ab (show R=cJ (ps ++ [(xn,yn)]).reverse xs ys by rw[ht,gT (by rw[du.o];exact aC _)];simp[cf])
 first
 |clear qt6;have qp2:=();exact qaV
 |exact qaV):G:=h
theorem qj5(h:G:=by
 have h1:=ih u (gp ..) (ma u (gp ..));have h3:=Q8 (fun t ht=>ih t (fL _ ht)) (fun t ht=>ma t (fL _ ht))
 first
 |clear qyv;simp only[ew,nodesTs];omega
 |simp only[dX,nodesTs,cU];omega):G:=h
theorem qk5(h:G:=by
 have h1:x∈l.map (·.1):=by
  by_cases h:x∈l.map (·.1)
  ·exact h
  ·rw[(iy l x).2 h]at hg;cases hg
 first
 |clear qAB;exact ⟨fun _=>((hx x).2 a hg).1,fun _=>h1⟩
 |exact ⟨fun _=>h1,fun _=>((hx x).2 a hg).1⟩):G:=h
theorem qiq(h:G:=by
 have hE:=HE.o;rw[<-hf]at hE;have ro:=H2.o.2.2.fs.lt;have wm:=bx oy JD GC;clear oy hf
 by_cases ja:so=15
 first
 |clear quW
  ·subst ja;rw[aw rfl]at hE;have ⟨m,hm⟩:=aj (nodesF f);rw[<-hm]at hE;have sg:=ab hE;have qtC:=();exact qag
  rw[ak ja]at hE;have L4:(so == 15)=false:=by simp[ja]
  by_cases h16:so=16
  ·subst h16;rw[aw rfl]at hE;exact qhL
  have qz2:=();exact qkT
 |·subst ja;rw[aw rfl]at hE;have qzs:=();exact qkx
  rw[ak ja]at hE;have L4:(so == 15)=false:=by simp[ja]
  by_cases h16:so=16
  ·subst h16;rw[aw rfl]at hE;exact qhM
  exact qkT):G:=h
theorem qk6(h:G:=by
 rintro _ A ⟨rfl,hA⟩;have eG:=ab (bZ.tr hA);clear hA hb1 bZ;exact qa1):G:=h
theorem qjG(h:G:=by
 rintro lR pre vs x W hl xj ⟨k',zB,v_,h1,h2,h3,h4,h5,h6,h7,h8⟩ ⟨q,ps,rfl,NY,hpl,uQ,Es,iG⟩ Ii dq
 first
 |clear qxK;have qqn:=();exact qaW
 |exact qaW):G:=h
theorem qk7(h:G:=by
 simp only[af];refine bw 2 5 (.pointer (some ⟨w.heap.size,1,none⟩)) rfl fB fun gq=>?_;simp only[af]
 first
 |clear qAC;refine c_ 3 6 (.string ⟨n.toArray⟩) rfl (fun V hX=>by obtain ⟨g0,g1,g2,g3⟩:=f0 V hX;go_simp) gq fun ir=>?_
  have qAD:=();exact qk8
 |refine c_ 3 6 (.string ⟨n.toArray⟩) rfl (fun V hX=>by obtain ⟨g0,g1,g2⟩:=f0 V hX;go_simp) gq fun ir=>?_
  exact qk8):G:=h
theorem qk8(h:G:=by
 simp only[af];refine bw 4 7 (.pointer (some ⟨w.heap.size,2,none⟩)) rfl ir fun jj=>?_;simp only[af]
 first
 |clear qAD;refine c_ 5 8 (.slice qa k0 qc) rfl (fun V hX=>by obtain ⟨g0,g1,g2,g3⟩:=f0 V hX;go_simp) jj fun jz=>?_
  simp only[af];refine bw 7 10 (.pointer (some ⟨w.heap.size,3,none⟩)) rfl jz fun lM=>?_;simp only[af];refine c_ 8 11 (.slice qb m0 qe) rfl (fun V hX=>by obtain ⟨g0,g1,g2,g3⟩:=f0 V hX;go_simp) lM fun qh=>?_;have qzO:=();exact qkL
 |refine c_ 5 8 (.slice qa k0 qc) rfl (fun V hX=>by obtain ⟨g0,g1,g2⟩:=f0 V hX;go_simp) jj fun jz=>?_
  exact qkL):G:=h
theorem qeo(h:G:=by
 simp only[bL,c9]at h;subst h;exact ⟨SubL.refl _,fun _ _=>by simp[bL]⟩):G:=h
theorem qer(h:G:=by
 simp only[bm,Bool.or_eq_true,ej]at hq;rcases hq with rfl | rfl <;> decide):G:=h
theorem qep(h:G:=by
 simp only[cA,c9]at h;subst h;exact ⟨SubL.refl _,fun _ _=>by simp[cA]⟩):G:=h
theorem qbj(h:G:=by
 have DV:nodesTs a<=400:=by simp only[nodesF]at sf;omega
 first
 |clear qnd;have kz:n.length<=2000000:=by have:=ma.2.1;omega
  obtain ⟨q,_,Rx,sU,_⟩:=d_.formOf (x:=n) kz;have iI:(di (aL [] (formOf k.fs n))).length<=400:=by have h1:=eH (aL [] (formOf k.fs n));have h2:=fp (formOf k.fs n) [];omega
  have sO:∀ x∈di (aL [] (formOf k.fs n)),x.length<=2000000:=fun x hx=>nU _ [] Rx.2 x ((dV x _).1 hx);rw[yt]
  by_cases ja:o=15
  ·rw[aw ja];exact ⟨aN (List.length_filter_le _ _) (by omega),fun x hx=>sO x (List.mem_filter.1 hx).1⟩
  rw[ak ja]
  by_cases h16:o=16
  ·subst h16;rw[aw rfl];obtain ⟨x,y,fC,K1,GZ,aT⟩:=kh hs;rw[aT];have JB:=gh GZ;obtain ⟨q2,_,_,htn,htm,_⟩:=d_.termOf (x:=y) (by omega);simp only;split
   ·exact ⟨aN (List.length_filter_le _ _) (by omega),fun x hx=>sO x (List.mem_filter.1 hx).1⟩
   ·refine ⟨?_,fun z hz=>?_⟩
    ·rw[cU];have h1:=List.length_filter_le (fun z=>z != bI x) ((di (aL [] (formOf k.fs n))).filter ct);have h2:=List.length_filter_le ct (di (aL [] (formOf k.fs n)));have h3:=List.length_filter_le ct (di (aE (termOf k.ts y)));have h4:=eH (aE (termOf k.ts y));have h5:=mZ (termOf k.ts y);omega
    ·rcases List.mem_append.1 hz with h | h
     ·exact sO z (List.mem_filter.1 (List.mem_filter.1 h).1).1
     ·exact aN (m4 _ htm z ((dV z _).1 (List.mem_filter.1 h).1)) (by decide)
  ·rw[ak h16];have dD:nmTs 2000000 a=true:=ef (by omega) a ma.2.2.1;refine ⟨?_,ui (fun x hx=>by obtain ⟨_,_,_,_,h,_⟩:=d_.termOf (x:=x) hx;exact h) a dD⟩;have:=pP (fun x hx=>lr d_ (x:=x) hx) a dD;omega
 |clear qr1;have uO:fitTs a:=⟨by omega,ef (by omega) a ma.2.2.1⟩;have kz:n.length<=2000000:=by have:=ma.2.1;omega
  exact qip
 |clear qAE;have uO:∀ t∈a,fitT t:=fun t ht=>⟨by have:=gW ht;omega,kw (by omega) t (fP.1 ma.2.2.1 t ht)⟩
  have kz:=ma.2.1;have quT:=();exact qip
 |have OS:n1<=400:=by have:=iT a;omega
  have Vs:n2<=2000000:=by rw[i_];exact ar.args.len
  have ⟨HR,HP⟩:=aS rj hp;have HG:=fG UD UC UE _d _e;have HV:=sC hs hf iu GJ hc d_;have HN:=cq eh i_ iI sO;have HB:=fG sL qW DV hl iG;have jt:=ab bY;have H1:=bx hb1 iM x1;have HF:=aA ar ma;clear rj hR hp UD UC UE _d _e hs hf iu GJ lU _f hc d_ eh i_ iI sO sL qW DV hl iG bY hb1 iM ar ma sU Ca sf;simp only[PlQ.val,PlQ.cells];go_enter Tryz.func47,Tryz.ntmps47;go_wp2;rw[<-jt.o];go_cut [5,6] from 14 to 17 (fun s5 s6 wx=>∃B5 B6,s5=.pointer (some ⟨B5,0,none⟩)/\s6=.pointer (some ⟨B6,0,none⟩)/\Cmp W W1 B5 B6 #[.int .u8 so,.string ⟨n.toArray⟩,.slice sa n1 sc,.slice sb m1 se] #[.int .u8 fo,.string ⟨n'.toArray⟩,.slice fa n2 fc,.slice fb m2 fe] wx)
  case first=>
   have ⟨c0,c1,c2,c3,c4,c5,c6,c7⟩:=D6 x1;exact qkO
  case rest=>
  obtain ⟨B5,B6,h5,h6,hcm⟩:=hcut;rw[h5,h6];clear h5 h6;have ⟨W3,dF⟩:=aj wc;rw[<-dF]at hcm ⊢;clear dF wc;have aG:Below W.heap.size W W3:=H1.o.1.tr hcm.b;have xp:=bN hcm.b H1.o.2.2;have hlb:=hcm.l;obtain ⟨e0,e1,e2,e3,_,_,_,_⟩:=dc hcm.s;obtain ⟨f0,f1,f2,f3,_,_,_,_⟩:=dc hcm.f;have ⟨P0,P1,P2,P3,P4,P5,P6,P7⟩:=D6 xp;have P8:=ag xp 8;have H3:=cq aG xp hcm hlb;have nL:=ab (HV.o.2.2.2.2.2.later aG);clear aG xp hcm hlb
  by_cases h16:so=16
  ·subst h16;have HE:=ab (show R=(k,0) by rw[HR.o,aw rfl]);go_wp2;go_ret;exact StepPost.good nF nT HE.o (Kp.below (H3.o.1.tr (ai _ _))) (by omega) (by omega) nL.o
  by_cases ja:so=15
  ·subst ja;have ⟨I,hI⟩:=aj (e8 ps.reverse [] (.mk fo n' a' s'));have L3:=HR.o;rw[ak (by decide),aw rfl,<-hI]at L3;have CI:=Fi ⟨⟨15,⟨n.toArray⟩,sa,n1,sc,sb,m1,se⟩,⟨fo,⟨n'.toArray⟩,fa,n2,fc,fb,m2,fe⟩,ca,cl,cc⟩ ps HB.o.2.2.2.1 HB.o.2.2.2.2 (.mk fo n' a' s') HF.o.1 [] [] (by have:=HF.o.1.1;simp;omega) (fun _=>rfl) (.slice none 0 0) (fun b=>¬M b) W3 ⟨fo,⟨n'.toArray⟩,fa,n2,fc,fb,m2,fe⟩ (HV.o.2.2.2.2.1.1.later H3.o.1) (Fw _) (HV.o.2.1.later H3.o.1);rw[<-hI]at CI;simp only[PlQ.val,PlQ.cells,FQ.val]at CI;have HC:=ab CI
   cases I with
   | none=>
    have HE:=ab (show R=(k,70) from L3);clear CI L3 hI;have qxu:=();exact qjp
   | some im=>
    have him:goodF im:=Jq HP.o hI.symm;have X7:=ab him;clear CI hI him;go_wp2_with (go_at_call 91;refine HC.o.mono ?_;rintro e w4 ⟨⟨⟨p0,p1,p2,p3,p4,p5,p6,p7⟩,rfl,hp⟩,aR⟩;have H4:=aA (hp _ rfl) aR;clear hp aR;simp only[Option.isSome]);have qzD:=();exact qjq
  have ⟨G,hG⟩:=aj (so != fo || (n1 != n2 || (m1 != m2 || (n != n' && !bm so))));have hRg:=HR.o;rw[ak h16,ak ja,<-hG]at hRg;have ⟨HRg,HGb⟩:=aS hRg hG;have iY:(so == 16)=false:=by simp[h16]
  have L4:(so == 15)=false:=by simp[ja]
  clear hRg hG;go_upto_region 15 with fail;clear iY L4;go_cut [89] from 55 to 89 (fun s89 wx=>s89=.bool G/\Below W3.heap.size W3 wx)
  case first=>
   by_cases g1:so=fo
   ·subst g1;have a1:(so == so)=true:=by simp
    by_cases g2:n1=n2
    ·subst g2
     by_cases g3:m1=m2
     ·subst g3
      by_cases g4:n=n'
      ·subst g4;have a4:(n == n)=true:=by simp
       go_wp2_with fail;go_meet;exact ⟨by rw[HGb.o];simp,ai _ _⟩
      ·have a4:(n == n')=false:=by simp[g4]
       have a5:(n != n')=true:=by simp[g4]
       have ⟨qb,KY⟩:=aj (bm so);have HQ:=ab (fun (V:World)=>fk ⟨so,⟨n.toArray⟩,sa,n1,sc,sb,m1,se⟩ V);simp only[FQ.val,<-KY]at HQ;have HGq:=ab (show G=!qb by rw[HGb.o,KY];simp[g4]);clear KY;cases qb
       ·go_wp2_with (go_at_call 93;refine (HQ.o _).mono ?_;rintro e w4 ⟨rfl,aR⟩;have H4:=ab aR;clear aR);go_meet;exact ⟨by rw[HGq.o];rfl,H4.o⟩
       ·go_wp2_with (go_at_call 93;refine (HQ.o _).mono ?_;rintro e w4 ⟨rfl,aR⟩;have H4:=ab aR;clear aR);go_meet;exact ⟨by rw[HGq.o];rfl,H4.o⟩
     ·have a3:((m1:Int) != (m2:Int))=true:=by simp;omega
      have a3b:((m1:Int) == (m2:Int))=false:=by simp;omega
      have a3c:¬((m1:Int)=(m2:Int)):=by omega
      go_wp2_with fail;go_meet;exact ⟨by rw[HGb.o];simp[g3],ai _ _⟩
    ·have a3:((n1:Int) != (n2:Int))=true:=by simp;omega
     have a3b:((n1:Int) == (n2:Int))=false:=by simp;omega
     have a3c:¬((n1:Int)=(n2:Int)):=by omega
     go_wp2_with fail;go_meet;exact ⟨by rw[HGb.o];simp[g2],ai _ _⟩
   ·have a1:(so == fo)=false:=by simp[g1]
    have a2:(so != fo)=true:=by simp[g1]
    go_wp2_with fail;go_meet;exact ⟨by rw[HGb.o];simp[g1],ai _ _⟩
  case rest=>
  obtain ⟨h89,aR⟩:=hcut;rw[h89];clear h89;have ⟨W4,y_⟩:=aj wc;rw[<-y_]at aR ⊢;clear y_ wc
  cases G with
  | true=>
   have HE:=ab (show R=(k,70) by rw[HRg.o];rfl);have eG:=ab (H3.o.1.tr aR);clear aR;go_wp2;go_ret;exact StepPost.bad HE.o (by decide) (Kp.below eG.o)
  | false=>
   have hgg:=HGb.o.symm;simp only[Bool.or_eq_false_iff,bne_eq_false_iff_eq]at hgg;obtain ⟨g1,g2,g3,_⟩:=hgg;subst g1 g2 g3;have zbs:=H3.o.1.tr aR;have xp4:=bN aR H3.o.2.1;have x54:=bN aR H3.o.2.2.1.s;have x64:=bN aR H3.o.2.2.1.f;have q2:=ag x54 2;have hsz:W.heap.size<W4.heap.size:=(bA xp4);have H4:=fG zbs hsz xp4 x64 (H3.o.2.2.2.2);have HK4:=ab (nL.o.later aR);have ⟨xU,HVa⟩:=aS HN.o.2.1 HV.o.2.2.2.1;have zdD:∀ {V:World},Kp M W V->PairsN M V (.slice ca cl cc) ps:=fun h=>HV.o.2.2.2.2.1.kp h;have UF:=ab (show ∀ u∈a,fitT u/\jJ 1999999 u=true from fun u hu=>by
    have h1:=fP.1 HF.o.2.2.2.1 u hu;have h2:=gW hu;have:=HB.o.2.2.1;exact ⟨⟨by omega,kw (by omega) u h1⟩,kw (by omega) u h1⟩)
   have _g:=HRg.o;simp only[bO,↓reduceIte]at _g;have HRg:=ab _g;clear aR zbs xp4 x54 x64 hsz e0 e1 e2 e3 f0 f1 f2 f3 P0 P1 P2 P3 P4 P5 P6 P7 P8;go_wp2_with fail;clear _g;go_loopw [93] (fun i wr=>∃(j Ey:Nat) (kj:List (Str×Tm)),j<=n1/\i=.int .i64 j/\Kp (fun b=>b=mT) W4 wr/\Ey<=nT+nodesTs (a.take j)/\KnV (fun b=>¬M b) goodF goodT wr kb mF mT nF Ey ⟨k.fs,kj⟩/\cA ps.reverse k.ts a a'=cA ps.reverse kj (a.drop j) (a'.drop j)) (fun i _=>n1 - (intOf i).toNat)
   case atStart=>exact ⟨0,nT,k.ts,aX _,rfl,Kp.refl _,by omega,HK4.o,by simp⟩
   case round=>
    obtain ⟨j,Ey,kj,hj,rfl,bi,pK,d_,ik⟩:=hrel;have hMm:∀ b,b=mT->M b:=fun b e=>e ▸ HG.o.2.1;have hkN:Kp (N2 mF mT) W wr:=(Kp.below H4.o.1).trans (bi.mono (fun b _ h=>.inr h));have L5:Kp M W wr:=hkN.two HG.o.1 HG.o.2.1;have zfu:mT<W.heap.size:=HG.o.2.2.2.2 mT HG.o.2.1
    by_cases hlt:j<n1
    ·have gZ:=cb HN.o.1 hlt;have AU:=cb xU.o hlt;exact qfJ
    ·obtain rfl:j=n1:=by omega
     have HE:=ab (show R=({ k with ts:=kj },0) by
      rw[HRg.o,ik,gT (by rw[<-HN.o.1];exact aC _)];simp[cA])
     have ce:a.take j=a:=by rw[HN.o.1];exact cK
     rw[ce]at pK;have HK:=bx hkN pK d_;clear bi pK d_ ik ce L5 hkN;go_wp2;go_ret;exact StepPost.good nF Ey HE.o HK.o.1 (by omega) (by have:=HK.o.2.1;have:=HB.o.2.2.1;omega) HK.o.2.2):G:=h
theorem qbt(h:G:=by
 refine eK hK ?_;clear hK K;refine b_ 9 rfl fun K hK=>?_
 first
 |clear qpI;have qcD:=();exact qaa
 |clear qpO;have qcE:=();exact qaa
 |clear qzc;have qqQ:=();exact qaa
 |have qqR:=();exact qaa):G:=h
theorem qgu(h:G:=by
 rw[<-cQ]at x6 k6 ⊢;clear cQ;have g0:W6.cell? ⟨w.heap.size+1,0,none⟩=some (.int .u8 qo):=ag x6 0
 first
 |clear qq2;have quG:=();exact qay
 |have quI:=();exact qay):G:=h
theorem qee(h:G:=by
 clear h hp;go_enter Tryz.func123,Tryz.ntmps123
 first
 |clear qlH;exact qdw
 |go_wp2_with (first | (go_at_call 191;refine (CP.o _).mono ?_;rintro e w' ⟨rfl,rfl⟩) | (go_at_call 152;refine (hZ r _ hr).mono ?_;rintro e w' ⟨rfl,hb⟩));go_ret;exact ⟨rfl,hb⟩):G:=h
theorem qkM(h:G:=by
 go_wp2;go_ret;exact ⟨az (tJ (tI s k kt hlt _ HP.o)).symm,E4 HW.o _⟩):G:=h
theorem qkN(h:G:=by
 have HE:=ab (show R=(⟨[],[]⟩,j,2) by rw[HR.o];exact wI NW.o.symm (by rw[ik,cD];rfl));clear ik cD
 first
 |clear qzQ;gi_wp2_with (rw[<-pH.o];gi_at_call 26;refine aH.2 (uP.o.mono ?_);rintro e w6 ⟨rfl,cF⟩;have UK:=bN cF jS.o;obtain ⟨y0,y1,z0,z1⟩:=uz UK;have H6:=aA cF UK;clear cF UK);obtain ⟨W8,kV,x8,k8,g0,g1⟩:=EH H6.o.2 (.slice none 0 0) (.slice none 0 0);rw[<-kV,Exit.noGoto_ret];have uC:Below w.heap.size w W8:=Below.kp1 (H5.o.1.tr H6.o.1) k8 (by omega);exact qcl
 |gi_wp2_with (first | (rw[<-pH.o];gi_at_call 26;refine aH.2 (uP.o.mono ?_);rintro e w6 ⟨rfl,cF⟩;have SN:=bN cF H5.o.2.2;have i4:=ag SN 4;have i5:=ag SN 5;have i6:=ag SN 6;have i7:=ag SN 7;have H6:=ab cF;clear cF SN) | (gi_at_call 39;refine aH.2 ((HCR.o _ H6.o).mono ?_);rintro e w7 ⟨rfl,fW⟩;have _V:=bN (H6.o.tr fW) jS.o;obtain ⟨y0,y1,z0,z1⟩:=uz _V;have H7:=aA (H6.o.tr fW) _V;clear fW _V));obtain ⟨W8,kV,x8,k8,g0,g1⟩:=EH H7.o.2 (.slice none 0 0) (.slice none 0 0);rw[<-kV,Exit.noGoto_ret];have uC:Below w.heap.size w W8:=Below.kp1 (H5.o.1.tr H7.o.1) k8 (by omega);exact qcl):G:=h
theorem qfc(h:G:=by
 have hmp:L.map encStr ++ [.string ⟨n.toArray⟩]=(L ++ [n]).map encStr:=by rw[List.map_append];rfl
 first
 |clear qnH;rw[hmp]at h2;refine ⟨_,w',hr,StrsN.own h2,⟨h3.os,h3.tape,h3.output,h3.size,fun b hb=>h3.block b hb (by simp)⟩,fun b hb=>?_⟩
  obtain rfl:g=b:=by simpa[Value.ownBlock] using hb
  exact h2.lt g rfl
 |rw[hmp]at au;have qD:=StrsN.own au;have xx:(X4.alloc (.cells #[.string ⟨n.toArray⟩] 9)).drew.heap.size<=g/\g<X5.heap.size:=au.lt g rfl;have hzz:(X4.alloc (.cells #[.string ⟨n.toArray⟩] 9)).drew.heap.size=X4.heap.size+1:=by show (X4.alloc _).heap.size=_;simp
  have hgb:X4.heap.size<g/\g<X5.heap.size:=⟨by have:=xx.1;rw[hzz]at this;omega,xx.2⟩;have LH:=ab (And.intro qD (show ∀ b,(Value.slice (some ⟨g,0,none⟩) (l0+1) cap).ownBlock=some b->b≠w.heap.size+1+1+1/\b<X5.heap.size from fun b hb=>by
   obtain rfl:g=b:=by simpa[Value.ownBlock] using hb
   have:=Rq.o.1;have:=dY.o.2;exact ⟨by omega,hgb.2⟩))
  have Rr:=aA (Ja.o.tr xw) (aN Rq.o.1 xw.size);have Rs:=ab (bN xw za4.o);have ZI:=ab (bN xw ZH.o);have Rt:=ab (bN xw za5.o);have ZJ:=ab (bN xw za6.o);have LG:=ab (XO.o.below xw);have za7:Hd (∀ y,(L ++ [n]).contains y=(n :: ins).contains y):=ab (fun y=>by
   have:=LE.o.1 y;rw[ip]at this ⊢;simp only[List.contains_iff_mem,List.mem_append,cG,List.not_mem_nil,or_false]at this ⊢;rw[this];exact or_comm)
  clear au am m7 xw hmp qD xx hgb hzz;refine eK hK ?_;clear hK K;refine b_ 10 rfl fun K hK=>?_;have qqt:=();exact qaa):G:=h
theorem qhM(h:G:=by
 obtain ⟨x,y,fC,K1,GZ,aT⟩:=kh HQ.o.2.2.1;rw[aT]at hE;have ⟨dm,zC⟩:=aj (bI x);rw[<-zC]at aT hE
 first
 |clear qtW;have qAo:=();exact qcQ
 |have JB:=gh GZ;have Ip:=fX (.mk 16 n a ss) (by simp[Fm.a,fC]) (by simp[Fm.a,fC]) (fun t ht=>by
   have h2:=fP.1 HQ.o.2.2.2.2.2.2.1 t (by simpa[Fm.a] using ht);obtain ⟨tv,tn,ta⟩:=t;simp only[jJ,ae,br]at h2;have:=h2.1;simp only;omega) _ W2 ⟨16,⟨n.toArray⟩,sa,n1,sc,sb,m1,se⟩ HQ.o.1
  simp only[FQ.val,aT]at Ip;have Ip:=ab Ip;exact qkx):G:=h
theorem qgB(h:G:=by
 rw[<-cQ]at x6 k6 ⊢;clear cQ;have g0:W6.cell? ⟨w.heap.size+1,0,none⟩=some (.bool true):=ag x6 0
 first
 |clear qq8;have quH:=();exact qay
 |have g1:W6.cell? ⟨w.heap.size+1,1,none⟩=some (.string ⟨r.toArray⟩):=ag x6 1;have qxb:=();exact qbM):G:=h
theorem qhj(h:G:=by
 have eV:=cM aZ;have xb:=bS aZ;rw[<-aZ];clear aZ d0 d1 d2;have gR:=HF.o.later eV (fun r=>r.below eV)
 first
 |clear qsO;exact qag
 |have qtF:=();exact qag):G:=h
theorem qeU(h:G:=by
 obtain rfl:a=[]:=by simpa using hw.1
 simp only[aE,↓reduceIte,ao,List.mem_singleton]at hz;subst hz
 first
 |clear qng;simp only[↓reduceIte]at h;split at h
  ·rename_i hc;exact .inl hc
  ·obtain ⟨y,hy,_⟩:=Option.map_eq_some_iff.1 h;exact .inr (by rw[hy];rfl)
 |simpa[fY] using h):G:=h
theorem qf9(h:G:=by
 obtain ⟨Ef,Eg⟩:=HSo.o p rfl;have ⟨p0,lA⟩:=aj p.length;have oQ:0<p0:=by rw[lA];exact jp.2 Ef
 first
 |clear qp7;have zaZ:p0<=2000000:=by rw[lA];exact Eg
  have Rd:(0:Int)<(p0:Int):=by omega
  have ⟨Aa,ZA⟩:=aS lA Ef;clear lA Ef Eg HSo;go_wp2_with (first | (go_at_call 229;refine HC.o.mono ?_;rintro e w2 ⟨⟨v2,rfl,jW⟩,bG⟩;obtain ⟨a2,c2,rfl⟩:=jW.slice;simp only[Option.getD]at jW ⊢;obtain ⟨b2,off2,rfl,E5⟩:=jW.get ZA.o;have HO:=ab jW.olds;have eG:=ab (HB.o.trans (bG.mono HB.o.size));rw[<-Aa.o];clear bG jW E5) | (at_builtin;refine wpList_append_lies _ rfl _ _ 218 rfl 0 3 i0 (.int .i64 0) 1 8 Tryz.underlying218 hi ow iM gY rfl (by decide) _ 1 [.int .i64 (k:Int)] rfl (Zx 0 (aX _) (ah rfl)) ⟨b2,off2,none⟩ p0 c2 (tY p) rfl (by rw[Aa.o];simp[tY]) (fun j u h=>aa cI (HO.o j u h)) (by simp[tY,Value.oneCell']) oQ (by unfold maxLen;omega) (by omega) (aX _) (w2.heap.size+1) (by simp) ?_;intro g eF w4 aO am hg eA;have HG:=aA aO am;clear aO am hg eA));go_ret;refine ⟨⟨_,rfl,?_⟩,?_⟩
  ·rw[HT.o];exact IntsV.own (l:=k :: p) HG.o.1
  ·have aR:Below w2.heap.size w2 w4:=by
    have hg:=HG.o.2;have hs:=hg.size;exact ⟨hg.os,hg.tape,hg.output,by simp at hs;omega,fun b hb=>(hg.block b (by simp;omega) (fun h=>by injection h with h;simp at h;omega)).trans (bH _ _ _ hb)⟩
   exact eG.o.trans (aR.mono eG.o.size)
 |have Rd:(0:Int)<(p0:Int):=by omega
  have Aa:=ab lA;clear lA Ef Eg HSo;go_wp2_with (rw[<-fj.o];go_at_call 229;refine HC.o.mono ?_;rintro e w2 ⟨⟨v2,rfl,jW⟩,bG⟩;obtain ⟨a2,c2,rfl⟩:=jW.slice;simp only[Option.getD]at jW ⊢;have I8:=ab jW;have bD:=ab (cv.o.trans (bG.mono cv.o.size));rw[<-Aa.o];clear bG jW);have HE:=ab (show R=some ([],p) by rw[HR.o]);refine bK (v:=.tuple #[.slice none 0 0,.slice a2 p0 c2]) (by simp[results,Tryz.results165,go_sem]) rfl ⟨⟨_,_,rfl,?_,?_⟩,bD.o⟩
  ·rw[HE.o];exact IntsV.nil _
  ·rw[HE.o,Aa.o];exact I8.o):G:=h
theorem qeY(h:G:=by
 have e:cw k c (.mk o n a s)=.mk o n (dZ k.ts c a) (el k c s):=by
  simp only[cw,ak ja,ak h16,ak hq]
 first
 |clear qnp;have iN:bm o=false:=by simpa using hq
  rw[e];exact ⟨by simp[gS,i1,yE k2 (c:=c) a hok.2.2.2.1 h1],by simp[qone,iN,i2]⟩
 |rw[e];have ha:=ry (k:=k.ts) (c:=c) a hok.2.2.2.1;refine ⟨?_,?_⟩
  ·simp only[nodesF];omega
  ·simp only[li,ae,br];exact ⟨dD.1,by have:=dD.2.1;omega,ef (by omega) _ (yG (Pr hk eW) a dD.2.2.1),ih.2⟩):G:=h
theorem qgM(h:G:=by
 have ⟨bb,cZ⟩:=aj (d9 sc a && (decide ((nodesTs a:Int)<=left - 1) && decide (bc+1+bE a<=bz+1)))
 first
 |clear qrG;rw[<-cZ]at hb CJ;have HE:=ab hb;clear hf hb Qt tN p9 d4 mt cZ
  cases bb with
  | true=>
   have qst:=();exact qao
  | false=>
   have qsv:=();exact qao
 |rw[<-cZ]at CT hM
  first
  |clear qxa
   cases bb with
   | false=>
    have qie:=();exact qaD
   | true=>
    have qvr:=();exact qbL
  |cases bb with
   | false=>
    exact qaD
   | true=>
    exact qbL):G:=h
theorem qgp(h:G:=by
 rw[<-cQ]at x6 k6 ⊢;clear cQ;have g0:W6.cell? ⟨w.heap.size+1,0,none⟩=some (.bool qv):=ag x6 0
 first
 |clear qqw;have quE:=();exact qay
 |have quB:=();exact qay):G:=h
theorem qj3(h:G:=by
 exact Gc _ _ (hK v en w' (fun h0=>by rw[hd]at h0;cases h0) hG Ot ju)):G:=h
theorem qke(h:G:=by
 go_enter Tryz.func94,Tryz.ntmps94
 first
 |clear qyO;go_wp2_with fail;rw[<-Af.o];have CT:=fT L Fh.o.2.2.1 n okL W3 vL (og.o.later bD.o.1);rw[Fh.o.2.2.2]at CT;have I_:=ab CT;clear CT
  cases hc:ins.contains n with
  | true=>
   rw[hc]at I_ BE;have HE:=ab (show R=some (aP n) by rw[BE.o];rfl);have HV:=ab (h_ n W3);clear hc p0;refine I_.o.mono ?_;rintro e w4 ⟨rfl,rfl⟩;go_wp2_with (go_at_call 131;refine HV.o.mono ?_;rintro e w5 ⟨rfl,bh⟩;have x5:=(bh.block _ (by have:=bD.o.2;omega)).trans jS.o;obtain ⟨e0,e1,e2,z0,z1,z2⟩:=fV x5;have H5:=aA bh x5;clear bh x5);obtain ⟨W6,cQ,x6,k6,g0,g1,g2⟩:=sJ H5.o.2 (.bool true) (.string ⟨n.toArray⟩) (.slice none 0 0);rw[<-cQ];refine bK (v:=.tuple #[TQ.val ⟨true,⟨n.toArray⟩,none,0,0⟩,.bool true]) (by simp[TQ.val,results,Tryz.results94,go_sem,g0,g1,g2]) rfl ⟨⟨⟨true,⟨n.toArray⟩,none,0,0⟩,by rw[HE.o];rfl,fun u hu=>?_⟩,Below.kp1 (bD.o.1.tr H5.o.1) k6 (by omega)⟩;rw[HE.o]at hu;cases hu;exact aM.2 ⟨_,rfl,cm⟩
  | false=>
   rw[hc]at I_ BE;have rj:R=(dv ps.reverse n).map aP:=by rw[BE.o];rfl
   have CN:=Eh ⟨⟨so,sn,sa,sl,sc,sb,sm,se⟩,⟨fo,fn,fa,fl,fc,fb,fm,fe⟩,ca,cl,cc⟩ ps Fh.o.1 Fh.o.2.1 n W3 (LC.o.later bD.o.1);simp only[PlQ.cells,PlQ.val]at CN;have ⟨nm,dD⟩:=aj ((dv ps.reverse n).getD []);have ⟨bb,cZ⟩:=aj (dv ps.reverse n).isSome;rw[<-dD,<-cZ]at CN;have hE:R.isSome=bb/\∀ u,R=some u->u=aP nm:=by
    rw[rj,dD,cZ]
    cases dv ps.reverse n with
    | none=>exact ⟨rfl,fun u h=>by cases h⟩
    | some y=>exact ⟨rfl,fun u h=>by simp at h;exact h.symm⟩
   have HE:=ab hE;have HV:=ab (fun w=>h_ nm w);have HCN:=ab CN;clear hc rj dD cZ hE CN;refine I_.o.mono ?_;rintro e w4 ⟨rfl,rfl⟩;obtain ⟨p0,p1,p2,p3,p4,p5,p6,p7,p8⟩:=p0;go_wp2_with (first | (go_at_call 161;refine HCN.o.mono ?_;rintro e w5 ⟨rfl,bh⟩;have xr:=ab bh;clear bh) | (go_at_call 131;refine (HV.o _).mono ?_;rintro e w6 ⟨rfl,cF⟩;have lp:=xr.o.tr cF;have x5:=(lp.block _ (by have:=bD.o.2;omega)).trans jS.o;obtain ⟨e0,e1,e2,z0,z1,z2⟩:=fV x5;have H5:=aA lp x5;clear cF lp x5));obtain ⟨W6,cQ,x6,k6,g0,g1,g2⟩:=sJ H5.o.2 (.bool true) (.string ⟨nm.toArray⟩) (.slice none 0 0);rw[<-cQ];refine bK (v:=.tuple #[TQ.val ⟨true,⟨nm.toArray⟩,none,0,0⟩,.bool bb]) (by simp[TQ.val,results,Tryz.results94,go_sem,g0,g1,g2]) rfl ⟨⟨⟨true,⟨nm.toArray⟩,none,0,0⟩,by rw[HE.o.1];rfl,fun u hu=>?_⟩,Below.kp1 (bD.o.1.tr H5.o.1) k6 (by omega)⟩;rw[HE.o.2 u hu];exact aM.2 ⟨_,rfl,cm⟩
 |obtain ⟨p0,p1,p2,p3,p4,p5,p6,p7,p8⟩:=p0;go_wp2;rw[<-Af.o];have ⟨W1,bY⟩:=aj (W3.alloc (.cells #[.bool false,.string ⟨n.toArray⟩,.slice none 0 0] 43));have Ej:=cM bY;have hxr:W1.heap[w.heap.size+1+1+1]?=some (.cells #[.bool false,.string ⟨n.toArray⟩,.slice none 0 0] 43 (0,0)):=by rw[bY];exact ah (by have:=bD.o.2;omega)
  exact qkd):G:=h
theorem qk9(h:G:=by
 rcases hb.2 with h2 | h2
 ·rwa [h2]at h1
 ·exact AL hc d ed.on h1 h2):G:=h
theorem qb6(h:G:=by
 rw[hg]at h;simp only at h;split at h
 ·cases h;exact hk
 first
 |clear qet
  ·cases h
 |·simp at h):G:=h
theorem qc8(h:G:=by
 clear l_ LZ DW;have qs6:=();exact qcy):G:=h
theorem qa0(h:G:=by
 have fd:=ab (fun t ht=>ih t ht (ar.subs.mem ht))
 first
 |clear qrh;have Li:FrJ J pre M W0 mb n bs l W.heap.size [] W1:=⟨by simpa using hJ _ _ _ (Nw.below jf) hj,hk.trans (Kp.below jf),hb.same (jf.block mb hmW),sZ,pw⟩;have hpa:(pre ++ (ao a).filter (fun x=>!bs.contains x)) <+: xs:=by rw[<-hA];exact ke dq
  have hG:=ZP (n:=n) (s:=W.heap.size) hM DW (by omega) hY ar.args hpa;have XR:=fun (wr:World) (h:W1.heap.size<=wr.heap.size)=>FrJ.abides (l:=l) (s:=W.heap.size) (mb:=mb) (n:=n) (bs:=bs) (pre:=pre) (M:=M) (B:=wr.heap.size) hJ (by omega) (by omega) (by omega);have HFT:=ab (fun t ht=>ar.args.mem (t:=t) ht);have xy:Hd (n+2 * NF<4000000/\bs.length+NF<=4000000/\NF=nodesTs a+nodesFs ss+1/\bs'.length<=bs.length+1):=ab ⟨hn,Qw,vO,by rw[hbs];split <;> simp⟩;have ⟨IQ,du,gt,HV,Rg,jt,dY,HS1,Lh,jS⟩:=MY dD cd dQ fC Bw bY jf gG hx0 sZ;have ⟨HX2,DT,ZQ⟩:=cE pw hM DW;have HMW:=aA hmW hWs;have ⟨HJ,HY,nK,HJ1,HG,HFA,HA,il⟩:=US hJ hY dq Li hG XR hA hbs;clear hq Il fC Bw ar ih cd dQ bY jf gG hx0 sZ pw hM DW hmW hWs hJ hY dq Li hG XR hA hbs mI vO hn Qw hj hk hb hMS hpa dD hNF;exact qeF
 |clear qx0;have qyB:=();exact qaN
 |clear qx3;have fQ:=ab eb;rw[vR]at nO ⊢;have ⟨m0,cd⟩:=aj a.length;have ⟨k0,dQ⟩:=aj s.length;have ⟨A,hA⟩:=aj (eM x a);have gt:=ab dQ;unfold FQ.val;rw[<-cd,<-hA]at CT;rw[<-cd,<-dQ,<-hA];rw[<-hA]at nO;rw[<-dQ]at ek;clear hq bB eb ar ih cd dQ hA vR;have HB:=ab (show Below w.heap.size w (w.alloc (.cells #[.int .u8 qo,.string ⟨n.toArray⟩,.slice qa m0 qc,.slice qb k0 qe] 36)) from cI);have qvX:=();exact qiY
 |clear qx4;have RZ:=ab ar.args;have UJ:=ab (fun t ht=>QV t (ar.args.mem ht));have tN:1<=nodesF (.mk on n a s):=AO _;have p9:1<=depthF (.mk on n a s):=by unfold depthF;omega
  have mt:nodesF (.mk on n a s)=nodesTs a+nodesFs s+1:=rfl;have hns:bc+(nodesTs a:Int)+(nodesFs s:Int)+1<=100000000:=by omega
  have qyD:=();exact qaN
 |have fQ:=ab eb;have ⟨m0,cd⟩:=aj a.length;have ⟨k0,dQ⟩:=aj s.length;have ⟨q,iN⟩:=aj (n.length / 40);have gt:=ab dQ;have zaq:=hO n;have htd:=TW n.length;have hcF:Dw (.mk qo n a s) left=eY s left (1+q+R):=by unfold Dw;rw[iN,hR]
  unfold FQ.val;rw[<-cd,<-hR]at CT;rw[<-hR]at hRb;rw[<-cd,<-dQ];rw[<-iN]at htd TZ;rw[TZ]at zcr;rw[<-dQ]at ek;exact qiB):G:=h
theorem qa8(h:G:=by
 obtain ⟨g',E_,rfl⟩:=List.mem_map.1 hg
 first
 |clear qjg;exact (ih g' E_).1
 |clear qwz;exact (ih g' E_).2.1
 |clear qwC;exact pG k g' x u ((jM s).1 hw.2 g' E_) ((jh s).1 hq1.2 g' E_) (by have:=ll s g' E_;omega) (by have:=ln s g' E_;omega) (qT.1 hf.2.2.2 g' E_) hu
 |exact (ih g' E_).2):G:=h
