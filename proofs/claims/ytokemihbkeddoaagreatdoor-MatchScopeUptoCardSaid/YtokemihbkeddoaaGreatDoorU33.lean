/-
'fill' of package match at every schema,and 'Fill'. (Printed by gen_mfilltop.py.)
'Match' of package match.
Contracts of 'SameTerms','Same','SameForms' of package lyceumlaw02.
Facts on the values of operations,and what each kind of operation is asked for,in regions that make terms and formulas,bindings and pairs,and call the functions of package match.
Plain: the examples of the chapter,as terms and formulas,and what is computed at them.
-/
import Derived.Test.YtokemihbkeddoaaGreatDoorU00
import Derived.Test.YtokemihbkeddoaaGreatDoorU32
import Derived.Test.YtokemihbkeddoaaGreatDoorU29
import Derived.Test.YtokemihbkeddoaaGreatDoorU08
import Derived.Test.YtokemihbkeddoaaGreatDoorU07
import Derived.Test.YtokemihbkeddoaaGreatDoorU12
import Derived.Test.YtokemihbkeddoaaGreatDoorU13
import Derived.Test.YtokemihbkeddoaaGreatDoorU01
namespace Go.Proofs.YtokemihbkeddoaaGreatDoor
open Go Go.RowKit Lib
set_option maxRecDepth 100000
set_option maxHeartbeats 64000000
section
attribute [local go_sem] Oper.semAt_some
theorem KT {k:Bd} {s:List Fm} {g:Fm} (h:g∈s):sF k g<=oU k s:=by
 induction s with
 | nil=>cases h
 | cons u l ih=>
  unfold oU
  exact pm260
theorem Ft {k:Bd} {s:List Fm} {g:Fm} (h:g∈s) (hk:jm k s=true):gY k g=true:=by
 induction s with
 | nil=>cases h
 | cons u l ih=>
  simp only[jm,Bool.and_eq_true]at hk
  rcases List.mem_cons.1 h with rfl | h
  ·exact hk.1
  ·exact ih h hk.2
theorem QA {sc:Bool} {s:List Fm} {g:Fm} (h:g∈s) (hk:cX sc s=true):okF sc g=true:=by
 induction s with
 | nil=>cases h
 | cons u l ih=>
  simp only[cX,Bool.and_eq_true]at hk
  rcases List.mem_cons.1 h with rfl | h
  ·exact hk.1
  ·exact ih h hk.2
theorem N0 (W0:World) (lN:Nat->Prop) (kb mF mT nF nT:Nat) (kd:Bd) (dw:KnV lN goodF goodT W0 kb mF mT nF nT kd) (WB:World) (iU:Tabs WB W0) (Bw:bU kd=true) (fB:∀ x∈kd.ts,nodesT x.2<=1000):∀ s:Fm,okF true s=true->gY kd s=true->nodesF s<=400->sF kd s<=1000->Fr W0 kd kb s:=by
 intro s
 induction s using Fm.ind with
 | h o n a ss ih=>
  intro hs hk hn hz
  by_cases lK:o=15
  ·subst lK;exact KR W0 lN kb mF mT nF nT kd dw WB iU n a ss hs hn
  ·by_cases iE:o=16
   ·subst iE;exact Aw W0 lN kb mF mT nF nT kd dw WB iU n a ss hs hn
   ·refine Hx W0 lN kb mF mT nF nT kd dw WB iU Bw fB o n a ss lK iE hs hn hk hz (fun g hg=>?_)
    have h1:=hs
    simp only[okF,Bool.and_eq_true]at h1
    have h2:=(nv lK iE hk).2
    have h3:=iA hg
    have h4:=KT (k:=kd) hg
    simp only[nodesF]at hn
    unfold sF at hz
    exact ih g hg (QA hg h1.2.2.2.2) (Ft hg h2) (by omega) (by omega)
theorem Hy {b:Bd} {s:Fm} (h:oq b s=0):gY b s=true/\sF b s<=400:=by
 unfold oq at h
 split at h
 ·cases h
 ·rename_i h1
  split at h
  ·cases h
  ·split at h
   ·cases h
   ·rename_i h3
    refine ⟨Fc s [] (by simpa using h1),?_⟩
    rw[Bs]at h3
    omega
theorem N1 (WB:World) (s:Fm) (b:Bd) (hf:fitF s) (hb:BdFit b) (ok:Nat->Prop) (w:World) (q:FQ) (r:BQ) (hT:Tabs WB w) (hq:FormV ok w q.val s) (wm:BindV ok w r b) :
  Calls Tryz.prog 32 #[q.val,r.val] w fun e w'=>(∃p:FQ,e=.returned (.tuple #[p.val,.int .i64 (ux s b).2])/\FormV (w.heap.size<=·) w' p.val (ux s b).1)/\Below w.heap.size w w':=by
 obtain ⟨R,hR⟩:=ao (ux s b)
 rw[<-hR]
 obtain ⟨W2,aY⟩:=ao (((w.alloc (.cells #[.int .u8 q.o,.string q.n,.slice q.a q.l q.c,.slice q.b q.m q.e] 36)).alloc (.cells #[.slice r.a r.l r.c,.slice r.b r.m r.e] 26)).alloc (.cells #[.int .u8 0,.string ⟨#[]⟩,.slice none 0 0,.slice none 0 0] 36))
 have bA:=vF aY
 have hO:=F6 aY
 have x0:=wK aY
 have x1:=pR aY
 have x2:=oa aY
 have s7:=ab (y' WB s hf ok W2 (hT.next bA) q (hq.later bA))
 have T':=ab (fun (V:World) (h:Below W2.heap.size W2 V)=>uh WB b hb ok V (hT.next (bA.tr h)) r (wm.later (bA.tr h)))
 obtain ⟨gs,Nu⟩:=ao (fC s)
 obtain ⟨gv,nl⟩:=ao (bU b)
 unfold ux at hR
 rw[<-Nu,<-nl]at hR
 rw[<-Nu]at s7
 rw[<-nl]at T'
 have HB:=eO bA hO x0 x1 x2
 have eN:=ab aY
 have HA:=eO hT hq wm hf hb
 have HG:=aF Nu nl
 have HR:=ab hR
 simp only[FQ.val,BQ.val]at s7 T' ⊢
 obtain ⟨c0,c1,c2,c3,_,_,_,_⟩:=cW x0
 rw[aY]at c0 c1 c2 c3
 clear aY bA hO x0 x1 x2 hT hq wm hf hb Nu nl hR
 have jb:∀ f,Fence.wide.fn f:=fun _=>trivial
 cases gs with
 | false=>
  have pp299:=();exact pm299
 | true=>
  cases gv with
  | false=>
   exact pm299
  | true=>
   have Mh:=HG.o.1.symm
   simp only[fC,Bool.and_eq_true,decide_eq_true_eq]at Mh
   have GM:=ab Mh
   clear Mh
   go_enter Tryz.func32,Tryz.ntmps32
   go_upto_region 3 with (first | (rw[<-eN.o];go_at_call 26;refine s7.o.mono ?_;rintro e w3 ⟨rfl,aJ⟩;have x3:=bC aJ HB.o.2.2.2.1;have j0:=ai x3 0;have j1:=ai x3 1;have H3:=ab aJ;clear aJ x3) | (go_at_call 27;refine (T'.o _ H3.o).mono ?_;rintro e w4 ⟨rfl,aN⟩;have H4:=ab (H3.o.tr aN);clear aN))
   clear c0 c1 c2 c3 j0 j1
   have hkb:=vk b HA.o.2.2.2.2 HG.o.2.symm ok w4 r (HA.o.2.2.1.later (HB.o.1.tr H4.o))
   simp only[BQ.val]at hkb
   have HKB:=ab hkb
   have x4:=bC H4.o HB.o.2.2.2.1
   obtain ⟨j0,j1⟩:=Wl x4
   clear hkb x4
   go_upto_region 4 with (go_at_call 46;refine HKB.o.mono ?_;rintro e w5 ⟨rfl,dw,a_⟩;have H5:=bx (H4.o.tr a_) dw a_;clear dw a_)
   clear j0 j1
   obtain ⟨er,Lr⟩:=ao (oq b s)
   have hck:=KO _ _ _ _ _ _ b s GM.o.1 GM.o.2.1 ok w5 H5.o.2.1 q (HA.o.2.1.later (HB.o.1.tr H5.o.1))
   simp only[FQ.val,<-Lr]at hck
   have VH:=ab hck
   have x5:=bC H5.o.1 HB.o.2.2.1
   obtain ⟨c0,c1,c2,c3,_,_,_,_⟩:=cW x5
   have hR:=HR.o
   rw[<-Lr]at hR
   obtain ⟨HEr,FW⟩:=aS Lr hR
   clear hck Lr hR x5
   by_cases h0:er=0
   ·subst h0
    have MC:=Hy HEr.o.symm
    go_upto_region 7 with (go_at_call 71;refine VH.o.mono ?_;rintro e w6 ⟨rfl,cD⟩;have H6:=ab cD;clear cD)
    clear c0 c1 c2 c3
    have x6:=bC (H5.o.1.tr H6.o) HB.o.2.2.1
    obtain ⟨c0,c1,c2,c3,_,_,_,_⟩:=cW x6
    have uJ:=N0 w6 _ _ _ _ _ _ b (H5.o.2.1.later H6.o) WB (HA.o.1.next (HB.o.1.tr (H5.o.1.tr H6.o))) HG.o.2.symm (fun x hx=>(HA.o.2.2.2.2.ts x hx).2.2) s GM.o.1 MC.1 GM.o.2.1 (by have:=MC.2;omega) [] [] ok w6 (.slice none 0 0) q (Below.refl _ _) (StrsN.nil _) (by have:=GM.o.2.1;simp;omega) (fun _=>rfl) (HA.o.2.1.later (HB.o.1.tr (H5.o.1.tr H6.o)))
    have pw:=yP HG.o.2.symm (fun x hx=>(HA.o.2.2.2.2.ts x hx).2.2) s [] GM.o.1 MC.1 (by have:=MC.2;omega)
    obtain ⟨G,Qz⟩:=ao (cz b [] s)
    simp only[FQ.val,<-Qz]at uJ
    rw[<-Qz]at pw
    have hR:=FW.o
    rw[if_neg (by simp),if_neg (by simp),<-Qz]at hR
    obtain ⟨WN,HRG⟩:=aS uJ hR
    have wk:=ab (show fitF G from ⟨by have:=MC.2;omega,pw.2⟩)
    clear uJ hR pw Qz MC x6
    go_upto_region 8 with (go_at_call 72;refine WN.o.mono ?_;rintro e w7 ⟨⟨⟨p0,p1,p2,p3,p4,p5,p6,p7⟩,rfl,hp⟩,eT⟩;have H7:=aF eT hp;clear eT hp)
    clear c0 c1 c2 c3
    obtain ⟨W8,kH⟩:=ao (w7.alloc (.cells #[.int .u8 p0,.string p1,.slice p2 p3 p4,.slice p5 p6 p7] 36))
    rw[<-kH]
    have f_:=cB kH
    have y8:=bN kH
    obtain ⟨k0,k1,k2,k3,_,_,_,_⟩:=cW y8
    have rf:=HB.o.1.tr ((H5.o.1.tr H6.o).tr (H7.o.1.tr f_))
    have Ls:=kZ WB G wk.o _ W8 (HA.o.1.next rf) ⟨p0,p1,p2,p3,p4,p5,p6,p7⟩ (H7.o.2.later f_)
    simp only[FQ.val]at Ls
    obtain ⟨gr,Qf⟩:=ao (bP G)
    rw[<-Qf]at Ls
    have hR:=HRG.o
    rw[<-Qf]at hR
    obtain ⟨HRt,oW⟩:=aS Ls hR
    have H8:=bx rf y8 (H7.o.2.later f_)
    have R4:W2.heap.size<=w6.heap.size:=(H5.o.1.tr H6.o).size
    have HS8:=ab R4
    have x8:=bC ((H5.o.1.tr H6.o).tr (H7.o.1.tr f_)) HB.o.2.2.2.2
    have HX8:=ab x8
    clear Ls hR Qf f_ y8 rf kH R4 x8
    cases gr with
    | false=>
     have HE:=ab (show R=(i8,3) by rw[oW.o];rfl)
     go_wp2_with (go_at_call 39;refine HRt.o.mono ?_;rintro e w9 ⟨rfl,kG⟩;have x9:=bC kG HX8.o;obtain ⟨i0,i1,i2,i3,z0,z1,z2,z3⟩:=cW x9;have Hw:=ab x9;have H9:=ab kG;clear kG x9)
     have pp206a:=();exact pm206
    | true=>
     have HE:=ab (show R=(G,0) by rw[oW.o];rfl)
     go_wp2_with (go_at_call 39;refine HRt.o.mono ?_;rintro e w9 ⟨rfl,kG⟩;have x9:=bC kG HX8.o;obtain ⟨i0,i1,i2,i3,z0,z1,z2,z3⟩:=cW x9;have y9:=bC kG H8.o.2.1;obtain ⟨m0,m1,m2,m3,_,_,_,_⟩:=cW y9;have Hw:=ab x9;have H9:=aF kG (H8.o.2.2.later kG);clear kG x9 y9)
     have x6:=kf (v0:=.int .u8 p0) (v1:=.string p1) (v2:=.slice p2 p3 p4) (v3:=.slice p5 p6 p7) Hw.o
     have k6:=di (W:=w9) (b:=w.heap.size+1+1) (v0:=.int .u8 p0) (v1:=.string p1) (v2:=.slice p2 p3 p4) (v3:=.slice p5 p6 p7)
     obtain ⟨W6,cM⟩:=ao ((((w9.setCell ⟨w.heap.size+1+1,0,none⟩ (.int .u8 p0)).setCell ⟨w.heap.size+1+1,1,none⟩ (.string p1)).setCell ⟨w.heap.size+1+1,2,none⟩ (.slice p2 p3 p4)).setCell ⟨w.heap.size+1+1,3,none⟩ (.slice p5 p6 p7))
     rw[<-cM]at x6 k6 ⊢
     clear cM
     obtain ⟨g0,g1,g2,g3,_,_,_,_⟩:=cW x6
     refine bodyPost_ret (v:=.tuple #[FQ.val ⟨p0,p1,p2,p3,p4,p5,p6,p7⟩,.int .i64 0]) (by simp[FQ.val,results,Tryz.results32,go_sem,g0,g1,g2,g3]) rfl ⟨⟨⟨p0,p1,p2,p3,p4,p5,p6,p7⟩,(by rw[HE.o];try rfl),?_⟩,Below.kp1 (H8.o.1.tr H9.o.1) k6 (by omega)⟩
     rw[HE.o]
     exact (H9.o.2.move (fun b hb hlt=>⟨by have h:w6.heap.size<=b:=hb;have:=HS8.o;have:=HB.o.1.size;omega,k6.same b hlt (by have h:w6.heap.size<=b:=hb;have:=HS8.o;have:=HB.o.2.1;omega)⟩))
   ·have jt:(er != 0)=true:=by simp[h0]
    have SF:¬er=0:=h0
    have HE:=ab (show R=(i8,er) by rw[FW.o];simp[h0])
    go_wp2_with (go_at_call 71;refine VH.o.mono ?_;rintro e w6 ⟨rfl,cD⟩;have x6:=bC (H5.o.1.tr cD) HB.o.2.2.2.2;obtain ⟨i0,i1,i2,i3,z0,z1,z2,z3⟩:=cW x6;have Hw:=ab x6;have H6:=ab cD;clear cD x6)
    have pp206b:=();exact pm206
theorem KU (W0:World) (s f:Fm) (b:Bd) (hs:fitF s) (hf:fitF f) (hb:BdFit b) (ok J7 ok3:Nat->Prop) (w:World) (p r:FQ) (q:BQ) (ht:Tabs W0 w) (hp:FormV ok w p.val s) (hr:FormV J7 w r.val f) (wm:BindV ok3 w q b) :
  Calls Tryz.prog 20 #[p.val,r.val,q.val] w fun e w'=>(∃x:BQ,e=.returned (.tuple #[x.val,.int .i64 (cJ [(s,f)] b).2.2])/\BindV (w.heap.size<=·) w' x (cJ [(s,f)] b).1)/\Below w.heap.size w w':=by
 obtain ⟨R,hR⟩:=ao (cJ [(s,f)] b)
 rw[<-hR]
 obtain ⟨a0,a1,a2,a3,a4,a5,a6,a7⟩:=p
 obtain ⟨b0,b1,b2,b3,b4,b5,b6,b7⟩:=r
 obtain ⟨qa,ql,qc,qb,qm,qe⟩:=q
 obtain ⟨W4,uy⟩:=ao ((((w.alloc (.cells #[.int .u8 a0,.string a1,.slice a2 a3 a4,.slice a5 a6 a7] 36)).alloc (.cells #[.int .u8 b0,.string b1,.slice b2 b3 b4,.slice b5 b6 b7] 36)).alloc (.cells #[.slice qa ql qc,.slice qb qm qe] 26)).alloc (.cells #[.slice none 0 0,.slice none 0 0] 26))
 have aN:=OZ uy
 have nS:=Sq uy
 have x0:=Lz uy
 have x1:=QY uy
 have x2:=QZ uy
 have x3:=LA uy
 obtain ⟨W5,eo⟩:=ao (W4.alloc (.cells #[.int .u8 a0,.string a1,.slice a2 a3 a4,.slice a5 a6 a7,.int .u8 b0,.string b1,.slice b2 b3 b4,.slice b5 b6 b7] 50))
 have a_:=cB eo
 have x5:=bN eo
 have KV:=aN.tr a_
 have lu:SPairsV (fun _=>True) W5 (.slice (some ⟨W4.heap.size,0,none⟩) [(s,f)].length 1) [(s,f)]:=by
  refine ⟨_,1,fun _=>⟨a0,a1,a2,a3,a4,a5,a6,a7⟩,fun _=>⟨b0,b1,b2,b3,b4,b5,b6,b7⟩,rfl,Nat.le_refl _,.inr ⟨_,0,rfl,trivial,fun j hj=>?_⟩,fun j hj=>?_⟩
  ·obtain rfl:j=0:=by simp at hj;omega
   exact ⟨ai x5 0,ai x5 1,ai x5 2,ai x5 3,ai x5 4,ai x5 5,ai x5 6,ai x5 7⟩
  ·obtain rfl:j=0:=by simp at hj;omega
   exact ⟨(hp.later KV).any,(hr.later KV).any⟩
 have CM:=vp W0 [(s,f)] b (by simp) (fun x hx=>by simp at hx;subst hx;exact ⟨hs,hf⟩) hb _ W5 _ 1 ⟨qa,ql,qc,qb,qm,qe⟩ (ht.next KV) lu (wm.move (tf KV))
 rw[<-hR]at CM
 simp only[BQ.val,List.length_cons,List.length_nil,Nat.zero_add]at CM
 obtain ⟨HC,HW4,qd⟩:=cf CM uy eo
 have x35:=bC a_ x3
 have H5:=ce KV x35 nS a_.size
 obtain ⟨e0,e1,e2,e3,_,_,_,_⟩:=cW x0
 obtain ⟨f0,f1,f2,f3,_,_,_,_⟩:=cW x1
 obtain ⟨g0,g1,_,_⟩:=qY (bC a_ x2)
 rw[eo]at g0 g1
 clear hp hr wm ht hb hs hf aN nS x0 x1 x2 x3 x5 a_ KV lu CM hR uy eo x35
 simp only[FQ.val,BQ.val]
 go_enter Tryz.func20,Tryz.ntmps20
 go_upto_region 1 with fail
 rw[<-HW4.o]
 go_upto_region 2 with (rw[<-qd.o];go_at_call 15;refine HC.o.mono ?_;rintro e w6 ⟨⟨⟨p0,p1,p2,p3,p4,p5⟩,rfl,G5⟩,cD⟩;have H6:=aF cD G5;clear cD G5)
 obtain ⟨W7,I0⟩:=ao (w6.alloc (.cells #[.slice p0 p1 p2,.slice p3 p4 p5] 26))
 rw[<-I0]
 have Uz:=cB I0
 have x7:=bN I0
 have Hr:=H6.o.1.tr Uz
 have x37:=bC Hr H5.o.2.1
 obtain ⟨y0,y1,z0,z1⟩:=qY x37
 obtain ⟨v0,v1,_,_⟩:=qY x7
 have H7:=bx x37 (H5.o.1.tr Hr) (H6.o.2.move (cU Uz))
 have HX:=aF (bl H5.o.2.1) H5.o.1.size
 clear e0 e1 e2 e3 f0 f1 f2 f3 g0 g1 I0 Uz x7 Hr x37
 go_wp2
 obtain ⟨W8,kH,x8,k8,s0,s1⟩:=Au H7.o.1 (.slice p0 p1 p2) (.slice p3 p4 p5)
 rw[<-kH]
 refine bodyPost_ret (v:=.tuple #[BQ.val ⟨p0,p1,p2,p3,p4,p5⟩,.int .i64 R.2.2]) (by simp[BQ.val,results,Tryz.results20,go_sem,s0,s1]) rfl ⟨⟨⟨p0,p1,p2,p3,p4,p5⟩,rfl,H7.o.2.2.move (fun b hb hlt=>⟨Nat.le_trans HX.o.2 hb,k8.same b hlt (by have:=HX.o.1;omega)⟩)⟩,Below.kp1 H7.o.2.1 k8 (by omega)⟩
end
theorem sK {α:Type} {l m:List α} {k:Nat} (h:l.take k=m.take k) (hl:k<l.length) (hm:k<m.length) (he:l[k]=m[k]):l.take (k+1)=m.take (k+1):=by
 rw[List.take_succ_eq_append_getElem hl,List.take_succ_eq_append_getElem hm,h,he]
def Jk (l:List Tm):Prop:=∀ (m:List Tm) (ok ok':Nat->Prop) (w:World) (a:Option Addr) (n c:Nat) (a':Option Addr) (n' c':Nat),fitTs l->TermsV ok w (.slice a n c) l->TermsV ok' w (.slice a' n' c') m →
 Calls Tryz.prog 19 #[.slice a n c,.slice a' n' c'] w fun e w'=>e=.returned (.bool (iy l m))/\Below w.heap.size w w'
theorem Fu (l:List Tm) (ih:∀ t∈l,Jk t.a):Jk l:=by
 have pp274:=();exact pm274
theorem KW:∀ t:Tm,Jk t.a:=by
 intro t
 induction t using Tm.ind with
 | h v n a ih=>exact Fu a ih
theorem qh (l:List Tm):Jk l:=Fu l (fun t _=>KW t)
def R5 (t:Fm):Prop:=∀ (u:Fm) (ok ok':Nat->Prop) (w:World) (p q:FQ),fitF t->FormV ok w p.val t->FormV ok' w q.val u →
 Calls Tryz.prog 17 #[p.val,q.val] w fun e w'=>e=.returned (.bool (vG t u))/\Below w.heap.size w w'
def Y4 (l:List Fm):Prop:=∀ (m:List Fm) (ok ok':Nat->Prop) (w:World) (a:Option Addr) (n c:Nat) (a':Option Addr) (n' c':Nat),fitFs l->FormsV ok w (.slice a n c) l->FormsV ok' w (.slice a' n' c') m →
 Calls Tryz.prog 52 #[.slice a n c,.slice a' n' c'] w fun e w'=>e=.returned (.bool (mm l m))/\Below w.heap.size w w'
theorem N3 (l:List Fm) (ih:∀ t∈l,R5 t):Y4 l:=by
 exact pm274
theorem N4:∀ t:Fm,R5 t:=by
 intro t
 induction t using Fm.ind with
 | h o n a s ih=>
  intro u ok ok' w p q aD hp hq
  obtain ⟨o',n',a',s'⟩:=u
  obtain ⟨po,pn,pa,pl,pc,pb,pm,pe⟩:=p
  obtain ⟨qo,qn,qa,ql,qc,qb,qm,qe⟩:=q
  obtain ⟨sa,ss,hs,bD,dJ⟩:=aQ.1 hp
  obtain ⟨sa',ss',Wf,N5,N6⟩:=aQ.1 hq
  unfold FQ.val at hs Wf
  simp only[Value.agg.injEq,Array.mk.injEq,List.cons.injEq,and_true,Value.int.injEq,true_and,Value.string.injEq]at hs Wf
  obtain ⟨rfl,rfl,rfl,rfl⟩:=hs
  obtain ⟨rfl,rfl,rfl,rfl⟩:=Wf
  have CT:=ab (fun (W:World) (hb:Below w.heap.size w W)=>qh a a' ok ok' W pa pl pc qa ql qc aD.args (bD.later hb) (N5.later hb))
  have CF:=ab (fun (W:World) (hb:Below w.heap.size w W)=>N3 s ih s' ok ok' W pb pm pe qb qm qe aD.subs (dJ.later hb) (N6.later hb))
  clear hp hq bD dJ N5 N6 aD ih
  unfold FQ.val vG
  obtain ⟨T,hT⟩:=ao (iy a a')
  obtain ⟨F,hF⟩:=ao (mm s s')
  rw[<-hT]at CT ⊢
  rw[<-hF]at CF ⊢
  clear hT hF
  have HB:=ab (show Below w.heap.size w ((w.alloc (.cells #[.int .u8 po,.string ⟨n.toArray⟩,.slice pa pl pc,.slice pb pm pe] 36)).alloc (.cells #[.int .u8 qo,.string ⟨n'.toArray⟩,.slice qa ql qc,.slice qb qm qe] 36)) from ct.alloc (by simp) _)
  by_cases ho:po=qo
  ·subst ho
   by_cases hn:n=n'
   ·subst hn
    simp only[beq_self_eq_true,Bool.true_and,Bool.and_self]
    have X0:((w.alloc (.cells #[.int .u8 po,.string ⟨n.toArray⟩,.slice pa pl pc,.slice pb pm pe] 36)).alloc (.cells #[.int .u8 po,.string ⟨n.toArray⟩,.slice qa ql qc,.slice qb qm qe] 36)).heap[w.heap.size]?=some (.cells #[.int .u8 po,.string ⟨n.toArray⟩,.slice pa pl pc,.slice pb pm pe] 36 (0,0)):=(Below.heap_alloc _ _ _ (by simp)).trans (aj rfl)
    have X1:((w.alloc (.cells #[.int .u8 po,.string ⟨n.toArray⟩,.slice pa pl pc,.slice pb pm pe] 36)).alloc (.cells #[.int .u8 po,.string ⟨n.toArray⟩,.slice qa ql qc,.slice qb qm qe] 36)).heap[w.heap.size+1]?=some (.cells #[.int .u8 po,.string ⟨n.toArray⟩,.slice qa ql qc,.slice qb qm qe] 36 (0,0)):=aj (by simp)
    have HX:=aF X0 X1
    clear X0 X1
    cases T with
    | false=>
     have pp251:=();exact pm251
    | true=>
     cases F
     all_goals
      go_enter Tryz.func17,Tryz.ntmps17
      go_wp2_with (first | (go_at_call 19;refine (CT.o _ HB.o).mono ?_;rintro e w1 ⟨rfl,hb1⟩;have p3:w1.cell? ⟨w.heap.size,3,none⟩=some (.slice pb pm pe):=ai (bC hb1 HX.o.1) 3;have q3:w1.cell? ⟨w.heap.size+1,3,none⟩=some (.slice qb qm qe):=ai (bC hb1 HX.o.2) 3;have dG:=ab hb1;clear hb1) | (go_at_call 52;refine (CF.o _ (HB.o.trans (dG.o.mono HB.o.size))).mono ?_;rintro e w2 ⟨rfl,bA⟩;have bZ:=ab bA;clear bA))
      go_ret
      exact ⟨rfl,(HB.o.trans (dG.o.mono HB.o.size)).trans (bZ.o.mono (HB.o.trans (dG.o.mono HB.o.size)).size)⟩
   ·have dT:(n == n')=false:=by simpa using hn
    have e1:((po == po && n == n') && (T && F))=false:=by rw[dT];simp
    rw[e1]
    exact pm251
  ·have WU:(po == qo)=false:=by simpa using ho
   have e1:((po == qo && n == n') && (T && F))=false:=by rw[WU];simp
   rw[e1]
   exact pm251
section
attribute [local go_sem] Oper.semAt_some
structure Fact where
 p:Value->Bx->World->Prop
 st:∀ (v:Value) (γ:Bx) (w:World) (dx:Bx) (w':World),Gr γ w dx w'->p v γ w->p v dx w'
def ie (l:List Fact) (k:Nat):Value->Bx->World->Prop:=(l.getD k ⟨fun _ _ _=>True,fun _ _ _ _ _ _ h=>h⟩).p
theorem sL (l:List Fact) (k:Nat) (v:Value) (γ:Bx) (w:World) (dx:Bx) (w':World):Gr γ w dx w'->ie l k v γ w->ie l k v dx w':=(l.getD k _).st v γ w dx w'
section facts
variable (L:Nat->Prop)
def Jl (s f:Fm) (v:Value) (γ:Bx) (w:World):Prop:=∃q r:FQ,v=.agg #[.int .u8 q.o,.string q.n,.slice q.a q.l q.c,.slice q.b q.m q.e,.int .u8 r.o,.string r.n,.slice r.a r.l r.c,.slice r.b r.m r.e]/\FormV (okB L γ w) w q.val s/\FormV (okB L γ w) w r.val f
def Hz (l:List (Fm×Fm)) (v:Value) (γ:Bx) (w:World):Prop:=∃a c,v=.slice a l.length c/\SPairsV (okB L γ w) w (.slice a l.length c) l
def FBG (n:Str) (f:Fm) (v:Value) (γ:Bx) (w:World):Prop:=∃q:FQ,v=.agg #[.string ⟨n.toArray⟩,.int .u8 q.o,.string q.n,.slice q.a q.l q.c,.slice q.b q.m q.e]/\FormV (okB L γ w) w q.val f
def TBG (n:Str) (t:Tm) (v:Value) (γ:Bx) (w:World):Prop:=∃q:TQ,v=.agg #[.string ⟨n.toArray⟩,.bool q.v,.string q.n,.slice q.a q.l q.c]/\TermV (okB L γ w) w q.val t
def UA (l:List (Str×Fm)) (v:Value) (γ:Bx) (w:World):Prop:=∃a c,v=.slice a l.length c/\FBindsV (okB L γ w) w (.slice a l.length c) l
def UB (l:List (Str×Tm)) (v:Value) (γ:Bx) (w:World):Prop:=∃a c,v=.slice a l.length c/\TBindsV (okB L γ w) w (.slice a l.length c) l
def aE (x:Value):Fact:=⟨fun v _ _=>v=x,fun _ _ _ _ _ _ h=>h⟩
def aH (f:Fm):Fact:=⟨FormG L f,fun _ _ _ _ _ hG=>FormG.step hG⟩
def dV (t:Tm):Fact:=⟨TermG L t,fun _ _ _ _ _ hG=>TermG.step hG⟩
def dL (l:List Fm):Fact:=⟨FormsG L l,fun _ _ _ _ _ hG=>FormsG.step hG⟩
def ix (l:List Tm):Fact:=⟨TermsG L l,fun _ _ _ _ _ hG=>TermsG.step hG⟩
def bi (b:Bd):Fact:=⟨BindG L b,fun _ _ _ _ _ hG=>BindG.step hG⟩
def Bz (s f:Fm):Fact:=⟨Jl L s f,fun _ _ _ _ _ hG ⟨q,r,e,h1,h2⟩=>⟨q,r,e,h1.move hG.holds,h2.move hG.holds⟩⟩
def H' (l:List (Fm×Fm)):Fact:=⟨Hz L l,fun _ _ _ _ _ hG ⟨a,c,e,h⟩=>⟨a,c,e,h.move hG.holds⟩⟩
def fFB (n:Str) (f:Fm):Fact:=⟨FBG L n f,fun _ _ _ _ _ hG ⟨q,e,h⟩=>⟨q,e,h.move hG.holds⟩⟩
def fTB (n:Str) (t:Tm):Fact:=⟨TBG L n t,fun _ _ _ _ _ hG ⟨q,e,h⟩=>⟨q,e,h.move hG.holds⟩⟩
def zbx (l:List (Str×Fm)):Fact:=⟨UA L l,fun _ _ _ _ _ hG ⟨a,c,e,h⟩=>⟨a,c,e,h.move hG.holds⟩⟩
def zby (l:List (Str×Tm)):Fact:=⟨UB L l,fun _ _ _ _ _ hG ⟨a,c,e,h⟩=>⟨a,c,e,h.move hG.holds⟩⟩
def d9 (F:Fact) (r:List Value):Fact:=⟨fun v γ w=>∃u,v=.tuple (u :: r).toArray/\F.p u γ w,fun _ γ w dx w' hG ⟨u,e,h⟩=>⟨u,e,F.st u γ w dx w' hG h⟩⟩
def lO (z:Array Value) (T:TypeId):Fact:=⟨BoxG z T,fun _ _ _ _ _ hG=>BoxG.step hG⟩
def jv (F:Fact) (T:TypeId):Fact:=⟨fun _ γ w=>SetG (fun cs γ w=>F.p (.agg cs) γ w) T γ w,fun _ γ w dx w' hG h=>SetG.step (fun _ h=>F.st _ γ w dx w' hG h) hG h⟩
end facts
section
variable {ops:Array Oper} {Q:Exit->Act->World->Prop} {a0:Act} {l:List Fact} {kA kS k:Nat} {M:Nat->Prop} {w0:World} {md:Region.Mode} {L:Nat->Prop}
abbrev dl (md:Region.Mode) (ops:Array Oper) (Q:Exit->Act->World->Prop) (a0:Act) (l:List Fact) (kA kS:Nat) (M:Nat->Prop) (w0:World) (k:Nat):Prop:=mP (ie l) (PsB kA kS) (IG M w0) Gr Fence.wide 3 Tryz.prog md ops Q a0 k
abbrev VY (md:Region.Mode) (ops:Array Oper) (a0:Act) (l:List Fact) (kA kS:Nat) (M:Nat->Prop) (w0:World) (k:Nat) (o:Oper) (a:Act) (γ:Bx) (w:World):Prop:=DagIn (ie l) (PsB kA kS) (IG M w0) md ops a0 o k a γ w
def Dep (md:Region.Mode) (ops:Array Oper) (a0:Act) (l:List Fact) (kA kS:Nat) (M:Nat->Prop) (w0:World) (k:Nat) (o:Oper) (d:Nat) (p:Value->Bx->World->Prop):Prop:=∀ a γ w,VY md ops a0 l kA kS M w0 k o a γ w->∃v,a.tmps[d]?=some v/\p v γ w
theorem am {o oj:Oper} {d:Nat} {p:Value->Bx->World->Prop} (j:Nat) (hj:ops[j]?=some oj:=by rfl) (hd:oj.dst=some d:=by rfl) (hw:waitB md o j=true:=by kernel_rfl) (hp:ie l j=p:=by rfl):Dep md ops a0 l kA kS M w0 k o d p:=fun _ _ _ h=>hp ▸ h.val j oj d hj hd hw
theorem old {o:Oper} {d:Nat} {v:Value} (hv:a0.tmps[d]?=some v) (hf:freeB ops d=true:=by kernel_rfl):Dep md ops a0 l kA kS M w0 k o d (fun u _ _=>u=v):=fun _ _ _ h=>⟨v,(h.ou d hf).trans hv,rfl⟩
theorem VZ {o oj:Oper} {d:Nat} {v:Value} (j:Nat) (hv:a0.tmps[d]?=some v) (hj:ops[j]?=some oj:=by rfl) (hd:oj.dst=some d:=by rfl) (hw:waitB md oj k=true:=by kernel_rfl):Dep md ops a0 l kA kS M w0 k o d (fun u _ _=>u=v):=fun _ _ _ h=>⟨v,(h.pre j oj d hj hd hw).trans hv,rfl⟩
theorem Dep.is {o:Oper} {d:Nat} {p:Value->Bx->World->Prop} (h:Dep md ops a0 l kA kS M w0 k o d p) {a:Act} {γ:Bx} {w:World} (aW:VY md ops a0 l kA kS M w0 k o a γ w):∃v,a.tmps.getD d undef=v/\p v γ w:=by
 obtain ⟨v,h1,h2⟩:=h a γ w aW
 exact ⟨v,bw h1,h2⟩
def Wt (md:Region.Mode) (ops:Array Oper) (a0:Act) (l:List Fact) (kA kS:Nat) (M:Nat->Prop) (w0:World) (k:Nat) (o:Oper):Prop:=∀ a γ w,VY md ops a0 l kA kS M w0 k o a γ w->Region.wanted o (yielded ops a.tmps)=true
theorem aw {o oj:Oper} {d:Nat} {b:Bool} (j:Nat) (hd:Dep md ops a0 l kA kS M w0 k o d (fun v _ _=>v=.bool b)) (hg:o.guard=some (j,b):=by rfl) (hj:ops[j]?=some oj:=by rfl) (DC:oj.dst=some d:=by rfl):Wt md ops a0 l kA kS M w0 k o:=by
 intro a γ w h
 obtain ⟨v,h1,rfl⟩:=hd a γ w h
 simp[Region.wanted,hg,yielded,hj,DC,h1]
theorem dz {o:Oper} {d:Nat} (hw:Wt md ops a0 l kA kS M w0 k o) (ho:ops[k]?=some o) (hd:o.dst=some d) (f:Nat)
  (h:∀ a γ w,VY md ops a0 l kA kS M w0 k o a γ w->∃args,(execOp a.eval o).run Tryz.prog w=.ok (.enter f args) w/\Calls Tryz.prog f args w fun e w'=>(∃v,e=.returned v/\ie l k v γ w')/\Below w.heap.size w w'):dl md ops Q a0 l kA kS M w0 k:=
 AD ho hd (fun _=>trivial) rfl rfl (fun a γ w aW=>by
  obtain ⟨args,h1,h2⟩:=h a γ w aW
  refine ⟨hw a γ w aW,f,args,h1,callsIn_wide.2 (h2.mono ?_)⟩
  rintro e w' ⟨⟨v,rfl,h3⟩,h4⟩
  exact ⟨v,rfl,γ,Gr.keep h4,fun _ _ h=>h,h3⟩)
theorem eV {o:Oper} {d:Nat} (hw:Wt md ops a0 l kA kS M w0 k o) (ho:ops[k]?=some o) (hd:o.dst=some d)
  (h:∀ a γ w,VY md ops a0 l kA kS M w0 k o a γ w->∃v,(execOp a.eval o).run Tryz.prog w=.ok (.value v) w/\ie l k v γ w):dl md ops Q a0 l kA kS M w0 k:=
 c_ ho hd (fun _=>trivial) rfl (fun a γ w aW=>by
  obtain ⟨v,h1,h2⟩:=h a γ w aW
  exact ⟨hw a γ w aW,v,γ,w,h1,Gr.refl,fun _ _ h=>h,h2⟩)
end
end
def mA:Str:=[63,65]
def mB:Str:=[63,66]
def mT:Str:=[63,116]
def cT (s:Str) (l:List Tm):Tm:=.mk false s l
def dR (s:Str) (l:List Tm):Fm:=.mk 1 s l []
def ec (s:Str):Fm:=.mk 15 s [] []
def Ax (s x t:Str):Fm:=.mk 16 s [ap x,ap t] []
def awP:Fm:=dR [80] []
def awQ:Fm:=dR [81] []
def zm:Fm:=dR [82] []
def UC:Fm:=.mk 6 [] [] [ec mA,ec mB]
def nL:Fm:=.mk 4 [] [] [awP,awQ]
def UD:Fm:=.mk 6 [] [] [nL,zm]
def R6:Fm:=.mk 8 [120] [] [ec mA]
def Y5:Fm:=.mk 9 [122] [] [dR [82] [ap [121],ap [122]]]
def awr:Fm:=.mk 8 [121] [] [Y5]
def Jm:Fm:=Ax mA [120] mT
def jH:Tm:=cT [102] [cT [97] []]
def awG:Fm:=.mk 9 [122] [] [dR [82] [jH,ap [122]]]
def zbz:Fm:=.mk 9 [122] [] [dR [82] [ap [122],ap [122]]]
def km:Fm:=.mk 9 [122] [] [dR [82] [ap [63,120],ap [122]]]
def zbA:Fm:=dR [80] [cT [97] []]
def zbB:Fm:=.mk 8 [120] [] [.mk 5 [] [] [ec mA,ec mB]]
def UE:Fm:=dR [80] [ap [121]]
def Y6:Fm:=.mk 8 [121] [] [.mk 5 [] [] [UE,UE]]
def Y7:Fm:=dR [80] [ap [63,120],ap [120]]
def N7:Bd:=⟨[(mA,Y7)],[(mT,ap [120])]⟩
def UF:Fm:=.mk 9 [120] [] [ec mA]
def wn:Fm:=.mk 9 [120,49] [] [dR [80] [ap [120,49],ap [120]]]
def ws:Fm:=dR [80] [ap [120],ap [120]]
theorem aw1:cJ [(UC,UD)] ⟨[],[]⟩=(⟨[(mA,nL),(mB,zm)],[]⟩,0,0):=by kernel_rfl
theorem aw2:cJ [(R6,awr),(Jm,awG)] ⟨[],[]⟩=(⟨[(mA,km)],[(mT,jH)]⟩,0,0):=by kernel_rfl
theorem aw3:cJ [(R6,awr),(Jm,zbz)] ⟨[],[]⟩=(⟨[],[]⟩,1,70):=by kernel_rfl
theorem aw4:cJ [(Jm,zbA)] ⟨[],[]⟩=(⟨[],[]⟩,0,71):=by kernel_rfl
theorem aw5:cJ [(zbB,Y6),(ec mA,UE)] ⟨[],[]⟩=(⟨[],[]⟩,1,70):=by kernel_rfl
theorem aw6:ux UF N7=(wn,0):=by kernel_rfl
theorem aw7:ux Jm N7=(ws,0):=by kernel_rfl
theorem aw8:ux (ec mA) N7=(i8,72):=by kernel_rfl
theorem aw9:bU N7=true:=by decide +kernel
theorem zbC:vG zm zm=true:=by decide +kernel
theorem zbD:vG km km=true:=by decide +kernel
theorem zbE:iy [jH] [jH]=true:=by decide +kernel
theorem zbF:vG wn wn=true:=by decide +kernel
theorem zbG:vG ws ws=true:=by decide +kernel
end Go.Proofs.YtokemihbkeddoaaGreatDoor
