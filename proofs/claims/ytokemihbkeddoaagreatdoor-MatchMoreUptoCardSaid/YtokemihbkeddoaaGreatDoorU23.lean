/-
The card of 'MatchMore',in the second form.
-/
import Derived.Test.YtokemihbkeddoaaGreatDoorCards
import Derived.Test.YtokemihbkeddoaaGreatDoorTie
import Derived.Test.YtokemihbkeddoaaGreatDoorU20
import Derived.Test.YtokemihbkeddoaaGreatDoorU21
import Derived.Test.YtokemihbkeddoaaGreatDoorU22
namespace Go.Proofs.YtokemihbkeddoaaGreatDoor.matchMore
set_option maxRecDepth 100000
set_option maxHeartbeats 64000000
open Go Go.ChangeShapes Go.WideShapes Go.ChangeAt Go.RowKit Go.ChangeMaps
theorem own:ownKnob Tryz.prog.godebug=none:=by kernel_rfl
theorem contract (H:Type) (enc:TypeId×Value->H) (W:World) (base:Nat) (args:Array Value) (ds gs:List (DataW H)) (before:List MemPlace)
  (xk:∀ (j:Nat) t v,Tryz.f3.params[j]?=some t->args[j]?=some v->Value.okWide Tryz.prog W .any base t v)
  (hW:DataW.Whole enc Tryz.prog Tryz.f3.params.toList Rows.matchMoreSpec.vars false W args.toList ds gs before) (hL:laidMetH Tryz.prog Rows.matchMoreRow.laid W)
  (hk:Rows.uptoBulkAll ds<=1048576) :
  Calls Tryz.prog 3 args W fun e W'=>∃v,e=.returned v/\Rows.matchMoreSpec.post enc Tryz.prog Tryz.f3 false true false false W args v W':=by
 have hW':=hW;obtain ⟨p,q,hA0,hV,gU,hfz,xJ⟩:=hW;have hA:DataW.TrodAll enc Tryz.prog W 0 (fun _=>true) true Tryz.f3.params.toList args.toList ds p:=hA0;rw[Tryz.params3]at hA xk;have hK:=fun W'=>MP (w':=W') [22,50,36,5,9,33,34,43,4,26,23,24,40,47] (by kernel_rfl) (by decide) hA;obtain ⟨rfl,rfl⟩:=trodVars_none hV;obtain ⟨v0,v1,d0,d1,p0,p1,rfl,rfl,rfl,h0,h1⟩:=trodAll_two hA;obtain ⟨l0,sq,sd,eh⟩:=J4 (xk 0 22 v0 rfl rfl) h0;obtain ⟨la0,lc0,rfl⟩:=sq.slice;obtain ⟨q1,b1,rfl,hq1,sN⟩:=MO (xk 1 26 v1 rfl rfl) h1;clear hA0;simp only[Rows.uptoBulkAll]at hk;have hT:Tabs0 W:=BI hL;have qW:fitFs (cz l0):=⟨by omega,eT (by omega) _ eh⟩;obtain ⟨f1,f2,f3⟩:=Qy sN (by omega);refine (E1 W l0 b1 qW f1 f2 (fun _ _=>f3) _ _ W (Tabs.refl hT) la0 lc0 q1 sq hq1).mono fun e W' ⟨he,hb⟩=>?_;subst he;refine ⟨_,rfl,_,_,before,[],_,[],hW',?_,hK W' hb,?_,hb.frame _,fun h=>by cases h⟩
 ·exact trodAll_cons_mk (shut_bool Tryz.underlying4 _) trodAll_mk0
 ·rfl
theorem lifted (os:Os) (E4:os.Started) (H:Type) (enc:TypeId×Value->H) (F:Stop.Interp) :
  ReturnsInHanded {} Tryz.checked os 3 .any ((Rows.OpenSpec.upto Rows.matchMoreSpec).preRow enc Tryz.prog Tryz.f3 Rows.matchMoreUptoRow.domain false Rows.matchMoreUptoRow.laid) (((Rows.OpenSpec.upto Rows.matchMoreSpec).at F).post enc Tryz.prog Tryz.f3 false true false false):=by
 have hx:DataW.whole enc Tryz.prog ((laidWorld os).forCall (fun _ _=>0) ⟨#[],#[.slice none 0 0,.agg #[.slice none 0 0,.slice none 0 0]],[]⟩).memory Tryz.f3.params.toList Rows.matchMoreSpec.vars false #[(.slice none 0 0:Value),.agg #[.slice none 0 0,.slice none 0 0]].toList 8=some ([.nil,.agg [.nil,.nil]],[],[]):=by kernel_rfl
 refine returnsInHanded_of_row (C:=Tryz.checked) (s:=(Rows.OpenSpec.upto Rows.matchMoreSpec)) own E4 (by kernel_rfl) Tryz.func3
  (witness_row_atRef (enc:=enc) (C:=Tryz.checked) false (laidWorld os) #[.slice none 0 0,.agg #[.slice none 0 0,.slice none 0 0]] rfl (by kernel_rfl) (by kernel_rfl) (by kernel_rfl)
    (OpenSpec.preRow_of_cond 8 hx (by kernel_rfl) (fun k hk=>by cases hk;kernel_rfl) (by kernel_rfl) (Qu os _))) ?_
 intro W base args ds gs before xk hW _ zbt _ hL MV _;exact contract H enc W base args ds gs before xk hW hL (ST (zbt _ rfl))
theorem said:Rows.MatchMoreUptoSaid:=
 OpenClaim.holds_of_cond 3 Tryz.f3 rfl rfl rfl rfl rfl rfl rfl ⟨rfl,rfl,rfl,rfl,rfl⟩ rfl rfl rfl rfl rfl (by kernel_rfl) Tryz.func3 J0
  (of_decide_eq_true (by kernel_rfl)) (by unfold Func.isWrapper;first | (rw[aH (by decide +kernel)];kernel_rfl) | (rw[aw (by decide +kernel)];exact ⟨rfl,rfl⟩))
  (fun os E4 H enc _ F=>by rw[OpenClaim.pre_eq_preRow];exact lifted os E4 H enc F)
theorem plain (f:FuncId) (fn:Func) (hf:Tryz.pinned.checked.prog.funcNamed "lyceum/lyceumlaw07.MatchMore"=some f) (rk:Tryz.pinned.checked.prog.funcs[f]?=some fn) :
  false=Tryz.pinned.checked.prog.looks []/\∀ (j:Nat) t,fn.params[j]?=some t->Tryz.pinned.checked.prog.wantsStandIn t=false:=by
 obtain rfl:f=3:=Option.some.inj ((show Tryz.prog.funcNamed "lyceum/lyceumlaw07.MatchMore"=some 3 by kernel_rfl).symm.trans hf) |>.symm
 obtain rfl:fn=Tryz.f3:=(Option.some.inj (Tryz.func3.symm.trans rk)).symm;refine ⟨by kernel_rfl,fun j t ht=>?_⟩;rw[Tryz.params3]at ht;have hm:t=22\/t=26:=by
  have:=Array.mem_of_getElem? ht;simp at this;omega
 rcases hm with rfl | rfl
 ·exact (show Tryz.prog.wantsStandIn 22=false by kernel_rfl)
 ·exact (show Tryz.prog.wantsStandIn 26=false by kernel_rfl)
theorem card:Rows.MatchMoreUptoCardSaid:=
 Claim7.holds_tied_plain_at .later [] _ _ _ _ said (fun _ h=>by cases h) (by kernel_rfl) (fun _ h=>by cases h) matchMoreUpto_row_tie rfl ⟨rfl,rfl⟩ (by kernel_rfl) rfl plain (by kernel_rfl)
end Go.Proofs.YtokemihbkeddoaaGreatDoor.matchMore
