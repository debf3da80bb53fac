/-
The card of 'MatchAlpha',in the second form.
-/
import Derived.Test.YtokemihbkeddoaaGreatDoorCards
import Derived.Test.YtokemihbkeddoaaGreatDoorTie
import Derived.Test.YtokemihbkeddoaaGreatDoorP10
import Derived.Test.YtokemihbkeddoaaGreatDoorP11
import Derived.Test.YtokemihbkeddoaaGreatDoorP12
import Derived.Test.YtokemihbkeddoaaGreatDoorP13
open Go.Proofs.Tryz
namespace Go.Proofs.YtokemihbkeddoaaGreatDoor.matchAlpha
set_option maxRecDepth 100000
set_option maxHeartbeats 0
open Go Go.ChangeShapes Go.WideShapes Go.ChangeAt Go.RowKit Go.ChangeMaps
theorem own:ownKnob prog.godebug=none:=by kernel_rfl
theorem contract(H:Type)(enc:TypeId×Value->H)(W:World)(base:Nat)(args:Array Value)(ds gs:List (DataW H))(before:List MemPlace)
  (ws:∀(j:Nat) t v,Tryz.f10.params[j]?=some t->args[j]?=some v->Value.okWide prog W .any base t v)
  (hW:DataW.Whole enc prog Tryz.f10.params.toList Rows.matchAlphaSpec.vars false W args.toList ds gs before) (hL:laidMetH prog Rows.matchAlphaRow.laid W)
  (hk:Rows.uptoBulkAll ds<=1048576):
  Calls prog 10 args W fun e W'=>∃v,e=.returned v/\Rows.matchAlphaSpec.post enc prog Tryz.f10 false true false false W args v W':=by
 have hW':=hW;obtain⟨p,q,hA0,hV,hps,hfz,hnd⟩:=hW;have hA:DataW.TrodAll enc prog W 0 (fun _=>true) true Tryz.f10.params.toList args.toList ds p:=hA0;rw[Tryz.params10]at hA ws;have hK:=fun W'=>Sw (w':=W') [22,50,36,5,9,33,34,43,4,26,23,24,40,47] (by kernel_rfl) (by decide) hA;obtain⟨rfl,rfl⟩:=trodVars_none hV;obtain⟨v0,v1,d0,d1,p0,p1,rfl,rfl,rfl,h0,h1⟩:=trodAll_two hA;obtain⟨l0,wL,wE,eh⟩:=O_ (ws 0 22 v0 rfl rfl) h0;obtain⟨la0,lc0,rfl⟩:=wL.slice;obtain⟨q1,b1,rfl,hq1,uX⟩:=Sv (ws 1 26 v1 rfl rfl) h1;clear hA0;simp only[Rows.uptoBulkAll]at hk;have hT:KB W:=Gt hL;have pM:jp (cP l0):=⟨by omega,ic (by omega) _ eh⟩;obtain⟨f1,f2,f3⟩:=WF uX (by omega);refine(Sr W l0 b1 pM f1 f2 (fun _ _=>f3) _ _ W (gG.refl hT) la0 lc0 q1 wL hq1).mono fun e W' ⟨he,hb⟩=>?_;subst he;refine⟨_,rfl,_,_,before,[],_,[],hW',?_,hK W' hb,?_,hb.frame _,fun h=>by cases h⟩
 ·exact trodAll_cons_mk (shut_bool underlying4 _) trodAll_mk0
 ·rfl
theorem lifted(os:Os)(J8:os.Started)(H:Type)(enc:TypeId×Value->H)(F:Stop.Interp):
  ReturnsInHanded {} Tryz.checked os 10 .any ((Rows.OpenSpec.upto Rows.matchAlphaSpec).preRow enc prog Tryz.f10 Rows.matchAlphaUptoRow.domain false Rows.matchAlphaUptoRow.laid) (((Rows.OpenSpec.upto Rows.matchAlphaSpec).at F).post enc prog Tryz.f10 false true false false):=by
 have hx:DataW.whole enc prog ((laidWorld os).forCall (fun _ _=>0) ⟨#[],#[.slice none 0 0,.agg #[.slice none 0 0,.slice none 0 0]],[]⟩).memory Tryz.f10.params.toList Rows.matchAlphaSpec.vars false #[(.slice none 0 0:Value),.agg #[.slice none 0 0,.slice none 0 0]].toList 8=some ([.nil,.agg [.nil,.nil]],[],[]):=by kernel_rfl
 refine returnsInHanded_of_row (C:=Tryz.checked) (s:=(Rows.OpenSpec.upto Rows.matchAlphaSpec)) own J8 (by kernel_rfl) func10
  (witness_row_atRef (enc:=enc) (C:=Tryz.checked) false (laidWorld os) #[.slice none 0 0,.agg #[.slice none 0 0,.slice none 0 0]] rfl (by kernel_rfl) (by kernel_rfl) (by kernel_rfl)
    (OpenSpec.preRow_of_cond 8 hx (by kernel_rfl) (fun k hk=>by cases hk;kernel_rfl) (by kernel_rfl) (Wz os _))) ?_
 intro W base args ds gs before ws hW _ zez _ hL FF _;exact contract H enc W base args ds gs before ws hW hL (ZB (zez _ rfl))
theorem said:Rows.MatchAlphaUptoSaid:=
 OpenClaim.holds_of_cond 10 Tryz.f10 rfl rfl rfl rfl rfl rfl rfl ⟨rfl,rfl,rfl,rfl,rfl⟩ rfl rfl rfl rfl rfl (by kernel_rfl) func10 MM
  (of_decide_eq_true (by kernel_rfl)) (by unfold Func.isWrapper;first|(rw[aG (by decide+kernel)];kernel_rfl)|(rw[aw (by decide+kernel)];exact⟨rfl,rfl⟩))
  (fun os J8 H enc _ F=>by rw[OpenClaim.pre_eq_preRow];exact lifted os J8 H enc F)
theorem plain(f:FuncId)(fn:Func)(hf:Tryz.pinned.checked.prog.funcNamed "lyceum/lyceumlaw07.MatchAlpha"=some f)(vD:Tryz.pinned.checked.prog.funcs[f]?=some fn):
  false=Tryz.pinned.checked.prog.looks []/\∀(j:Nat) t,fn.params[j]?=some t->Tryz.pinned.checked.prog.wantsStandIn t=false:=by
 obtain rfl:f=10:=Option.some.inj ((show prog.funcNamed "lyceum/lyceumlaw07.MatchAlpha"=some 10 by kernel_rfl).symm.trans hf) |>.symm
 obtain rfl:fn=Tryz.f10:=(Option.some.inj (func10.symm.trans vD)).symm;refine⟨by kernel_rfl,fun j t ht=>?_⟩;rw[Tryz.params10]at ht;have hm:t=22\/t=26:=by
  have:=Array.mem_of_getElem? ht;simp at this;omega
 rcases hm with rfl|rfl
 ·exact(show prog.wantsStandIn 22=false by kernel_rfl)
 ·exact(show prog.wantsStandIn 26=false by kernel_rfl)
theorem card:Rows.MatchAlphaUptoCardSaid:=
 Claim7.holds_tied_plain_at .later [] _ _ _ _ said (fun _ h=>by cases h) (by kernel_rfl) (fun _ h=>by cases h) matchAlphaUpto_row_tie rfl ⟨rfl,rfl⟩ (by kernel_rfl) rfl plain (by kernel_rfl)
end Go.Proofs.YtokemihbkeddoaaGreatDoor.matchAlpha
