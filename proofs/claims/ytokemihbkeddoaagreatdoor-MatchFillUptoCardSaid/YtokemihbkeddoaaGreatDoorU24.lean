/-
The card of 'MatchFill',in the second form.
-/
import Derived.Test.YtokemihbkeddoaaGreatDoorCards
import Derived.Test.YtokemihbkeddoaaGreatDoorTie
import Derived.Test.YtokemihbkeddoaaGreatDoorU22
import Derived.Test.YtokemihbkeddoaaGreatDoorU23
namespace Go.Proofs.YtokemihbkeddoaaGreatDoor.matchFill
set_option maxRecDepth 100000
set_option maxHeartbeats 64000000
open Go Go.ChangeShapes Go.WideShapes Go.ChangeAt Go.RowKit Go.ChangeMaps
theorem own:ownKnob Tryz.prog.godebug=none:=by kernel_rfl
theorem contract (H:Type) (enc:TypeId×Value->H) (W:World) (base:Nat) (args:Array Value) (ds gs:List (DataW H)) (before:List MemPlace)
  (yT:∀ (j:Nat) t v,Tryz.f7.params[j]?=some t->args[j]?=some v->Value.okWide Tryz.prog W .any base t v)
  (hW:DataW.Whole enc Tryz.prog Tryz.f7.params.toList Rows.matchFillSpec.vars false W args.toList ds gs before) (hL:laidMetH Tryz.prog Rows.matchFillRow.laid W)
  (hk:Rows.uptoBulkAll ds<=1048576) :
  Calls Tryz.prog 7 args W fun e W'=>∃v,e=.returned v/\Rows.matchFillSpec.post enc Tryz.prog Tryz.f7 false true false false W args v W':=by
 have hW':=hW;obtain ⟨p,q,hA0,hV,gX,hfz,zu⟩:=hW;have hA:DataW.TrodAll enc Tryz.prog W 0 (fun _=>true) true Tryz.f7.params.toList args.toList ds p:=hA0;rw[Tryz.params7]at hA yT;have hK:=fun W'=>Of (w':=W') [22,50,36,5,9,33,34,43,4,26,23,24,40,47] (by kernel_rfl) (by decide) hA;obtain ⟨rfl,rfl⟩:=trodVars_none hV;obtain ⟨v0,v1,d0,d1,p0,p1,rfl,rfl,rfl,h0,h1⟩:=trodAll_two hA;obtain ⟨l0,tD,ti,dW⟩:=Lf (yT 0 22 v0 rfl rfl) h0;obtain ⟨la0,lc0,rfl⟩:=tD.slice;obtain ⟨q1,b1,rfl,hq1,rX⟩:=Oe (yT 1 26 v1 rfl rfl) h1;clear hA0;simp only[Rows.uptoBulkAll,Rows.uptoBulk]at hk;have hT:Tabs0 W:=DD hL;have r':fitFs (cE l0):=⟨by omega,fB (by omega) _ dW⟩;obtain ⟨f1,f2,f3⟩:=RP rX (by omega);refine (Gi W l0 b1 r' f1 f2 (fun _ _=>f3) _ _ W (Tabs.refl hT) la0 lc0 q1 tD hq1).mono fun e W' ⟨he,hb⟩=>?_;subst he;refine ⟨_,rfl,_,_,before,[],_,[],hW',?_,hK W' hb,?_,hb.frame _,fun h=>by cases h⟩
 ·exact trodAll_cons_mk (shut_bool Tryz.underlying4 _) trodAll_mk0
 ·rfl
theorem lifted (os:Os) (Gl:os.Started) (H:Type) (enc:TypeId×Value->H) (F:Stop.Interp) :
  ReturnsInHanded {} Tryz.checked os 7 .any ((Rows.OpenSpec.upto Rows.matchFillSpec).preRow enc Tryz.prog Tryz.f7 Rows.matchFillUptoRow.domain false Rows.matchFillUptoRow.laid) (((Rows.OpenSpec.upto Rows.matchFillSpec).at F).post enc Tryz.prog Tryz.f7 false true false false):=by
 have hx:DataW.whole enc Tryz.prog ((laidWorld os).forCall (fun _ _=>0) ⟨#[],#[.slice none 0 0,.agg #[.slice none 0 0,.slice none 0 0]],[]⟩).memory Tryz.f7.params.toList Rows.matchFillSpec.vars false #[(.slice none 0 0:Value),.agg #[.slice none 0 0,.slice none 0 0]].toList 8=some ([.nil,.agg [.nil,.nil]],[],[]):=by kernel_rfl
 refine returnsInHanded_of_row (C:=Tryz.checked) (s:=(Rows.OpenSpec.upto Rows.matchFillSpec)) own Gl (by kernel_rfl) Tryz.func7
  (witness_row_atRef (enc:=enc) (C:=Tryz.checked) false (laidWorld os) #[.slice none 0 0,.agg #[.slice none 0 0,.slice none 0 0]] rfl (by kernel_rfl) (by kernel_rfl) (by kernel_rfl)
    (OpenSpec.preRow_of_cond 8 hx (by kernel_rfl) (fun k hk=>by cases hk;kernel_rfl) (by kernel_rfl) (RL os _))) ?_
 intro W base args ds gs before yT hW _ zbU _ hL Om _;exact contract H enc W base args ds gs before yT hW hL (T_ (zbU _ rfl))
theorem said:Rows.MatchFillUptoSaid:=
 OpenClaim.holds_of_cond 7 Tryz.f7 rfl rfl rfl rfl rfl rfl rfl ⟨rfl,rfl,rfl,rfl,rfl⟩ rfl rfl rfl rfl rfl (by kernel_rfl) Tryz.func7 Lb
  (of_decide_eq_true (by kernel_rfl)) (by unfold Func.isWrapper;first | (rw[au (by decide +kernel)];kernel_rfl) | (rw[ak (by decide +kernel)];exact ⟨rfl,rfl⟩))
  (fun os Gl H enc _ F=>by rw[OpenClaim.pre_eq_preRow];exact lifted os Gl H enc F)
theorem plain (f:FuncId) (fn:Func) (hf:Tryz.pinned.checked.prog.funcNamed "lyceum/lyceumlaw07.MatchFill"=some f) (su:Tryz.pinned.checked.prog.funcs[f]?=some fn) :
  false=Tryz.pinned.checked.prog.looks []/\∀ (j:Nat) t,fn.params[j]?=some t->Tryz.pinned.checked.prog.wantsStandIn t=false:=by
 obtain rfl:f=7:=Option.some.inj ((show Tryz.prog.funcNamed "lyceum/lyceumlaw07.MatchFill"=some 7 by kernel_rfl).symm.trans hf) |>.symm
 obtain rfl:fn=Tryz.f7:=(Option.some.inj (Tryz.func7.symm.trans su)).symm;refine ⟨by kernel_rfl,fun j t ht=>?_⟩;rw[Tryz.params7]at ht;have hm:t=22\/t=26:=by
  have:=Array.mem_of_getElem? ht;simp at this;omega
 rcases hm with rfl | rfl
 ·exact (show Tryz.prog.wantsStandIn 22=false by kernel_rfl)
 ·exact (show Tryz.prog.wantsStandIn 26=false by kernel_rfl)
theorem card:Rows.MatchFillUptoCardSaid:=
 Claim7.holds_tied_plain_at .later [] _ _ _ _ said (fun _ h=>by cases h) (by kernel_rfl) (fun _ h=>by cases h) matchFillUpto_row_tie rfl ⟨rfl,rfl⟩ (by kernel_rfl) rfl plain (by kernel_rfl)
end Go.Proofs.YtokemihbkeddoaaGreatDoor.matchFill
