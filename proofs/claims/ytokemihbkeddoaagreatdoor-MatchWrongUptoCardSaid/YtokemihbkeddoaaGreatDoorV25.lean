/-
The card of 'MatchWrong',in the second form.
-/
import Derived.Test.YtokemihbkeddoaaGreatDoorCards
import Derived.Test.YtokemihbkeddoaaGreatDoorTie
import Derived.Test.YtokemihbkeddoaaGreatDoorV21
import Derived.Test.YtokemihbkeddoaaGreatDoorV22
import Derived.Test.YtokemihbkeddoaaGreatDoorV23
import Derived.Test.YtokemihbkeddoaaGreatDoorV24
namespace Go.Proofs.YtokemihbkeddoaaGreatDoor.matchWrong
set_option maxRecDepth 100000
set_option maxHeartbeats 64000000
open Go Go.ChangeShapes Go.WideShapes Go.ChangeAt Go.RowKit Go.ChangeMaps
theorem own:ownKnob Tryz.prog.godebug=none:=by kernel_rfl
theorem contract (H:Type) (enc:TypeId×Value->H) (W:World) (base:Nat) (args:Array Value) (ds gs:List (DataW H)) (before:List MemPlace)
  (mn:∀ (j:Nat) t v,Tryz.f5.params[j]?=some t->args[j]?=some v->Value.okWide Tryz.prog W .any base t v)
  (hW:DataW.Whole enc Tryz.prog Tryz.f5.params.toList Rows.matchWrongSpec.vars false W args.toList ds gs before) (hL:laidMetH Tryz.prog Rows.matchWrongRow.laid W)
  (hk:Rows.uptoBulkAll ds<=1048576) :
  Calls Tryz.prog 5 args W fun e W'=>∃v,e=.returned v/\Rows.matchWrongSpec.post enc Tryz.prog Tryz.f5 false true false false W args v W':=by
 have hW':=hW;obtain ⟨p,q,hA0,hV,iF,hfz,Bm⟩:=hW;have hA:DataW.TrodAll enc Tryz.prog W 0 (fun _=>true) true Tryz.f5.params.toList args.toList ds p:=hA0;rw[Tryz.params5]at hA mn;have hK:=fun W'=>Og (w':=W') [36,5,9,33,34,43,4,26,23,24,40,47] (by kernel_rfl) (by decide) hA;obtain ⟨rfl,rfl⟩:=trodVars_none hV;obtain ⟨v0,v1,v2,d0,d1,d2,p0,p1,p2,rfl,rfl,rfl,h0,h1,h2⟩:=trodAll_three hA;obtain ⟨q0,f0,rfl,Ec,ud,el⟩:=Of (mn 0 36 v0 rfl rfl) h0;obtain ⟨q1,b1,rfl,hq1,tC⟩:=Oe (mn 1 26 v1 rfl rfl) h1;obtain ⟨c2,rfl,rfl,rfl,hc2⟩:=open_int Tryz.underlying5 (mn 2 5 v2 rfl rfl) h2;obtain ⟨m2,rfl⟩:∃m:Nat,c2=m:=⟨c2.toNat,by have:=(bounds_u8 hc2).1;omega⟩;clear hA0;simp only[Rows.uptoBulkAll,Rows.uptoBulk]at hk;have hT:Tabs0 W:=Cx hL;have aA:fitF f0:=⟨by omega,jX (q:=2000000) (by omega) _ el⟩;obtain ⟨f1,f2,f3⟩:=RY tC (by omega);refine (N' W f0 b1 m2 aA f1 f2 (fun _ _=>f3) _ _ W (Tabs.refl hT) q0 q1 Ec hq1).mono fun e W' ⟨he,hb⟩=>?_;subst he;refine ⟨_,rfl,_,_,before,[],_,[],hW',?_,hK W' hb,?_,hb.frame _,fun h=>by cases h⟩
 ·exact trodAll_cons_mk (shut_bool Tryz.underlying4 _) trodAll_mk0
 ·rfl
theorem lifted (os:Os) (Fy:os.Started) (H:Type) (enc:TypeId×Value->H) (F:Stop.Interp) :
  ReturnsInHanded {} Tryz.checked os 5 .any ((Rows.OpenSpec.upto Rows.matchWrongSpec).preRow enc Tryz.prog Tryz.f5 Rows.matchWrongUptoRow.domain false Rows.matchWrongUptoRow.laid) (((Rows.OpenSpec.upto Rows.matchWrongSpec).at F).post enc Tryz.prog Tryz.f5 false true false false):=by
 have hx:DataW.whole enc Tryz.prog ((laidWorld os).forCall (fun _ _=>0) ⟨#[],#[.agg #[.int .u8 0,.string ⟨#[]⟩,.slice none 0 0,.slice none 0 0],.agg #[.slice none 0 0,.slice none 0 0],.int .u8 0],[]⟩).memory Tryz.f5.params.toList Rows.matchWrongSpec.vars false #[(.agg #[.int .u8 0,.string ⟨#[]⟩,.slice none 0 0,.slice none 0 0]:Value),.agg #[.slice none 0 0,.slice none 0 0],.int .u8 0].toList 8=some ([.agg [.lit (.int .u8 0),.lit (.string []),.nil,.nil],.agg [.nil,.nil],.lit (.int .u8 0)],[],[]):=by kernel_rfl
 refine returnsInHanded_of_row (C:=Tryz.checked) (s:=(Rows.OpenSpec.upto Rows.matchWrongSpec)) own Fy (by kernel_rfl) Tryz.func5
  (witness_row_atRef (enc:=enc) (C:=Tryz.checked) false (laidWorld os) #[.agg #[.int .u8 0,.string ⟨#[]⟩,.slice none 0 0,.slice none 0 0],.agg #[.slice none 0 0,.slice none 0 0],.int .u8 0] rfl (by kernel_rfl) (by kernel_rfl) (by kernel_rfl)
    (OpenSpec.preRow_of_cond 8 hx (by kernel_rfl) (fun k hk=>by cases hk;kernel_rfl) (by kernel_rfl) (RV os _))) ?_
 intro W base args ds gs before mn hW _ zb6 _ hL On _;exact contract H enc W base args ds gs before mn hW hL (Ue (zb6 _ rfl))
theorem said:Rows.MatchWrongUptoSaid:=
 OpenClaim.holds_of_cond 5 Tryz.f5 rfl rfl rfl rfl rfl rfl rfl ⟨rfl,rfl,rfl,rfl,rfl⟩ rfl rfl rfl rfl rfl (by kernel_rfl) Tryz.func5 II
  (of_decide_eq_true (by kernel_rfl)) (by unfold Func.isWrapper;first | (rw[aX (by decide +kernel)];kernel_rfl) | (rw[aD (by decide +kernel)];exact ⟨rfl,rfl⟩))
  (fun os Fy H enc _ F=>by rw[OpenClaim.pre_eq_preRow];exact lifted os Fy H enc F)
theorem plain (f:FuncId) (fn:Func) (hf:Tryz.pinned.checked.prog.funcNamed "lyceum/lyceumlaw07.MatchWrong"=some f) (qh:Tryz.pinned.checked.prog.funcs[f]?=some fn) :
  false=Tryz.pinned.checked.prog.looks []/\∀ (j:Nat) t,fn.params[j]?=some t->Tryz.pinned.checked.prog.wantsStandIn t=false:=by
 obtain rfl:f=5:=Option.some.inj ((show Tryz.prog.funcNamed "lyceum/lyceumlaw07.MatchWrong"=some 5 by kernel_rfl).symm.trans hf) |>.symm
 obtain rfl:fn=Tryz.f5:=(Option.some.inj (Tryz.func5.symm.trans qh)).symm;refine ⟨by kernel_rfl,fun j t ht=>?_⟩;rw[Tryz.params5]at ht;have hm:t=36\/t=26\/t=5:=by
  have:=Array.mem_of_getElem? ht;simp at this;omega
 rcases hm with rfl | rfl | rfl
 ·exact (show Tryz.prog.wantsStandIn 36=false by kernel_rfl)
 ·exact (show Tryz.prog.wantsStandIn 26=false by kernel_rfl)
 ·exact (show Tryz.prog.wantsStandIn 5=false by kernel_rfl)
theorem card:Rows.MatchWrongUptoCardSaid:=
 Claim7.holds_tied_plain_at .later [] _ _ _ _ said (fun _ h=>by cases h) (by kernel_rfl) (fun _ h=>by cases h) matchWrongUpto_row_tie rfl ⟨rfl,rfl⟩ (by kernel_rfl) rfl plain (by kernel_rfl)
end Go.Proofs.YtokemihbkeddoaaGreatDoor.matchWrong
