/-
The card of 'MatchBack',in the second form.
-/
import Derived.Test.YtokemihbkeddoaaGreatDoorCards
import Derived.Test.YtokemihbkeddoaaGreatDoorTie
import Derived.Test.YtokemihbkeddoaaGreatDoorV10
import Derived.Test.YtokemihbkeddoaaGreatDoorV11
import Derived.Test.YtokemihbkeddoaaGreatDoorV12
namespace Go.Proofs.YtokemihbkeddoaaGreatDoor.matchBack
set_option maxRecDepth 100000
set_option maxHeartbeats 64000000
open Go Go.ChangeShapes Go.WideShapes Go.ChangeAt Go.RowKit Go.ChangeMaps
theorem own:ownKnob Tryz.prog.godebug=none:=by kernel_rfl
theorem contract(H:Type)(enc:TypeId×Value->H)(W:World)(base:Nat)(args:Array Value)(ds gs:List (DataW H))(before:List MemPlace)
  (qA:∀(j:Nat) t v,Tryz.f9.params[j]?=some t->args[j]?=some v->Value.okWide Tryz.prog W .any base t v)
  (hW:DataW.Whole enc Tryz.prog Tryz.f9.params.toList Rows.matchBackSpec.vars false W args.toList ds gs before) (hL:laidMetH Tryz.prog Rows.matchBackRow.laid W)
  (hk:Rows.uptoBulkAll ds<=1048576):
  Calls Tryz.prog 9 args W fun e W'=>∃v,e=.returned v/\Rows.matchBackSpec.post enc Tryz.prog Tryz.f9 false true false false W args v W':=by
 have hW':=hW;obtain⟨p,q,hA0,hV,iG,hfz,DV⟩:=hW;have hA:DataW.TrodAll enc Tryz.prog W 0 (fun _=>true) true Tryz.f9.params.toList args.toList ds p:=hA0;rw[Tryz.params9]at hA qA;have hK:=fun W'=>Qr (w':=W') [36,5,9,33,34,43,4,26,23,24,40,47] (by kernel_rfl) (by decide) hA;obtain⟨rfl,rfl⟩:=trodVars_none hV;obtain⟨v0,v1,d0,d1,p0,p1,rfl,rfl,rfl,h0,h1⟩:=trodAll_two hA;obtain⟨q0,f0,rfl,Lk,tW,dQ⟩:=Qq (qA 0 36 v0 rfl rfl) h0;obtain⟨q1,b1,rfl,hq1,sG⟩:=Qp (qA 1 26 v1 rfl rfl) h1;clear hA0;simp only[Rows.uptoBulkAll]at hk;have hT:Tabs0 W:=EO hL;have ar:fitF f0:=⟨by omega,jK (q:=2000000) (by omega) _ dQ⟩;obtain⟨f1,f2,f3⟩:=Uw sG (by omega);refine(Ur W f0 b1 ar f1 f2 (fun _ _=>f3) _ _ W (Tabs.refl hT) q0 q1 Lk hq1).mono fun e W' ⟨he,hb⟩=>?_;subst he;refine⟨_,rfl,_,_,before,[],_,[],hW',?_,hK W' hb,?_,hb.frame _,fun h=>by cases h⟩
 ·exact trodAll_cons_mk (shut_bool Tryz.underlying4 _) trodAll_mk0
 ·rfl
theorem lifted(os:Os)(Ih:os.Started)(H:Type)(enc:TypeId×Value->H)(F:Stop.Interp):
  ReturnsInHanded {} Tryz.checked os 9 .any ((Rows.OpenSpec.upto Rows.matchBackSpec).preRow enc Tryz.prog Tryz.f9 Rows.matchBackUptoRow.domain false Rows.matchBackUptoRow.laid) (((Rows.OpenSpec.upto Rows.matchBackSpec).at F).post enc Tryz.prog Tryz.f9 false true false false):=by
 have hx:DataW.whole enc Tryz.prog ((laidWorld os).forCall (fun _ _=>0) ⟨#[],#[.agg #[.int .u8 0,.string ⟨#[]⟩,.slice none 0 0,.slice none 0 0],.agg #[.slice none 0 0,.slice none 0 0]],[]⟩).memory Tryz.f9.params.toList Rows.matchBackSpec.vars false #[(.agg #[.int .u8 0,.string ⟨#[]⟩,.slice none 0 0,.slice none 0 0]:Value),.agg #[.slice none 0 0,.slice none 0 0]].toList 8=some ([.agg [.lit (.int .u8 0),.lit (.string []),.nil,.nil],.agg [.nil,.nil]],[],[]):=by kernel_rfl
 refine returnsInHanded_of_row (C:=Tryz.checked) (s:=(Rows.OpenSpec.upto Rows.matchBackSpec)) own Ih (by kernel_rfl) Tryz.func9
  (witness_row_atRef (enc:=enc) (C:=Tryz.checked) false (laidWorld os) #[.agg #[.int .u8 0,.string ⟨#[]⟩,.slice none 0 0,.slice none 0 0],.agg #[.slice none 0 0,.slice none 0 0]] rfl (by kernel_rfl) (by kernel_rfl) (by kernel_rfl)
    (OpenSpec.preRow_of_cond 8 hx (by kernel_rfl) (fun k hk=>by cases hk;kernel_rfl) (by kernel_rfl) (Ut os _))) ?_
 intro W base args ds gs before qA hW _ zcR _ hL Qy _;exact contract H enc W base args ds gs before qA hW hL (Xr (zcR _ rfl))
theorem said:Rows.MatchBackUptoSaid:=
 OpenClaim.holds_of_cond 9 Tryz.f9 rfl rfl rfl rfl rfl rfl rfl ⟨rfl,rfl,rfl,rfl,rfl⟩ rfl rfl rfl rfl rfl (by kernel_rfl) Tryz.func9 MT
  (of_decide_eq_true (by kernel_rfl)) (by unfold Func.isWrapper;first|(rw[aw (by decide+kernel)];kernel_rfl)|(rw[ak (by decide+kernel)];exact⟨rfl,rfl⟩))
  (fun os Ih H enc _ F=>by rw[OpenClaim.pre_eq_preRow];exact lifted os Ih H enc F)
theorem plain(f:FuncId)(fn:Func)(hf:Tryz.pinned.checked.prog.funcNamed "lyceum/lyceumlaw07.MatchBack"=some f)(sU:Tryz.pinned.checked.prog.funcs[f]?=some fn):
  false=Tryz.pinned.checked.prog.looks []/\∀(j:Nat) t,fn.params[j]?=some t->Tryz.pinned.checked.prog.wantsStandIn t=false:=by
 obtain rfl:f=9:=Option.some.inj ((show Tryz.prog.funcNamed "lyceum/lyceumlaw07.MatchBack"=some 9 by kernel_rfl).symm.trans hf) |>.symm
 obtain rfl:fn=Tryz.f9:=(Option.some.inj (Tryz.func9.symm.trans sU)).symm;refine⟨by kernel_rfl,fun j t ht=>?_⟩;rw[Tryz.params9]at ht;have hm:t=36\/t=26:=by
  have:=Array.mem_of_getElem? ht;simp at this;omega
 rcases hm with rfl|rfl
 ·exact(show Tryz.prog.wantsStandIn 36=false by kernel_rfl)
 ·exact(show Tryz.prog.wantsStandIn 26=false by kernel_rfl)
theorem card:Rows.MatchBackUptoCardSaid:=
 Claim7.holds_tied_plain_at .later [] _ _ _ _ said (fun _ h=>by cases h) (by kernel_rfl) (fun _ h=>by cases h) matchBackUpto_row_tie rfl ⟨rfl,rfl⟩ (by kernel_rfl) rfl plain (by kernel_rfl)
end Go.Proofs.YtokemihbkeddoaaGreatDoor.matchBack
