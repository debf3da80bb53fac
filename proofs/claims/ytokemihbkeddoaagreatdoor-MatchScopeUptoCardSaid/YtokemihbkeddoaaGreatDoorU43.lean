/-
The card of 'MatchScope',in the second form.
-/
import Derived.Test.YtokemihbkeddoaaGreatDoorU00
import Derived.Test.YtokemihbkeddoaaGreatDoorCards
import Derived.Test.YtokemihbkeddoaaGreatDoorTie
import Derived.Test.YtokemihbkeddoaaGreatDoorU39
import Derived.Test.YtokemihbkeddoaaGreatDoorU40
import Derived.Test.YtokemihbkeddoaaGreatDoorU41
import Derived.Test.YtokemihbkeddoaaGreatDoorU42
import Derived.ProofKit
import Derived.OpenShut
import Derived.Deep.DeepHandedRow
import Derived.ChangeMaps5
import Derived.ShutString
namespace Go.Proofs.YtokemihbkeddoaaGreatDoor.matchScope
set_option maxRecDepth 100000
set_option maxHeartbeats 64000000
open Go Go.ChangeShapes Go.WideShapes Go.ChangeAt Go.RowKit Go.ChangeMaps
theorem own:ownKnob Tryz.prog.godebug=none:=by kernel_rfl
theorem contract (H:Type) (enc:TypeId×Value->H) (W:World) (base:Nat) (args:Array Value) (ds gs:List (DataW H)) (before:List MemPlace)
  (tD:∀ (j:Nat) t v,Tryz.f8.params[j]?=some t->args[j]?=some v->Value.okWide Tryz.prog W .any base t v)
  (hW:DataW.Whole enc Tryz.prog Tryz.f8.params.toList Rows.matchScopeSpec.vars false W args.toList ds gs before) (hL:laidMetH Tryz.prog Rows.matchScopeRow.laid W)
  (hk:Rows.uptoBulkAll ds<=1048576) :
  Calls Tryz.prog 8 args W fun e W'=>∃v,e=.returned v/\Rows.matchScopeSpec.post enc Tryz.prog Tryz.f8 false true false false W args v W':=by
 have hW':=hW
 obtain ⟨p,q,hA0,hV,gh,hfz,zX⟩:=hW
 have hA:DataW.TrodAll enc Tryz.prog W 0 (fun _=>true) true Tryz.f8.params.toList args.toList ds p:=hA0
 rw[Tryz.params8]at hA tD
 have hK:=fun W'=>Le (w':=W') [36,5,9,33,34,43,4] (by kernel_rfl) (by decide) hA
 obtain ⟨rfl,rfl⟩:=trodVars_none hV
 obtain ⟨v0,v1,v2,d0,d1,d2,p0,p1,p2,rfl,rfl,rfl,h0,h1,h2⟩:=trodAll_three hA
 obtain ⟨q0,f0,rfl,Gm,rN,du⟩:=BG (tD 0 36 v0 rfl rfl) h0
 obtain ⟨q1,f1,rfl,hq1,dT,iR⟩:=BG (tD 1 36 v1 rfl rfl) h1
 obtain ⟨s2,rfl,rfl,rfl,_⟩:=open_string Tryz.underlying9 (tD 2 9 v2 rfl rfl) h2
 obtain ⟨⟨s2⟩⟩:=s2
 clear hA0
 simp only[Rows.uptoBulkAll,Rows.uptoBulk]at hk
 have hT:Tabs0 W:=Ay hL
 have aD:fitF (.mk 6 [] [] [.mk 8 s2 [] [f0],f1]):=by
  have g0:=jR (q:=2000000) (by omega) _ du
  have g1:=jR (q:=2000000) (by omega) _ iR
  refine ⟨?_,?_⟩
  ·simp only[nodesF,ah,ac]
   omega
  ·simp only[ks,fd,dF,Bool.and_eq_true,decide_eq_true_eq,List.length_nil]
   simp[g0,g1]
   omega
 refine (La W f0 f1 s2 aD _ _ W (Tabs.refl hT) q0 q1 Gm hq1).mono fun e W' ⟨he,hb⟩=>?_
 subst he
 refine ⟨_,rfl,_,_,before,[],_,[],hW',?_,hK W' hb,?_,hb.frame _,fun h=>by cases h⟩
 ·exact trodAll_cons_mk (shut_bool Tryz.underlying4 _) trodAll_mk0
 ·rfl
theorem lifted (os:Os) (DB:os.Started) (H:Type) (enc:TypeId×Value->H) (F:Stop.Interp) :
  ReturnsInHanded {} Tryz.checked os 8 .any ((Rows.OpenSpec.upto Rows.matchScopeSpec).preRow enc Tryz.prog Tryz.f8 Rows.matchScopeUptoRow.domain false Rows.matchScopeUptoRow.laid) (((Rows.OpenSpec.upto Rows.matchScopeSpec).at F).post enc Tryz.prog Tryz.f8 false true false false):=by
 have hx:DataW.whole enc Tryz.prog ((laidWorld os).forCall (fun _ _=>0) ⟨#[],#[.agg #[.int .u8 0,.string ⟨#[]⟩,.slice none 0 0,.slice none 0 0],.agg #[.int .u8 0,.string ⟨#[]⟩,.slice none 0 0,.slice none 0 0],.string ⟨#[]⟩],[]⟩).memory Tryz.f8.params.toList Rows.matchScopeSpec.vars false #[(.agg #[.int .u8 0,.string ⟨#[]⟩,.slice none 0 0,.slice none 0 0]:Value),.agg #[.int .u8 0,.string ⟨#[]⟩,.slice none 0 0,.slice none 0 0],.string ⟨#[]⟩].toList 8=some ([.agg [.lit (.int .u8 0),.lit (.string []),.nil,.nil],.agg [.lit (.int .u8 0),.lit (.string []),.nil,.nil],.lit (.string [])],[],[]):=by kernel_rfl
 refine returnsInHanded_of_row (C:=Tryz.checked) (s:=(Rows.OpenSpec.upto Rows.matchScopeSpec)) own DB (by kernel_rfl) Tryz.func8
  (witness_row_atRef (enc:=enc) (C:=Tryz.checked) false (laidWorld os) #[.agg #[.int .u8 0,.string ⟨#[]⟩,.slice none 0 0,.slice none 0 0],.agg #[.int .u8 0,.string ⟨#[]⟩,.slice none 0 0,.slice none 0 0],.string ⟨#[]⟩] rfl (by kernel_rfl) (by kernel_rfl) (by kernel_rfl)
    (OpenSpec.preRow_of_cond 8 hx (by kernel_rfl) (fun k hk=>by cases hk;kernel_rfl) (by kernel_rfl) (OE os _))) ?_
 intro W base args ds gs before tD hW _ Z1 _ hL Lj _
 exact contract H enc W base args ds gs before tD hW hL (QX (Z1 _ rfl))
theorem said:Rows.MatchScopeUptoSaid:=
 OpenClaim.holds_of_cond 8 Tryz.f8 rfl rfl rfl rfl rfl rfl rfl ⟨rfl,rfl,rfl,rfl,rfl⟩ rfl rfl rfl rfl rfl (by kernel_rfl) Tryz.func8 FN
  (of_decide_eq_true (by kernel_rfl)) (by unfold Func.isWrapper;first | (rw[if_pos (by decide +kernel)];kernel_rfl) | (rw[if_neg (by decide +kernel)];exact ⟨rfl,rfl⟩))
  (fun os DB H enc _ F=>by rw[OpenClaim.pre_eq_preRow];exact lifted os DB H enc F)
theorem plain (f:FuncId) (fn:Func) (hf:Tryz.pinned.checked.prog.funcNamed "lyceum/lyceumlaw07.MatchScope"=some f) (pU:Tryz.pinned.checked.prog.funcs[f]?=some fn) :
  false=Tryz.pinned.checked.prog.looks []/\∀ (j:Nat) t,fn.params[j]?=some t->Tryz.pinned.checked.prog.wantsStandIn t=false:=by
 obtain rfl:f=8:=Option.some.inj ((show Tryz.prog.funcNamed "lyceum/lyceumlaw07.MatchScope"=some 8 by kernel_rfl).symm.trans hf) |>.symm
 obtain rfl:fn=Tryz.f8:=(Option.some.inj (Tryz.func8.symm.trans pU)).symm
 refine ⟨by kernel_rfl,fun j t ht=>?_⟩
 rw[Tryz.params8]at ht
 have hm:t=36\/t=9:=by
  have:=Array.mem_of_getElem? ht
  simp at this
  omega
 rcases hm with rfl | rfl
 ·exact (show Tryz.prog.wantsStandIn 36=false by kernel_rfl)
 ·exact (show Tryz.prog.wantsStandIn 9=false by kernel_rfl)
theorem card:Rows.MatchScopeUptoCardSaid:=
 Claim7.holds_tied_plain_at .later [] _ _ _ _ said (fun _ h=>by cases h) (by kernel_rfl) (fun _ h=>by cases h) matchScopeUpto_row_tie rfl ⟨rfl,rfl⟩ (by kernel_rfl) rfl plain (by kernel_rfl)
end Go.Proofs.YtokemihbkeddoaaGreatDoor.matchScope
