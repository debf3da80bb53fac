/-
  The walk of 'WordsSmall', and its card.
-/
import Derived.Test.YtakpkaklcjgdkaaGreatDoorCards
import Derived.Test.YtakpkaklcjgdkaaGreatDoorTie
import Derived.Test.YtakpkaklcjgdkaaGreatDoorLaidW
import Derived.Test.YtakpkaklcjgdkaaGreatDoorKeep
import Derived.ProofKit
import Derived.OpenShut
import Derived.Deep.DeepHandedRow
import Derived.ChangeMaps5
import Derived.ShutString
import Derived.Test.YtakpkaklcjgdkaaGreatDoorSmallLim
namespace Go.Proofs.YtakpkaklcjgdkaaGreatDoor
open Go Go.RowKit

attribute [local go_sem ↓] Go.wp_at_zero Go.wp_at_succ

theorem ext_le (x : ByteArray) (a : Nat) : (x.extract a (a + 1)).size ≤ 1 := by rw [ByteArray.size_extract]; omega
theorem strs_four {w : World} {g n : Nat} {a b c d : ByteArray} (hg : w.heap[g]? = some (.cells #[.string a, .string b, .string c, .string d] 9 (0, 0))) (hn : n ≤ 4) : StrSlice w (.slice (some ⟨g, 0, none⟩) n 4) ([a.data.toList, b.data.toList, c.data.toList, d.data.toList].take n) := by
  have hl : ([a.data.toList, b.data.toList, c.data.toList, d.data.toList].take n).length = n := by rw [List.length_take]; simp; omega
  refine ⟨_, 4, by rw [hl], by rw [hl]; exact hn, by decide, .inr ⟨g, 0, rfl, fun j hj => ?_⟩⟩
  rw [hl] at hj
  rw [List.getElem_take, Nat.zero_add, cell_of_row w g j _ _ _ hg]
  have : j = 0 ∨ j = 1 ∨ j = 2 ∨ j = 3 := by omega
  rcases this with rfl | rfl | rfl | rfl <;> rfl

set_option maxRecDepth 100000 in
set_option maxHeartbeats 32000000 in
theorem WordsSmall_any (W0 w : World) (ht : Tabs W0 w) :
    Calls Tryz.prog 5 #[] w fun r w' => r = .returned (.bool true) ∧ Below w.heap.size w w' := by
  go_enter Tryz.func5, Tryz.ntmps5
  go_wp2
  go_loopw [2] (fun i wr => ∃ k : Nat, k ≤ 1331 ∧ i = .int .i64 k ∧ Below w.heap.size w wr) (fun i _ => 1331 - (intOf i).toNat)
  case atStart => exact ⟨0, by omega, rfl, Below.refl _ _⟩
  case round =>
    obtain ⟨k, hk, rfl, hb⟩ := hrel
    by_cases hlt : k < 1331
    · go_wp2
      go_loop [3, 4, 5] (fun s i n => ∃ (m q : Nat) (S : ByteArray), m ≤ 3 ∧ q ≤ 1331 ∧ S.size ≤ m ∧ s = .string S ∧ i = .int .i64 m ∧ n = .int .i64 q) (fun _ i _ => 3 - (intOf i).toNat)
      case atStart => exact ⟨0, k, ByteArray.empty, by omega, by omega, by decide, rfl, rfl, rfl⟩
      case round =>
        obtain ⟨m, q, S, hm, hq, hS, rfl, rfl, rfl⟩ := hrel
        by_cases hlm : m < 3
        · by_cases hq10 : q % 11 < 10
          · go_wp2
            go_round
            case rel => exact ⟨m + 1, q / 11, _, by omega, by omega, by rw [ByteArray.size_append]; exact Nat.add_le_add hS (ext_le _ _), rfl, by go_num, by go_num⟩
            case measure => simp [intOf]; omega
          · go_wp2
            go_round
            case rel => exact ⟨m + 1, q / 11, S, by omega, by omega, by omega, rfl, by go_num, by go_num⟩
            case measure => simp [intOf]; omega
        · go_wp2_with fail
          refine (writes_any W0 _ (ht.next hb) S (by omega)).mono ?_
          rintro r w1 ⟨rfl, hb1⟩
          go_wp2
          go_roundw
          case rel => exact ⟨k + 1, by omega, by go_num, hb.trans (hb1.mono hb.size)⟩
          case measure => simp [intOf]; omega
    · go_wp2
      clear hlt hk
      obtain ⟨wa, rfl⟩ : ∃ wa : World, wa = wr := ⟨_, rfl⟩
      refine (show ∀ W : World, Below wa.heap.size wa W → wa.heap.size + 1 ≤ W.heap.size → Strs W wa.heap.size 12 6 → Code.wp _ _ _ _ W from ?_) _ ((Below.refl _ _).alloc (Nat.le_refl _) _) (by simp) ?_
      rotate_left
      · exact str_cells (n := 12) (heap_alloc_new _ _) (by decide)
      intro W hx hsz hn1
      have HN1 := Lib.hid hn1
      have hxW := hb.trans (hx.mono hb.size)
      clear hn1
      go_loopw [7] (fun i wr => ∃ k : Nat, k ≤ 20736 ∧ i = .int .i64 k ∧ Below W.heap.size W wr) (fun i _ => 20736 - (intOf i).toNat)
      case atStart => exact ⟨0, by omega, rfl, Below.refl _ _⟩
      case round =>
        obtain ⟨k, hk, rfl, hb2⟩ := hrel
        by_cases hlt : k < 20736
        · obtain ⟨a, ha, hsa⟩ := HN1.out (k % 12) (by omega)
          obtain ⟨b, hbb, hsb⟩ := HN1.out (k / 12 % 12) (by omega)
          obtain ⟨c, hc, hsc⟩ := HN1.out (k / 144 % 12) (by omega)
          obtain ⟨d, hd, hsd⟩ := HN1.out (k / 1728) (by omega)
          have f0 := fun x : Later wr => x.get (cell_kept' hb2 ha)
          have f1 := fun x : Later wr => x.get (cell_kept' hb2 hbb)
          have f2 := fun x : Later wr => x.get (cell_kept' hb2 hc)
          have f3 := fun x : Later wr => x.get (cell_kept' hb2 hd)
          clear ha hbb hc hd
          have t1 : Int.tdiv (k : Int) 12 = (k : Int) / 12 := Int.tdiv_eq_ediv_of_nonneg (by omega)
          have t2 : Int.tdiv (k : Int) 144 = (k : Int) / 144 := Int.tdiv_eq_ediv_of_nonneg (by omega)
          have t3 : Int.tdiv (k : Int) 1728 = (k : Int) / 1728 := Int.tdiv_eq_ediv_of_nonneg (by omega)
          have t4 : Int.tmod (k : Int) 12 = (k : Int) % 12 := Int.tmod_eq_emod_of_nonneg (by omega)
          have t5 : Int.tmod ((k : Int) / 12) 12 = (k : Int) / 12 % 12 := Int.tmod_eq_emod_of_nonneg (by omega)
          have t6 : Int.tmod ((k : Int) / 144) 12 = (k : Int) / 144 % 12 := Int.tmod_eq_emod_of_nonneg (by omega)
          have t7 : IntKind.i64.wrap ((k : Int) / 12) = (k : Int) / 12 := IntWalk.i64_in _ (by omega)
          have t8 : IntKind.i64.wrap ((k : Int) / 144) = (k : Int) / 144 := IntWalk.i64_in _ (by omega)
          have t9 : IntKind.i64.wrap ((k : Int) / 1728) = (k : Int) / 1728 := IntWalk.i64_in _ (by omega)
          have t10 : ((k : Int) % 12).toNat = k % 12 := by omega
          have t11 : ((k : Int) / 12 % 12).toNat = k / 12 % 12 := by omega
          have t12 : ((k : Int) / 144 % 12).toNat = k / 144 % 12 := by omega
          have t13 : ((k : Int) / 1728).toNat = k / 1728 := by omega
          have t14 : (0 : Int) ≤ (k : Int) % 12 := by omega
          have t15 : (k : Int) % 12 < 12 := by omega
          have t16 : (0 : Int) ≤ (k : Int) / 12 % 12 := by omega
          have t17 : (k : Int) / 12 % 12 < 12 := by omega
          have t18 : (0 : Int) ≤ (k : Int) / 144 % 12 := by omega
          have t19 : (k : Int) / 144 % 12 < 12 := by omega
          have t20 : (0 : Int) ≤ (k : Int) / 1728 := by omega
          have t21 : (k : Int) / 1728 < 12 := by omega
          go_wp2
          refine wp_region_later (by kernel_rfl) (by kernel_rfl) ?_
          repeat (go_big_quiet_step (fail))
          refine wpQuiet_nil ?_
          rintro wy ⟨y, hy⟩
          have hby : Below wr.heap.size wr wy := hy ▸ y.below
          clear hy y f0 f1 f2 f3 t1 t2 t3 t4 t5 t6 t7 t8 t9 t10 t11 t12 t13 t14 t15 t16 t17 t18 t19 t20 t21
          have hbY := hb2.trans (hby.mono hb2.size)
          have hxY := hxW.trans (hbY.mono hxW.size)
          go_wp2_with fail
          refine (writes_any W0 _ (ht.next hxY) _ (by simp only [ByteArray.size_append]; have h1 : (⟨#[32]⟩ : ByteArray).size = 1 := rfl; omega)).mono ?_
          rintro r w1 ⟨rfl, hb5⟩
          have hx1 := hxY.trans (hb5.mono hxY.size)
          go_wp2_with fail
          have hx2 := hx1.alloc hx1.size (.cells #[.string a, .string b, .string c, .string d] 9)
          refine (WordsTexts_any W0 _ (ht.next hx2) _ _ (strs_four (heap_alloc_new _ _) (by omega)) (by rw [List.length_take]; omega) (fun _ _ h => by cases h)).mono ?_
          rintro r w3 ⟨rfl, hb6⟩
          have hb7 : Below W.heap.size W w3 := (hbY.trans (hb5.mono hbY.size)).trans ((((Below.refl _ _).alloc (Nat.le_refl _) _).trans (hb6.mono (by simp))).mono (hbY.trans (hb5.mono hbY.size)).size)
          clear hb5 hb6 hx1 hx2 hxY hbY hby
          go_wp2
          go_roundw
          case rel => exact ⟨k + 1, by omega, by go_num, hb7⟩
          case measure => simp [intOf]; omega
        · go_wp2
          clear hlt hk
          obtain ⟨wb, rfl⟩ : ∃ wb : World, wb = wr := ⟨_, rfl⟩
          have hxb := hxW.trans (hb2.mono hxW.size)
          clear hxW hb2 hx hb HN1 hsz
          refine (show ∀ W2 : World, Below wb.heap.size wb W2 → Strs W2 wb.heap.size 22 5 → Code.wp _ _ _ _ W2 from ?_) _ ((Below.refl _ _).alloc (Nat.le_refl _) _) ?_
          rotate_left
          · exact str_cells (n := 22) (heap_alloc_new _ _) (by decide)
          intro W2 hx2 hn2
          have HN2 := Lib.hid hn2
          have hxW := hxb.trans (hx2.mono hxb.size)
          clear hn2
          go_loopw [13] (fun i wr => ∃ k : Nat, k ≤ 22 ∧ i = .int .i64 k ∧ Below W2.heap.size W2 wr) (fun i _ => 22 - (intOf i).toNat)
          case atStart => exact ⟨0, by omega, rfl, Below.refl _ _⟩
          case round =>
            obtain ⟨k, hk, rfl, hb3⟩ := hrel
            by_cases hlt : k < 22
            · obtain ⟨s, hs, hss⟩ := HN2.out k hlt
              have hs := cell_kept' hb3 hs
              have hxw := hxW.trans (hb3.mono hxW.size)
              have CWr : Hid (∀ W (t : ByteArray), Below wr.heap.size wr W → t.size ≤ 1200 → Calls Tryz.prog 6 #[.string t] W fun r W' => r = .returned (.bool true) ∧ Below wr.heap.size wr W') := Lib.hid (fun W t hW htt => (writes_any W0 W (ht.next (hxw.trans (hW.mono hxw.size))) t htt).mono fun r W' ⟨h1, h2⟩ => ⟨h1, hW.trans (h2.mono hW.size)⟩)
              have CT : Hid (∀ W, Below wr.heap.size wr W → Calls Tryz.prog 9 #[.slice none 0 0, .agg #[.string s, .int .u8 1, .string ⟨#[80]⟩], .string s] W fun r W' => r = .returned (.bool true) ∧ Below wr.heap.size wr W') := Lib.hid (fun W hW => (tells_any W0 W (ht.next (hxw.trans (hW.mono hxw.size))) _ [] (ents_none W) (by simp) ⟨s, 1, ⟨#[80]⟩⟩ ⟨by show s.size ≤ maxLen; unfold maxLen; omega, by show (1 : Nat) ≤ maxLen; decide⟩ s).mono fun r W' ⟨h1, h2⟩ => ⟨h1, hW.trans (h2.mono hW.size)⟩)
              have hdr : Below wr.heap.size wr wr.drew := (Below.refl _ _).drew
              have z1 : (⟨#[32]⟩ : ByteArray).size ≤ 1 := Nat.le_refl _
              have z2 : (⟨#[46]⟩ : ByteArray).size ≤ 1 := Nat.le_refl _
              have e3 : (k : Int) < 22 := by omega
              have r1 : ∀ W, (Op.stringOp .add s ⟨#[46]⟩).run Tryz.prog W = .ok (.string (s ++ ⟨#[46]⟩)) W := fun W => run_string_add_sum W _ _ (by omega)
              have r2 : ∀ W, (Op.stringOp .add ⟨#[32]⟩ s).run Tryz.prog W = .ok (.string (⟨#[32]⟩ ++ s)) W := fun W => run_string_add_sum W _ _ (by omega)
              have r3 : ∀ W, (Op.stringOp .add (⟨#[32]⟩ ++ s) ⟨#[32]⟩).run Tryz.prog W = .ok (.string (⟨#[32]⟩ ++ s ++ ⟨#[32]⟩)) W := fun W => run_string_add_sum W _ _ (by simp only [ByteArray.size_append]; omega)
              have r4 : ∀ W, (Op.stringOp .add (⟨#[32]⟩ ++ s ++ ⟨#[32]⟩) s).run Tryz.prog W = .ok (.string (⟨#[32]⟩ ++ s ++ ⟨#[32]⟩ ++ s)) W := fun W => run_string_add_sum W _ _ (by simp only [ByteArray.size_append]; omega)
              have r5 : ∀ W, (Op.stringOp .add (⟨#[32]⟩ ++ s ++ ⟨#[32]⟩ ++ s) ⟨#[46]⟩).run Tryz.prog W = .ok (.string (⟨#[32]⟩ ++ s ++ ⟨#[32]⟩ ++ s ++ ⟨#[46]⟩)) W := fun W => run_string_add_sum W _ _ (by simp only [ByteArray.size_append]; omega)
              have e5 : (0 : Int) ≤ k := by omega
              go_wp2
              go_region_held3 (fun w' => w'.cell? ⟨wb.heap.size, k, none⟩ = some (.string s))
                (first | go_keep | exact cell_kept' (by assumption) hs)
                (first
                  | (go_at_call 6; refine (CWr.out _ _ (by assumption) (by simp only [ByteArray.size_append]; omega)).mono ?_; rintro r W3 ⟨rfl, hW3⟩)
                  | (go_at_call 6; refine (CWr.out _ _ (by assumption) (by omega)).mono ?_; rintro r W4 ⟨rfl, hW4⟩)
                  | (go_at_call 9; refine (CT.out _ (by assumption)).mono ?_; rintro r W5 ⟨rfl, hW5⟩))
              clear r1 r2 r3 r4 r5
              go_wp2
              go_roundw
              case rel => exact ⟨k + 1, by omega, by go_num, hb3.trans (hW5.mono hb3.size)⟩
              case measure => simp [intOf]; omega
            · have hxw := hxW.trans (hb3.mono hxW.size)
              go_wp2_with fail
              refine (entries_any W0 _ (ht.next hxw)).mono ?_
              rintro r w7 ⟨rfl, hb7⟩
              have hx7 := hxw.trans (hb7.mono hxw.size)
              go_wp2_with fail
              refine (limits_any W0 _ (ht.next hx7)).mono ?_
              rintro r w8 ⟨rfl, hb8⟩
              have hx8 := hx7.trans (hb8.mono hx7.size)
              go_wp2_with fail
              refine (awake_any W0 _ (ht.next hx8)).mono ?_
              rintro r w9 ⟨rfl, hb9⟩
              go_wp2
              go_ret
              exact ⟨rfl, hx8.trans (hb9.mono hx8.size)⟩
end Go.Proofs.YtakpkaklcjgdkaaGreatDoor
namespace Go.Proofs.YtakpkaklcjgdkaaGreatDoor.wordsSmall
open Go Go.ChangeShapes Go.WideShapes Go.ChangeAt Go.RowKit Go.ChangeMaps

theorem own : ownKnob Tryz.prog.godebug = none := by kernel_rfl

set_option maxRecDepth 100000 in
theorem contract (H : Type) (enc : TypeId × Value → H) (W : World) (base : Nat) (args : Array Value) (ds gs : List (DataW H)) (before : List MemPlace)
    (hval : ∀ (j : Nat) t v, Tryz.f5.params[j]? = some t → args[j]? = some v → Value.okWide Tryz.prog W .any base t v)
    (hW : DataW.Whole enc Tryz.prog Tryz.f5.params.toList Rows.wordsSmallSpec.vars false W args.toList ds gs before) (hL : laidMetH Tryz.prog Rows.wordsSmallRow.laid W) (hsh : W.ShapedOpen Tryz.prog)
    (_hz : (DataW.weightsEach Tryz.prog (Tryz.f5.params.toList ++ (OpenSpec.ofChange Rows.wordsSmallSpec).bare.plain.varTypes Tryz.prog) (ds ++ gs)).all (· ≤ reachBytes) = true) :
    Calls Tryz.prog 5 args W fun e W' => ∃ v, e = .returned v ∧ Rows.wordsSmallSpec.post enc Tryz.prog Tryz.f5 false true false false W args v W' := by
  have hW' := hW
  obtain ⟨p, q, hA0, hV, hps, hfz, hnd⟩ := hW
  have hA : DataW.TrodAll enc Tryz.prog W 0 (fun _ => true) true Tryz.f5.params.toList args.toList ds p := hA0
  rw [Tryz.params5] at hA hval
  have hK := fun W' => args_kept (w' := W') [] (by kernel_rfl) (by decide) hA
  obtain ⟨rfl, rfl⟩ := trodVars_none hV
  obtain ⟨rfl, rfl, rfl⟩ := trodAll_none hA
  clear hA0
  have hT : Tabs0 W := tabs0_of_laid hL hsh
  refine (WordsSmall_any W W (Tabs.refl hT)).mono fun e W' ⟨he, hb⟩ => ?_
  subst he
  refine ⟨_, rfl, _, _, before, [], _, [], hW', ?_, hK W' hb, ?_, hb.frame _, fun h => by cases h⟩
  · exact trodAll_cons_mk (shut_bool Tryz.underlying4 _) trodAll_mk0
  · rfl

set_option maxRecDepth 100000 in
theorem lifted (os : Os) (started : os.Started) (H : Type) (enc : TypeId × Value → H) (F : Stop.Interp) :
    ReturnsInHanded {} Tryz.checked os 5 .any ((OpenSpec.ofChange Rows.wordsSmallSpec).preRow enc Tryz.prog Tryz.f5 Rows.wordsSmallRow.domain false Rows.wordsSmallRow.laid) (((OpenSpec.ofChange Rows.wordsSmallSpec).at F).post enc Tryz.prog Tryz.f5 false true false false) := by
  have hx : DataW.whole enc Tryz.prog ((laidWorld os).forCall (fun _ _ => 0) ⟨#[], #[], []⟩).memory Tryz.f5.params.toList Rows.wordsSmallSpec.vars false #[].toList 8 = some ([], [], []) := by kernel_rfl
  refine returnsInHanded_of_row (C := Tryz.checked) (s := OpenSpec.ofChange Rows.wordsSmallSpec) own started (by kernel_rfl) Tryz.func5
    (witness_row_atRef (enc := enc) (C := Tryz.checked) false (laidWorld os) #[] rfl (by kernel_rfl) (by kernel_rfl) (by kernel_rfl)
      (OpenSpec.preRow_of_cond 8 hx (by kernel_rfl) (fun k hk => by cases hk) (by kernel_rfl) (laid_met os _))) ?_
  intro W base args ds gs before hval hW _ _ hz hL hsh _
  exact contract H enc W base args ds gs before hval hW hL hsh hz

theorem said : Rows.WordsSmallSaid :=
  OpenClaim.holds_of_cond 5 Tryz.f5 rfl rfl rfl rfl rfl rfl rfl ⟨rfl, rfl, rfl, rfl, rfl⟩ rfl rfl rfl rfl rfl (by kernel_rfl) Tryz.func5 (by kernel_rfl)
    (of_decide_eq_true (by kernel_rfl)) (by unfold Func.isWrapper; first | (rw [if_pos (by decide +kernel)]; kernel_rfl) | (rw [if_neg (by decide +kernel)]; exact ⟨rfl, rfl⟩))
    (fun os started H enc _ F => by rw [OpenClaim.pre_eq_preRow]; exact lifted os started H enc F)

theorem plain (f : FuncId) (fn : Func) (hf : Tryz.pinned.checked.prog.funcNamed "lyceum/lyceumlaw33.WordsSmall" = some f) (hfn : Tryz.pinned.checked.prog.funcs[f]? = some fn) :
    false = Tryz.pinned.checked.prog.looks [] ∧ ∀ (j : Nat) t, fn.params[j]? = some t → Tryz.pinned.checked.prog.wantsStandIn t = false := by
  obtain rfl : f = 5 := Option.some.inj ((show Tryz.prog.funcNamed "lyceum/lyceumlaw33.WordsSmall" = some 5 by kernel_rfl).symm.trans hf) |>.symm
  obtain rfl : fn = Tryz.f5 := (Option.some.inj (Tryz.func5.symm.trans hfn)).symm
  refine ⟨by kernel_rfl, fun j t ht => ?_⟩
  rw [Tryz.params5] at ht
  exact absurd ht (by simp)

/-- The card. -/
theorem card : Rows.WordsSmallCardSaid :=
  Claim7.holds_tied_plain_at .later [] _ _ _ _ said (fun _ h => by cases h) (by kernel_rfl) (fun _ h => by cases h) wordsSmall_row_tie rfl ⟨rfl, rfl⟩ (by kernel_rfl) rfl plain (by kernel_rfl)
end Go.Proofs.YtakpkaklcjgdkaaGreatDoor.wordsSmall
