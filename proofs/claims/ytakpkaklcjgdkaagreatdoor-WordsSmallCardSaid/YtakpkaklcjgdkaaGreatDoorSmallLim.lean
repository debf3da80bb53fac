/-
  Contract of 'limits' of the laws.
-/
import Derived.Test.YtakpkaklcjgdkaaGreatDoorSmallEnt
import Derived.Test.YtakpkaklcjgdkaaGreatDoorLawWrites
import Derived.Test.YtakpkaklcjgdkaaGreatDoorLawTexts
import Derived.Deep.RegionLawGrows
namespace Go.Proofs.YtakpkaklcjgdkaaGreatDoor
open Go Go.RowKit

attribute [local go_sem ↓] Go.wp_at_zero Go.wp_at_succ

theorem two_bytes (w : World) (x y : Int) : (convert 69 9 (.slice (some ⟨w.heap.size, 0, none⟩) 2 2)).run Tryz.prog (w.alloc (.cells #[.int .u8 x, .int .u8 y] 5)) = .ok (.string (strOfNums [x, y])) (w.alloc (.cells #[.int .u8 x, .int .u8 y] 5)) := by
  exact run_convert_bytes_arg (P := Tryz.prog) (w.alloc (.cells #[.int .u8 x, .int .u8 y] 5)) 69 5 Tryz.underlying69 Tryz.underlying5 w.heap.size 0 2 2 [x, y] rfl (fun i hi => by
    have : i = 0 ∨ i = 1 := by omega
    rcases this with rfl | rfl <;> simp) 9 Tryz.underlying9
theorem nums_size (l : List Int) : (strOfNums l).size = l.length := by
  unfold strOfNums
  show Array.size _ = _
  simp

theorem ownE_app {w : World} {base : Nat} {v : Value} {p q : List Ent} {n : Nat} {xs : List Value} (hn : n = p.length + q.length) (hx : xs = p.flatMap entCells ++ q.flatMap entCells) (h : w.ownsRow base 26 3 v n xs) : OwnEnts w base v (p ++ q) := by
  unfold OwnEnts
  rw [List.length_append, List.flatMap_append, ← hn, ← hx]
  exact h

theorem own_empty {w : World} {g base : Nat} (hg : w.heap[g]? = some (.cells #[] 9 (0, 0))) (hb : base ≤ g) : w.ownsRow base 9 1 (.slice (some ⟨g, 0, none⟩) 0 0) 0 [] :=
  ⟨by simp, .inr ⟨g, 0, #[], rfl, hb, hg, Nat.le_refl _, Nat.zero_le _, by simp, by simp⟩⟩
theorem strs_one (T : List (List UInt8)) : ∀ u ∈ T.map strVal, u.oneCell' = true := by
  intro u hu
  obtain ⟨x, _, rfl⟩ := List.mem_map.1 hu
  rfl

theorem grow_holds {W : World} {base g cap : Nat} {t : TypeId} {xs : List Value} (h : W.ownsRow base t 1 (.slice (some ⟨g, 0, none⟩) 59 cap) 59 xs) : ∀ b, (some (⟨g, 0, none⟩ : Addr)) = some b → ∀ j u, (xs.take 58)[j]? = some u → W.cell? (b.add j) = some u := by
  intro b hb j u hu
  injection hb with hb
  subst hb
  refine h.cells (g := g) rfl j u ?_
  rw [List.getElem?_take] at hu
  split at hu
  · exact hu
  · cases hu
/-- append of texts to a row of the call's own, at an operation behind a guard that holds. -/
theorem wpList_append_strs_g {ops : Array Oper} {rest : List Oper} {o : Oper} {a : Act} {w : World} {Q : Exit → Act → World → Prop} (s x : Operand)
    (ho : o.op = .call { callee := .builtin .append, args := #[s, x], argTypes := #[29, 29] }) (hw : Region.wanted o (yielded ops a.tmps) = true)
    (base : Nat) (v : Value) (n : Nat) (xs : List Value) (hs : a.eval s = v) (hown : w.ownsRow base 9 1 v n xs)
    (ad : Addr) (m c : Nat) (news : List Value) (hx : a.eval x = .slice (some ad) m c) (hl : news.length = m) (hnews : ∀ j u, news[j]? = some u → w.cell? (ad.add j) = some u) (h1 : ∀ u ∈ news, u.oneCell' = true)
    (hnm : n + m ≤ 1000000) (hbase : base ≤ w.heap.size)
    (h : ∀ v' w', w'.ownsRow base 9 1 v' (n + m) (xs ++ news) → w.grownBy w' v.ownBlock → wpList Tryz.prog ops Q rest (a.put o.dst v') w') : wpList Tryz.prog ops Q (o :: rest) a w := by
  obtain ⟨j0, hj, hj0, hj1, hj2⟩ := info_parts info_string
  refine wpList_step fun K hK => ?_
  rw [if_pos hw]
  obtain ⟨v', w', hr, h2, h3, _, _⟩ := run_append_own_at (P := Tryz.prog) w base 29 o.type 9 j0 _ 1 16 Tryz.underlying29 hj hj0 hj1 hj2 rfl (by decide) v n xs hown ad m c news (by rw [Nat.mul_one]; exact hl) hnews h1 (by unfold maxLen; omega) (by omega) hbase
  unfold Oper.wp execOp
  simp only [ho, resolve, invoke, builtin, Sem.run_bind, Sem.run_pure, Result.andThen_ok, List.map_toArray, List.map_cons, List.map_nil, hs, hx, hr]
  exact hK _ _ (h v' w' h2 h3)

set_option maxRecDepth 100000 in
set_option maxHeartbeats 32000000 in
theorem limits_any (W0 w : World) (ht : Tabs W0 w) :
    Calls Tryz.prog 12 #[] w fun r w' => r = .returned (.bool true) ∧ Below w.heap.size w w' := by
  obtain ⟨i0, hi, hz0, hz1, hz2⟩ := info_parts info_ent
  go_enter Tryz.func12, Tryz.ntmps12
  go_wp2
  go_loopw [1, 2] (fun v i wr => ∃ (k : Nat) (L : List Ent), k ≤ 102 ∧ L.length = k ∧ i = .int .i64 k ∧ OwnEnts wr w.heap.size v L ∧ (∀ o ∈ L, o.ok) ∧ Below w.heap.size w wr) (fun _ i _ => 102 - (intOf i).toNat)
  case atStart => exact ⟨0, [], by omega, rfl, rfl, ownEnts_nil _ _, fun o h => by simp at h, Below.refl _ _⟩
  case round =>
    obtain ⟨k, L, hk, hL, rfl, hown, hok, hb⟩ := hrel
    have HO := Lib.hid hown
    have HOk := Lib.hid hok
    have HLn := Lib.hid hL
    clear hown hok hL
    by_cases hlt : k < 102
    · by_cases h97 : 97 < k
      · have hes := Lib.hid (entSlice_of_owns HO.out HOk.out)
        have HN := Lib.hid (ht.next hb)
        go_wp2_with fail
        refine (tells_any W0 _ HN.out _ L hes.out (by have := HLn.out; omega) ⟨⟨#[122, 122]⟩, 4, ⟨#[80]⟩⟩ ⟨by show (2 : Nat) ≤ maxLen; decide, by show (1 : Nat) ≤ maxLen; decide⟩ ⟨#[97, 98]⟩).mono ?_
        rintro r w1 ⟨rfl, hb1⟩
        have hx1 := hb.trans (hb1.mono hb.size)
        go_wp2_with fail
        refine (tells_any W0 _ (ht.next hx1) _ L (hes.out.below hb1) (by have := HLn.out; omega) ⟨⟨#[97, 98]⟩, 5, ⟨#[80]⟩⟩ ⟨by show (2 : Nat) ≤ maxLen; decide, by show (1 : Nat) ≤ maxLen; decide⟩ ⟨#[97, 98, 115]⟩).mono ?_
        rintro r w2 ⟨rfl, hb2⟩
        have hx2 := hx1.trans (hb2.mono hx1.size)
        have HO2 := Lib.hid (ownsRow_below (ownsRow_below HO.out hb1) hb2)
        have hT := fun x y => two_bytes w2 x y
        go_wp2_with (at_builtin; refine wpList_append_own _ rfl _ _ 24 rfl w.heap.size 26 i0 _ 3 40 Tryz.underlying24 hi hz0 hz1 hz2 rfl (by decide) _ L.length (L.flatMap entCells) rfl ((HO2.out.alloc _).alloc _) ⟨w2.heap.size + 1, 0, none⟩ 1 1 (entCells ⟨⟨#[97]⟩ ++ strOfNums [97 + (k : Int) / 26, 97 + (k : Int) % 26], 4, ⟨#[80]⟩⟩) rfl rfl (news_at (two_snd' _ _ _)) (ent_one _) (by have := HLn.out; unfold maxLen; omega) (by have := HLn.out; omega) (by have := hx2.size; simp; omega) ?_)
        intro v' w9 hown9 hgrow _
        have hb9 : Below w.heap.size w w9 := ((hx2.alloc hx2.size _).alloc (by have := hx2.size; simp; omega) _).grown hgrow (by have := hx2.size; simp; omega) (fun k hk => (HO2.out.lt k hk).1)
        have HO9 := Lib.hid hown9
        clear hown9 hgrow hT
        go_wp2
        go_roundw
        case rel => exact ⟨k + 1, L ++ [⟨⟨#[97]⟩ ++ strOfNums [97 + (k : Int) / 26, 97 + (k : Int) % 26], 4, ⟨#[80]⟩⟩], by omega, by have := HLn.out; simp; omega, by go_num, ownE_app (by simp) (by simp) HO9.out, fun o ho => by
          rcases List.mem_append.1 ho with ho | ho
          · exact HOk.out o ho
          · rw [List.mem_singleton.1 ho]
            refine ⟨?_, by show (1 : Nat) ≤ maxLen; decide⟩
            show (ByteArray.size (_ ++ _)) ≤ maxLen
            rw [ByteArray.size_append, nums_size]
            show 1 + 2 ≤ maxLen
            decide, hb9⟩
        case measure => simp [intOf]; omega
      · have hT := fun x y => two_bytes wr x y
        go_wp2_with (at_builtin; refine wpList_append_own _ rfl _ _ 24 rfl w.heap.size 26 i0 _ 3 40 Tryz.underlying24 hi hz0 hz1 hz2 rfl (by decide) _ L.length (L.flatMap entCells) rfl ((HO.out.alloc _).alloc _) ⟨wr.heap.size + 1, 0, none⟩ 1 1 (entCells ⟨⟨#[97]⟩ ++ strOfNums [97 + (k : Int) / 26, 97 + (k : Int) % 26], 4, ⟨#[80]⟩⟩) rfl rfl (news_at (two_snd' _ _ _)) (ent_one _) (by have := HLn.out; unfold maxLen; omega) (by have := HLn.out; omega) (by have := hb.size; simp; omega) ?_)
        intro v' w9 hown9 hgrow _
        have hb9 : Below w.heap.size w w9 := ((hb.alloc hb.size _).alloc (by have := hb.size; simp; omega) _).grown hgrow (by have := hb.size; simp; omega) (fun k hk => (HO.out.lt k hk).1)
        have HO9 := Lib.hid hown9
        clear hown9 hgrow hT
        go_wp2
        go_roundw
        case rel => exact ⟨k + 1, L ++ [⟨⟨#[97]⟩ ++ strOfNums [97 + (k : Int) / 26, 97 + (k : Int) % 26], 4, ⟨#[80]⟩⟩], by omega, by have := HLn.out; simp; omega, by go_num, ownE_app (by simp) (by simp) HO9.out, fun o ho => by
          rcases List.mem_append.1 ho with ho | ho
          · exact HOk.out o ho
          · rw [List.mem_singleton.1 ho]
            refine ⟨?_, by show (1 : Nat) ≤ maxLen; decide⟩
            show (ByteArray.size (_ ++ _)) ≤ maxLen
            rw [ByteArray.size_append, nums_size]
            show 1 + 2 ≤ maxLen
            decide, hb9⟩
        case measure => simp [intOf]; omega
    · go_wp2
      clear hlt hk
      obtain ⟨wo, rfl⟩ : ∃ wo : World, wo = wr := ⟨_, rfl⟩
      obtain ⟨j0, hj, hj0, hj1, hj2⟩ := info_parts info_string
      refine (show ∀ W : World, Below wo.heap.size wo W → W.ownsRow w.heap.size 9 1 (.slice (some ⟨wo.heap.size, 0, none⟩) 1 1) 1 [.string ⟨#[65, 110, 110]⟩] → Code.wp _ _ _ _ W from ?_) _ ((Below.refl _ _).alloc (Nat.le_refl _) _) ⟨rfl, .inr ⟨_, 1, _, rfl, hb.size, heap_alloc_new _ _, by omega, by decide, rfl, rfl⟩⟩
      intro W hx hrow
      have hxW := hb.trans (hx.mono hb.size)
      have HRow := Lib.hid hrow
      clear hrow hb hx HO HOk HLn
      go_loopw [3, 4, 5] (fun s v i wr => ∃ (m : Nat) (S : ByteArray) (T : List (List UInt8)), m ≤ 58 ∧ i = .int .i64 m ∧ s = .string S ∧ S.size = 3 + 17 * m ∧ T.length = m + 1 ∧ (∀ t ∈ T, t.length ≤ 16) ∧ wr.ownsRow w.heap.size 9 1 v (m + 1) (T.map strVal) ∧ Below w.heap.size w wr) (fun _ _ i _ => 58 - (intOf i).toNat)
      case atStart => exact ⟨0, ⟨#[65, 110, 110]⟩, [[65, 110, 110]], by omega, rfl, rfl, rfl, rfl, (by decide), HRow.out, hxW⟩
      case round =>
        obtain ⟨m, S, T, hm, rfl, rfl, hS, hT, hTs, hown, hb2⟩ := hrel
        have HO := Lib.hid hown
        have HTs := Lib.hid hTs
        have HT := Lib.hid hT
        have HS := Lib.hid hS
        have hSz : S.size ≤ 2000 := by omega
        clear hown hT hS hTs
        by_cases hlm : m < 58
        · go_wp2_with (at_builtin; refine wpList_append_own _ rfl _ _ 29 rfl w.heap.size 9 j0 _ 1 16 Tryz.underlying29 hj hj0 hj1 hj2 rfl (by decide) _ (m + 1) (T.map strVal) rfl (HO.out.alloc _) ⟨wr.heap.size, 0, none⟩ 1 1 [.string ⟨#[97, 98, 99, 100, 101, 102, 103, 104, 105, 106, 107, 108, 109, 110, 111, 112]⟩] rfl rfl (cell_one_new _ _ _) (by simp [Value.oneCell']) (by unfold maxLen; omega) (by omega) (by have := hb2.size; simp; omega) ?_)
          intro v' w9 hown9 hgrow _
          have hb9 : Below w.heap.size w w9 := (hb2.alloc hb2.size _).grown hgrow (by have := hb2.size; simp; omega) (fun k hk => (HO.out.lt k hk).1)
          have HO9 := Lib.hid hown9
          clear hown9 hgrow
          go_wp2
          go_roundw
          case rel => exact ⟨m + 1, _, T ++ [[97, 98, 99, 100, 101, 102, 103, 104, 105, 106, 107, 108, 109, 110, 111, 112]], by omega, by go_num, rfl, by rw [ByteArray.size_append, HS.out]; show 3 + 17 * m + 17 = _; omega, by rw [List.length_append, HT.out]; rfl, fun x hx => by
            rcases List.mem_append.1 hx with hx | hx
            · exact HTs.out x hx
            · rw [List.mem_singleton.1 hx]; decide, by rw [List.map_append]; exact HO9.out, hb9⟩
          case measure => simp [intOf]; omega
        · have hm58 := Lib.hid (show m = 58 by omega)
          obtain ⟨wp, rfl⟩ : ∃ wp : World, wp = wr := ⟨_, rfl⟩
          go_wp2
          clear HRow hxW
          go_loopw [3, 4, 6] (fun s v i wr => ∃ (m : Nat) (S : ByteArray) (T : List (List UInt8)), m ≤ 14 ∧ i = .int .i64 m ∧ s = .string S ∧ S.size = 989 + m ∧ T.length = 59 ∧ (∀ t ∈ T, t.length ≤ 16 + m) ∧ wr.ownsRow w.heap.size 9 1 v 59 (T.map strVal) ∧ Below w.heap.size w wr) (fun _ _ i _ => 14 - (intOf i).toNat)
          case atStart => exact ⟨0, S, T, by omega, rfl, rfl, by rw [HS.out, hm58.out], by rw [HT.out, hm58.out], HTs.out, by have h := HO.out; rw [hm58.out] at h; exact h, hb2⟩
          case round =>
            clear HO HT HS HTs hSz hlm hm hb2
            obtain ⟨m, S, T, hm, rfl, rfl, hS, hT, hTs, hown, hb2⟩ := hrel
            have HTs := Lib.hid hTs
            clear hTs
            have HO := Lib.hid hown
            have HT := Lib.hid hT
            have HS := Lib.hid hS
            have hSz : S.size ≤ 1100 := by omega
            clear hT hS
            by_cases hlm : m < 14
            · rcases hown.2 with ⟨_, h0⟩ | ⟨g, cap, cur, rfl, hbg, hgg, hcap, hcm, _⟩
              · exact absurd h0 (by decide)
              clear hown
              have hxr := hb2
              go_wp2_with fail
              refine (writes_any W0 _ (ht.next hb2) _ (by rw [ByteArray.size_append]; show S.size + 1 ≤ 1200; omega)).mono ?_
              rintro r w1 ⟨rfl, hb3⟩
              have hx3 := hb2.trans (hb3.mono hb2.size)
              go_wp2_with fail
              refine (writes_any W0 _ (ht.next hx3) S (by omega)).mono ?_
              rintro r w2 ⟨rfl, hb4⟩
              have hx4 := hx3.trans (hb4.mono hx3.size)
              have hb34 := hb3.trans (hb4.mono hb3.size)
              have HO2 := Lib.hid (ownsRow_below HO.out hb34)
              have T1 : True := trivial
              have T2 : True := trivial
              have hs2 : w2.heap.size ≤ (w2.alloc (.cells #[] 9)).heap.size := by simp
              go_wp2_with (first
                | (at_builtin
                   have _t := T1
                   refine wpList_append_strs_g (.tmp 64) (.tmp 65) rfl rfl w2.heap.size _ 0 [] rfl (own_empty (heap_alloc_new _ _) (Nat.le_refl _)) ⟨g, 0, none⟩ 59 cap (T.map strVal) rfl (by rw [List.length_map, HT.out]) ((HO2.out.alloc _).cells (g := g) rfl) (strs_one _) (by decide) hs2 ?_
                   intro v5 w5 hown5 hgrow5
                   have hb5 : Below w2.heap.size w2 w5 := ((Below.refl _ _).alloc (Nat.le_refl _) _).grown hgrow5 hs2 (fun k hk => by injection hk with hk; rw [← hk]; exact Nat.le_refl _)
                   have HO5 := Lib.hid hown5
                   clear hown5 hgrow5 T1 _t)
                | (at_builtin
                   have _t := T2
                   refine wpList_append_strs_g (.tmp 66) (.tmp 67) rfl rfl w2.heap.size _ _ _ rfl (HO5.out.alloc _) ⟨w5.heap.size, 0, none⟩ 1 1 [.string ⟨#[46]⟩] rfl rfl (cell_one_new _ _ _) (by simp [Value.oneCell']) (by decide) (by have := hb5.size; simp; omega) ?_
                   intro v6 w6 hown6 hgrow6
                   have hb6 : Below w2.heap.size w2 w6 := (hb5.alloc hb5.size _).grown hgrow6 (by have := hb5.size; simp; omega) (fun k hk => (HO5.out.lt k hk).1)
                   have HO6 := Lib.hid hown6
                   clear hown6 hgrow6 T2 _t))
              have hss : StrSlice w6 v6 (T ++ [[46]]) := strSlice_of_owns (by
                have h := HO6.out
                rw [List.length_append, HT.out, List.map_append]
                exact h)
              have hnf : ∀ n cap, v6 = .slice none n cap → v6 = .slice none 0 0 := by
                rcases HO6.out.2 with ⟨h, _⟩ | ⟨g', cap', cur', h, _⟩
                · intro n c _; exact h
                · intro n c h'; rw [h] at h'; cases h'
              have hx6 := hx4.trans (hb6.mono hx4.size)
              refine (WordsTexts_any W0 _ (ht.next hx6) _ _ hss (by rw [List.length_append, HT.out]; decide) hnf).mono ?_
              rintro r w7 ⟨rfl, hb7⟩
              have hx7 := hx6.trans (hb7.mono hx6.size)
              have hb27 : Below wr.heap.size wr w7 := (hb34.trans (hb6.mono hb34.size)).trans (hb7.mono (by have := hb34.size; have := hb6.size; omega))
              have HO7 := Lib.hid (ownsRow_below HO.out hb27)
              clear hss hnf HO5 HO6 hb5 hb6 hb7 hb3 hb4 hb34 HO2 hs2 hx3 hx4 hx6
              obtain ⟨x, hxx⟩ : ∃ x : List UInt8, T[58]? = some x := ⟨_, List.getElem?_eq_getElem (by rw [HT.out]; decide)⟩
              have hxm : x ∈ T := List.mem_of_getElem? hxx
              have hxl : x.length ≤ 30 := by have := HTs.out x hxm; omega
              have hcx : w7.cell? ⟨g, 58, none⟩ = some (strVal x) := by rw [HO7.out.cellAt 58 (by decide), List.getElem?_map, hxx]; rfl
              unfold strVal at hcx
              have hxz : (⟨x.toArray⟩ : ByteArray).size ≤ 30 := by rw [bytes_size]; exact hxl
              have HX := Lib.hid hxx
              have HXm := Lib.hid hxm
              obtain ⟨X, hX⟩ : ∃ X : ByteArray, X = ⟨x.toArray⟩ := ⟨_, rfl⟩
              rw [← hX] at hcx hxz
              have HXX := Lib.hid hX
              clear hxx hxm hX hxl
              have w1' : IntKind.i64.wrap ((59 : Int) - 1) = 58 := by decide
              go_wp2_with fail
              have hbo := hx7
              have w1'' : IntKind.i64.wrap 58 = 58 := by decide
              have r1 : ∀ W, (Op.stringOp .add S ⟨#[113]⟩).run Tryz.prog W = .ok (.string (S ++ ⟨#[113]⟩)) W := fun W => run_string_add_sum W _ _ (by show S.size + 1 ≤ _; omega)
              have r2 : ∀ W, (Op.stringOp .add X ⟨#[113]⟩).run Tryz.prog W = .ok (.string (X ++ ⟨#[113]⟩)) W := fun W => run_string_add_sum W _ _ (by show X.size + 1 ≤ _; omega)
              have w6' : (58 : Int) ≤ (cap : Int) := by omega
              have w7' : 58 ≤ cap := by omega
              go_region_held3 (fun w' => w'.cell? ⟨g, 58, none⟩ = some (.string X)) (go_keep)
                ((refine step_append_grows (by rfl) (.tmp 81) (.tmp 89) 29 (by rfl) 9 j0 _ 1 16 Tryz.underlying29 hj hj0 hj1 hj2 rfl (by decide) (some ⟨g, 0, none⟩) 58 58 ((T.map strVal).take 58) (by rfl) (fun h => by cases h) (by rw [List.length_take, List.length_map, HT.out]; rfl) (grow_holds (ownsRow_drew (HO7.out.alloc _))) ⟨w7.heap.size, 0, none⟩ 1 1 [.string (X ++ ⟨#[113]⟩)] (by rfl) (by rfl) (news_at (heap_new_drew _ _)) (by simp [Value.oneCell']) (by decide) (by decide) (by decide) ?_
                  intro v8 w8 hown8 hgrow8
                  have hb8 : Below w7.heap.size w7 w8 := (one_below' w7 _ (Nat.le_refl _)).grown hgrow8 (one_below' w7 _ (Nat.le_refl _)).size (fun k hk => by cases hk)
                  have HO8 := Lib.hid hown8
                  have k8 := cell_kept' hb8 hcx
                  clear hown8 hgrow8))
              all_goals
                clear w1' w1'' w6' w7' r1 r2
                go_wp2
                go_roundw
                case rel => exact ⟨m + 1, _, T.take 58 ++ [x ++ [113]], by omega, by go_num, rfl, by rw [ByteArray.size_append, HS.out]; show 989 + m + 1 = _; omega, by rw [List.length_append, List.length_take, HT.out]; rfl, fun y hy => by
                  rcases List.mem_append.1 hy with hy | hy
                  · have := HTs.out y (List.mem_of_mem_take hy); omega
                  · rw [List.mem_singleton.1 hy, List.length_append]; have := HTs.out x HXm.out; simp only [List.length_singleton]; omega, by
                  have e1 : strVal (x ++ [113]) = .string (X ++ ⟨#[113]⟩) := by unfold strVal; rw [HXX.out, push_str]
                  rw [List.map_append, List.map_take, List.map_singleton, e1]
                  exact owns_base HO8.out (Nat.le_trans hbo.size (one_below' w7 _ (Nat.le_refl _)).size), hbo.trans (hb8.mono hbo.size)⟩
                case measure => simp [intOf]; omega
            · obtain rfl : m = 14 := by omega
              have hsz : S.size = 1003 := HS.out
              go_wp2
              go_ret
              exact ⟨rfl, hb2⟩
end Go.Proofs.YtakpkaklcjgdkaaGreatDoor
