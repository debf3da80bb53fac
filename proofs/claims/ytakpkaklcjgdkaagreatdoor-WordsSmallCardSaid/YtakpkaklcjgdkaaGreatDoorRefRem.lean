/-
  Contracts of the reference's 'Remove' and 'Look'.
-/
import Derived.Test.YtakpkaklcjgdkaaGreatDoorRefAdd
namespace Go.Proofs.YtakpkaklcjgdkaaGreatDoor
open Go Go.RowKit

set_option maxRecDepth 100000 in
set_option maxHeartbeats 8000000 in
theorem rRemove_any (w : World) (v : Value) (l : List Ent) (hl : EntSlice w v l) (hn : l.length ≤ 1000000) (word : ByteArray) (cat : Int) :
    Calls Tryz.prog 32 #[v, .string word, .int .u8 cat] w fun r w' => ∃ v', r = .returned (.tuple #[v', .int .i64 (removeS l word cat).2]) ∧ OwnEntsR w' w.heap.size v' (removeS l word cat).1 ∧ Below w.heap.size w w' := by
  obtain ⟨i0, hi, hz0, hz1, hz2⟩ := info_parts info_entR
  have HL := Lib.hid hl
  clear hl
  go_enter Tryz.func32, Tryz.ntmps32
  go_wp2_with fail
  refine (rValid_any _ v l HL.out).mono ?_
  rintro r w1 ⟨rfl, hx1⟩
  obtain ⟨b1, hb1e⟩ : ∃ b, b = validS l := ⟨_, rfl⟩
  rw [← hb1e]
  have HB1 := Lib.hid hb1e
  clear hb1e
  cases b1
  · go_wp2
    go_ret2
    rw [removeS_bad HB1.out.symm]
    exact ⟨_, rfl, World.ownsRow_nil _ _ _ _, hx1⟩
  have HL2 := Lib.hid (HL.out.below hx1)
  obtain ⟨⟨a, cap, rfl, hcap, hcm, hform⟩, _⟩ := HL2.out
  have HFo := Lib.hid hform
  clear hform
  go_wp2
  go_loopw [8, 9] (fun o i wr => ∃ k : Nat, k ≤ l.length ∧ i = .int .i64 k ∧ OwnEntsR wr w1.heap.size o (keepS word cat (l.take k)) ∧ Below w1.heap.size w1 wr) (fun _ i _ => l.length - (intOf i).toNat)
  case atStart => exact ⟨0, Nat.zero_le _, rfl, World.ownsRow_nil _ _ _ _, Below.refl _ _⟩
  case round =>
    obtain ⟨k, hk, rfl, hown, hb⟩ := hrel
    have HO := Lib.hid hown
    clear hown
    by_cases hlt : k < l.length
    · rcases HFo.out with h0 | ⟨b, off, rfl, hbl, hc⟩
      · rw [h0] at hlt; exact absurd hlt (by simp)
      obtain ⟨c0, c1, c2⟩ := hc k hlt
      have HKe := Lib.hid (keep_take (word := word) (cat := cat) hlt)
      have hkl : (keepS word cat (l.take k)).length ≤ k := Nat.le_trans (keep_len _ _ _) (List.length_take_le _ _)
      have HKl := Lib.hid hkl
      obtain ⟨o, ho⟩ : ∃ o, o = l[k] := ⟨_, rfl⟩
      rw [← ho] at c0 c1 c2 HKe
      have c0 := cell_kept' hb c0
      have c1 := cell_kept' hb c1
      have c2 := cell_kept' hb c2
      clear ho hc hkl
      have hcases : (o.word.toList = word.toList ∧ o.cat = cat) ∨ (isIt word cat o = false ∧ ((o.word.toList = word.toList ∧ (o.cat == cat) = false ∧ (o.cat != cat) = true) ∨ ((o.word.toList == word.toList) = false ∧ (o.word.toList != word.toList) = true))) := by
        by_cases hw : o.word.toList = word.toList
        · by_cases hca : o.cat = cat
          · exact .inl ⟨hw, hca⟩
          · have h1 := beq_eq_false_iff_ne.2 hca
            exact .inr ⟨by unfold isIt; rw [h1, Bool.and_false], .inl ⟨hw, h1, by rw [bne, h1]; rfl⟩⟩
        · have h1 := beq_eq_false_iff_ne.2 hw
          exact .inr ⟨by unfold isIt; rw [h1]; rfl, .inr ⟨h1, by rw [bne, h1]; rfl⟩⟩
      rcases hcases with ⟨hw, hca⟩ | ⟨hit, hcases⟩
      · have HIt : Hid (isIt word cat o = true) := Lib.hid (by unfold isIt; rw [hw, hca]; simp)
        subst hca
        go_wp2
        go_roundw
        case rel => exact ⟨k + 1, by omega, by go_num, by rw [HKe.out, HIt.out]; simp only [if_true, List.append_nil]; exact HO.out, hb⟩
        case measure => simp [intOf]; omega
      · have HIt := Lib.hid hit
        clear hit
        rcases hcases with ⟨hw1, hw2, hw3⟩ | ⟨hw1, hw2⟩
        all_goals
          go_wp2_with (at_builtin; refine wpList_append_own _ rfl _ _ 51 rfl w1.heap.size 57 i0 _ 3 40 Tryz.underlying51 hi hz0 hz1 hz2 rfl (by decide) _ (keepS word cat (l.take k)).length ((keepS word cat (l.take k)).flatMap entCells) rfl (HO.out.alloc _) ⟨wr.heap.size, 0, none⟩ 1 1 (entCells o) rfl rfl (news_at (heap_alloc_new _ _)) (ent_one _) (by have := HKl.out; unfold maxLen; omega) (by have := HKl.out; omega) (by have := hb.size; simp; omega) ?_)
          intro v' w9 hown9 hgrow _
          have hb9 : Below w1.heap.size w1 w9 := (hb.alloc hb.size _).grown hgrow (by have := hb.size; simp; omega) (fun k hk => (HO.out.lt k hk).1)
          have HO9 := Lib.hid hown9
          clear hown9 hgrow hw1 hw2
          try clear hw3
          go_wp2
          go_roundw
          case rel => exact ⟨k + 1, by omega, by go_num, by rw [HKe.out, HIt.out]; exact ownsR_app (by simp) (by simp) HO9.out, hb9⟩
          case measure => simp [intOf]; omega
    · obtain rfl : k = l.length := by omega
      have hown2 := HO.out
      rw [List.take_length] at hown2
      have HO2 := Lib.hid hown2
      obtain ⟨ao, co, rfl⟩ := owns_form hown2
      obtain ⟨N, hN⟩ : ∃ N, N = (keepS word cat l).length := ⟨_, rfl⟩
      rw [← hN] at HO2 ⊢
      have hNl : N ≤ l.length := by rw [hN]; exact keep_len _ _ _
      by_cases hq : N = l.length
      · have HRR := Lib.hid (removeS_none HB1.out.symm (by rw [← hN]; exact hq) : removeS l word cat = ([], 6))
        have hbq : ((N : Int) == (l.length : Int)) = true := by simp; omega
        clear hq hN hown2
        go_wp2
        go_ret2
        rw [HRR.out]
        exact ⟨_, rfl, World.ownsRow_nil _ _ _ _, hx1.trans (hb.mono hx1.size)⟩
      · have HRR := Lib.hid (removeS_some HB1.out.symm (by rw [← hN]; exact hq) : removeS l word cat = (keepS word cat l, 0))
        have hbq : ((N : Int) == (l.length : Int)) = false := by simp; omega
        have HN := Lib.hid hN
        clear hq hN hown2
        go_wp2
        go_ret2
        rw [HRR.out]
        refine ⟨_, rfl, owns_base (base := w1.heap.size) ?_ hx1.size, hx1.trans (hb.mono hx1.size)⟩
        have := HO2.out
        unfold OwnEntsR at this
        rw [← HN.out] at this ⊢
        exact this
end Go.Proofs.YtakpkaklcjgdkaaGreatDoor
