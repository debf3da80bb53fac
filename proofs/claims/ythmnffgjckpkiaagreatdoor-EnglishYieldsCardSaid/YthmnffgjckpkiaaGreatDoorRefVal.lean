/-
  Contracts of the reference's 'Proper', 'Right', 'ahead', 'clash' and 'Valid'.
-/
import Derived.Test.YthmnffgjckpkiaaGreatDoorRefEnt
import Derived.Test.YthmnffgjckpkiaaGreatDoorTellsE
namespace Go.Proofs.YthmnffgjckpkiaaGreatDoor
open Go Go.RowKit

theorem allSmall_of (l : List UInt8) : allSmall l = allOf smallI l := rfl
theorem proper_of {s : ByteArray} (h : 0 < s.size) (h2 : s.size ≤ 16) : properS s.data.toList = (capitalI s[0].toNat && allOf smallI s.data.toList.tail) := by
  unfold properS
  rw [headD_get h, len_data, allSmall_of]
  have e1 : decide (1 ≤ s.size ∧ s.size ≤ 16) = true := by simp; omega
  have e2 : (letterI s[0].toNat && !smallI s[0].toNat) = capitalI s[0].toNat := by
    unfold letterI smallI capitalI; rw [Bool.eq_iff_iff]; simp; omega
  rw [e1, Bool.true_and, ← Bool.and_assoc, e2]
theorem proper_len {s : ByteArray} (h : ¬ (0 < s.size ∧ s.size ≤ 16)) : properS s.data.toList = false := by
  unfold properS
  rw [len_data]
  have e1 : decide (1 ≤ s.size ∧ s.size ≤ 16) = false := by simp; omega
  rw [e1]; rfl
theorem proper_tail {s : ByteArray} (h : allOf smallI s.data.toList.tail = false) : properS s.data.toList = false := by
  unfold properS
  rw [allSmall_of, h]; simp
set_option maxHeartbeats 1000000 in
theorem rProper_any (s : ByteArray) (w : World) (hs : s.size ≤ 9223372036854775807) :
    Calls Tryz.prog 105 #[.string s] w fun e w' => e = .returned (.bool (properS s.data.toList)) ∧ w = w' := by
  go_enter Tryz.func105, Tryz.ntmps105
  go_wp2
  go_loop [3] (fun i => ∃ k : Nat, 1 ≤ k ∧ k ≤ s.size + 1 ∧ i = .int .i64 k ∧ From1 smallI s k) (fun i => s.size + 1 - (intOf i).toNat)
  case atStart => exact ⟨1, by omega, by omega, rfl, fun j _ h1 h2 => by omega⟩
  case round =>
    obtain ⟨k, h1, hk, rfl, ha⟩ := hrel
    have HA := Lib.hid ha
    clear ha
    by_cases hlt : k < s.size
    · go_wp2_with (go_at_call 109; refine (rsmall_any _ _).mono ?_; rintro e w' ⟨rfl, rfl⟩)
      · have hp : (!smallI ↑s[k].toNat) = true := by assumption
        go_ret
        have h0 := tail_bad (p := smallI) h1 hlt (by simpa using hp)
        exact ⟨ret_bool (by rw [proper_tail h0]), rfl⟩
      · have hp : (!smallI ↑s[k].toNat) = false := by assumption
        go_round
        case rel => exact ⟨k + 1, by omega, by omega, by go_num, from1_more HA.out hlt (by simpa using hp)⟩
        case measure => simp [intOf]; omega
    · have hall := tail_all (p := smallI) (s := s) (fun j hj h2 _ => HA.out j hj h2 (by omega))
      have HAll := Lib.hid hall
      clear hall
      by_cases h3 : 0 < s.size
      · have h3' : 1 ≤ s.size := h3
        by_cases h4 : s.size ≤ 16
        · have HP := Lib.hid (proper_of h3 h4)
          go_wp2_with (go_at_call 110; refine (rcapital_any _ _).mono ?_; rintro e w' ⟨rfl, rfl⟩)
          go_ret
          exact ⟨ret_bool (by rw [HP.out, HAll.out, Bool.and_true]), rfl⟩
        · have HP := Lib.hid (proper_len (s := s) (by omega))
          go_wp2
          go_ret
          exact ⟨ret_bool (by rw [HP.out]), rfl⟩
      · have HP := Lib.hid (proper_len (s := s) (by omega))
        go_wp2
        go_ret
        exact ⟨ret_bool (by rw [HP.out]), rfl⟩

set_option maxRecDepth 100000 in
set_option maxHeartbeats 2000000 in
theorem rRight_any (w : World) (e : Ent) (he : e.ok) :
    Calls Tryz.prog 66 #[.agg #[.string e.word, .int .u8 e.cat, .string e.sym]] w fun r w' => r = .returned (.bool (rightS e)) ∧ Below w.heap.size w w' := by
  obtain ⟨hw, hsy⟩ := he
  have hw' : e.word.size ≤ 9223372036854775807 := by unfold maxLen at hw; omega
  have hs' : e.sym.size ≤ 9223372036854775807 := by unfold maxLen at hsy; omega
  obtain ⟨word, c, sym⟩ := e
  simp only at hw hsy hw' hs' ⊢
  have hB : Below w.heap.size w (w.alloc (.cells #[.string word, .int .u8 c, .string sym] 72)) := (Below.refl _ _).alloc (Nat.le_refl _) _
  by_cases h3 : c = 3
  · subst h3
    have hr : rightS ⟨word, 3, sym⟩ = (properS word.data.toList && nameS fnI sym.data.toList) := by simp [rightS, Ent.w, Ent.s]
    rw [hr]; clear hr
    go_enter Tryz.func66, Tryz.ntmps66
    go_wp2_with (first
      | (go_at_call 105; refine (rProper_any _ _ hw').mono ?_; rintro e w' ⟨rfl, rfl⟩)
      | (go_at_call 106; refine (rSynFunction_any _ _ hs').mono ?_; rintro e w' ⟨rfl, rfl⟩))
    · have hp : properS word.data.toList = true := by assumption
      go_ret
      exact ⟨ret_bool (by rw [hp]; rfl), hB⟩
    · have hp : ¬ properS word.data.toList = true := by assumption
      go_ret
      exact ⟨ret_bool (by rw [eq_false_of_ne_true hp]; rfl), hB⟩
  · by_cases h4 : c = 1 ∨ c = 2 ∨ c = 4 ∨ c = 5
    · have hr : rightS ⟨word, c, sym⟩ = (plainS word.data.toList && (!isFn word.data.toList && nameS capI sym.data.toList)) := by simp [rightS, Ent.w, Ent.s, h3, h4]
      rw [hr]; clear hr h3
      rcases h4 with rfl | rfl | rfl | rfl
      all_goals
        go_enter Tryz.func66, Tryz.ntmps66
        go_wp2_with (first
          | (go_at_call 107; refine (rPlain_any _ _ hw').mono ?_; rintro e w' ⟨rfl, rfl⟩)
          | (go_at_call 70; refine (rFunction_any _ _).mono ?_; rintro e w1 ⟨rfl, rfl⟩)
          | (go_at_call 108; refine (rPredicate_any _ _ hs').mono ?_; rintro e w2 ⟨rfl, rfl⟩))
        · have hp : plainS word.data.toList = true := by assumption
          have hq : isFn word.data.toList = true := by assumption
          go_ret
          exact ⟨ret_bool (by rw [hp, hq]; rfl), hB⟩
        · have hp : plainS word.data.toList = true := by assumption
          have hq : ¬ isFn word.data.toList = true := by assumption
          go_ret
          exact ⟨ret_bool (by rw [hp, eq_false_of_ne_true hq]; rfl), hB⟩
        · have hp : ¬ plainS word.data.toList = true := by assumption
          go_ret
          exact ⟨ret_bool (by rw [eq_false_of_ne_true hp]; rfl), hB⟩
    · have hr : rightS ⟨word, c, sym⟩ = false := by simp [rightS, h3, h4]
      rw [hr]; clear hr
      have e1 : (c == 3) = false := by simpa using h3
      have e2 : (c == 1) = false := by simp; omega
      have e3 : (c == 2) = false := by simp; omega
      have e4 : (c == 4) = false := by simp; omega
      have e5 : (c == 5) = false := by simp; omega
      clear h3 h4
      go_enter Tryz.func66, Tryz.ntmps66
      go_wp2
      go_ret
      exact ⟨rfl, hB⟩

set_option maxHeartbeats 1000000 in
theorem rahead_any (w : World) (a b : Ent) :
    Calls Tryz.prog 67 #[.agg #[.string a.word, .int .u8 a.cat, .string a.sym], .agg #[.string b.word, .int .u8 b.cat, .string b.sym]] w fun e w' => e = .returned (.bool (aheadS a b)) ∧ Below w.heap.size w w' := by
  obtain ⟨aw, ac, as'⟩ := a
  obtain ⟨bw, bc, bs⟩ := b
  simp only [aheadS, Ent.w]
  go_enter Tryz.func67, Tryz.ntmps67
  go_wp2
  all_goals
    go_ret
    refine ⟨ret_bool ?_, ((Below.refl _ _).alloc (Nat.le_refl _) _).alloc (by simp) _⟩
    rw [← ByteArray.toList_eq, ← ByteArray.toList_eq]
    simp_all

theorem any_succ {p : Ent → Bool} {l : List Ent} {k : Nat} (h : k < l.length) (h0 : (l.take k).any p = false) (h1 : p l[k] = false) : (l.take (k + 1)).any p = false := by
  rw [List.take_succ_eq_append_getElem h, List.any_append, h0]; simp [h1]
theorem any_at {p : Ent → Bool} {l : List Ent} {k : Nat} (h : k < l.length) (h1 : p l[k] = true) : l.any p = true := by
  rw [List.any_eq_true]; exact ⟨l[k], List.getElem_mem h, h1⟩
set_option maxRecDepth 100000 in
set_option maxHeartbeats 4000000 in
theorem rclash_any (w : World) (v : Value) (l : List Ent) (hl : EntSlice w v l) (e : Ent) :
    Calls Tryz.prog 68 #[v, .agg #[.string e.word, .int .u8 e.cat, .string e.sym]] w fun r w' => r = .returned (.bool (l.any fun o => clashS o e)) ∧ Below w.heap.size w w' := by
  obtain ⟨⟨a, cap, rfl, hcap, hcm, hform⟩, _⟩ := hl
  have HFo := Lib.hid hform
  clear hform
  have hlm : l.length ≤ 9223372036854775807 := by unfold maxLen at hcm; omega
  have hBb : Below w.heap.size w (w.alloc (.cells #[.string e.word, .int .u8 e.cat, .string e.sym] 72)) := (Below.refl _ _).alloc (Nat.le_refl _) _
  have d1 : (w.alloc (.cells #[.string e.word, .int .u8 e.cat, .string e.sym] 72)).cell? ⟨w.heap.size, 1, none⟩ = some (.int .u8 e.cat) := by simp
  have d2 : (w.alloc (.cells #[.string e.word, .int .u8 e.cat, .string e.sym] 72)).cell? ⟨w.heap.size, 2, none⟩ = some (.string e.sym) := by simp
  go_enter Tryz.func68, Tryz.ntmps68
  go_wp2
  obtain ⟨W1, hW1⟩ : ∃ W1, W1 = w.alloc (.cells #[.string e.word, .int .u8 e.cat, .string e.sym] 72) := ⟨_, rfl⟩
  rw [← hW1] at hBb d1 d2 ⊢
  clear hW1
  go_loopw [5] (fun i wr => ∃ k : Nat, k ≤ l.length ∧ i = .int .i64 k ∧ (l.take k).any (fun o => clashS o e) = false ∧ Below W1.heap.size W1 wr) (fun i _ => l.length - (intOf i).toNat)
  case atStart => exact ⟨0, Nat.zero_le _, rfl, rfl, Below.refl _ _⟩
  case round =>
    obtain ⟨k, hk, rfl, ha, hb⟩ := hrel
    have HA := Lib.hid ha
    clear ha
    by_cases hlt : k < l.length
    · rcases HFo.out with h0 | ⟨b, off, rfl, hbl, hc⟩
      · rw [h0] at hlt; exact absurd hlt (by simp)
      obtain ⟨_, c1, c2⟩ := hc k hlt
      have HS := Lib.hid (fun h => any_succ (p := fun o => clashS o e) hlt HA.out h)
      have HT := Lib.hid (fun h => any_at (p := fun o => clashS o e) hlt h)
      obtain ⟨o, ho⟩ : ∃ o, o = l[k] := ⟨_, rfl⟩
      rw [← ho] at c1 c2 HS HT
      have c1 := cell_kept' hb (cell_kept' hBb c1)
      have c2 := cell_kept' hb (cell_kept' hBb c2)
      have p1 := cell_kept' hb d1
      have p2 := cell_kept' hb d2
      have f0 := fun x : Later wr => x.get c1
      have f1 := fun x : Later wr => x.get c2
      have f2 := fun x : Later wr => x.get p1
      have f3 := fun x : Later wr => x.get p2
      have e3 : (k : Int) < (l.length : Int) := by omega
      have e5 : (0 : Int) ≤ k := by omega
      have hsB : (o.s == e.s) = (o.sym.toList == e.sym.toList) := by unfold Ent.s; rw [ByteArray.toList_eq, ByteArray.toList_eq]
      have HSy := Lib.hid hsB
      clear hc ho hsB
      by_cases hs : o.sym.toList = e.sym.toList
      · have HSe := Lib.hid hs
        cases h3 : (o.cat == 3)
        · cases g3 : (e.cat == 3)
          · cases h5 : (o.cat == 5)
            all_goals cases g5 : (e.cat == 5)
            all_goals
              have n5 : (o.cat != 5) = !(o.cat == 5) := rfl
              have m5 : (e.cat != 5) = !(e.cat == 5) := rfl
              rw [h5] at n5
              rw [g5] at m5
              go_wp2
              refine wp_region_later (by kernel_rfl) (by kernel_rfl) ?_
              repeat (go_big_quiet_step (fail))
              refine wpQuiet_nil ?_
              rintro _ ⟨x, rfl⟩
              go_wp2
              first
                | (go_ret
                   exact ⟨ret_bool (HT.out (by simp [clashS, HSy.out, HSe.out, bne, h3, g3, h5, g5])).symm, hBb.trans ((hb.trans (x.below.mono hb.size)).mono hBb.size)⟩)
                | (go_roundw
                   case rel => exact ⟨k + 1, by omega, by go_num, HS.out (by simp [clashS, HSy.out, HSe.out, bne, h3, g3, h5, g5]), hb.trans (x.below.mono hb.size)⟩
                   case measure => simp [intOf]; omega)
          · go_wp2
            refine wp_region_later (by kernel_rfl) (by kernel_rfl) ?_
            repeat (go_big_quiet_step (fail))
            refine wpQuiet_nil ?_
            rintro _ ⟨x, rfl⟩
            go_wp2
            go_roundw
            case rel => exact ⟨k + 1, by omega, by go_num, HS.out (by simp [clashS, HSy.out, HSe.out, bne, h3, g3]), hb.trans (x.below.mono hb.size)⟩
            case measure => simp [intOf]; omega
        · go_wp2
          refine wp_region_later (by kernel_rfl) (by kernel_rfl) ?_
          repeat (go_big_quiet_step (fail))
          refine wpQuiet_nil ?_
          rintro _ ⟨x, rfl⟩
          go_wp2
          go_roundw
          case rel => exact ⟨k + 1, by omega, by go_num, HS.out (by simp [clashS, HSy.out, HSe.out, bne, h3]), hb.trans (x.below.mono hb.size)⟩
          case measure => simp [intOf]; omega
      · have HSe := Lib.hid hs
        have hs1 : (o.sym.toList == e.sym.toList) = false := beq_eq_false_iff_ne.2 hs
        have hs2 : (o.sym.toList != e.sym.toList) = true := by rw [bne, hs1]; rfl
        go_wp2
        refine wp_region_later (by kernel_rfl) (by kernel_rfl) ?_
        repeat (go_big_quiet_step (fail))
        refine wpQuiet_nil ?_
        rintro _ ⟨x, rfl⟩
        go_wp2
        go_roundw
        case rel => exact ⟨k + 1, by omega, by go_num, HS.out (by simp [clashS, HSy.out, beq_eq_false_iff_ne.2 HSe.out]), hb.trans (x.below.mono hb.size)⟩
        case measure => simp [intOf]; omega
    · obtain rfl : k = l.length := by omega
      go_wp2
      go_ret
      exact ⟨ret_bool (by have := HA.out; rw [List.take_length] at this; exact this.symm), hBb.trans (hb.mono hBb.size)⟩
end Go.Proofs.YthmnffgjckpkiaaGreatDoor
