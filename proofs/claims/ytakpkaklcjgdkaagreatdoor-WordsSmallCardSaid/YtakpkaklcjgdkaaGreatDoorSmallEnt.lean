/-
  Contract of 'entries' of the laws.
-/
import Derived.Test.YtakpkaklcjgdkaaGreatDoorLawTells
import Derived.IntWalk
namespace Go.Proofs.YtakpkaklcjgdkaaGreatDoor
open Go Go.RowKit

attribute [local go_sem ↓] Go.wp_at_zero Go.wp_at_succ

def isStrB (M : Nat) (u : Value) : Bool := match u with | .string s => decide (s.size ≤ M) | _ => false
theorem one_below' {B : Nat} (w : World) (o : Obj) (h : B ≤ w.heap.size) : Below B w (w.alloc o).drew := ((Below.refl _ _).alloc h _).drew
/-- Texts of a block. -/
def Strs (w : World) (g n M : Nat) : Prop := ∀ j, j < n → ∃ s : ByteArray, w.cell? ⟨g, j, none⟩ = some (.string s) ∧ s.size ≤ M
theorem str_cells {w : World} {g n M : Nat} {cs : Array Value} {t : TypeId} {fr : Nat × Nat} (h : w.heap[g]? = some (.cells cs t fr)) (hs : (decide (cs.size = n) && cs.toList.all (isStrB M)) = true) : Strs w g n M := by
  simp only [Bool.and_eq_true, decide_eq_true_eq] at hs
  obtain ⟨hn, hs⟩ := hs
  intro j hj
  rw [← hn] at hj
  have h1 : cs[j]? = some cs[j] := Array.getElem?_eq_getElem hj
  have h2 : isStrB M cs[j] = true := List.all_eq_true.1 hs _ (by simp)
  rw [cell_of_row w g j cs t fr h, h1]
  generalize cs[j] = u at h2
  cases u <;> simp [isStrB] at h2
  exact ⟨_, rfl, h2⟩

theorem two_fst' (w : World) (o o' : Obj) : ((w.alloc o).alloc o').heap[w.heap.size]? = some o := by
  have h : ((w.alloc o).alloc o').heap[w.heap.size]? = (w.alloc o).heap[w.heap.size]? := ((Below.refl _ _).alloc (Nat.le_refl _) o' : Below (w.alloc o).heap.size _ _).block _ (by simp)
  exact h.trans (heap_alloc_new w o)
theorem two_snd' (w : World) (o o' : Obj) : ((w.alloc o).alloc o').heap[w.heap.size + 1]? = some o' := by
  have h := heap_alloc_new (w.alloc o) o'
  have e : (w.alloc o).heap.size = w.heap.size + 1 := by simp
  rw [e] at h
  exact h

set_option maxRecDepth 100000 in
set_option maxHeartbeats 16000000 in
theorem entries_any (W0 w : World) (ht : Tabs W0 w) :
    Calls Tryz.prog 11 #[] w fun r w' => r = .returned (.bool true) ∧ Below w.heap.size w w' := by
  go_enter Tryz.func11, Tryz.ntmps11
  go_wp2
  refine (show ∀ W : World, Below w.heap.size w W → w.heap.size + 2 ≤ W.heap.size → Strs W w.heap.size 12 17 → Strs W (w.heap.size + 1) 7 17 → Code.wp _ _ _ _ W from ?_) _ ((((Below.refl _ _).alloc (Nat.le_refl _) _).alloc (by simp) _)) (by simp) ?_ ?_
  rotate_left
  · exact str_cells (n := 12) (two_fst' _ _ _) (by decide)
  · exact str_cells (n := 7) (two_snd' _ _ _) (by decide)
  intro W hx hsz hn1 hn2
  have HN1 := Lib.hid hn1
  have HN2 := Lib.hid hn2
  clear hn1 hn2
  go_loopw [3] (fun i wr => ∃ k : Nat, k ≤ 588 ∧ i = .int .i64 k ∧ Below W.heap.size W wr) (fun i _ => 588 - (intOf i).toNat)
  case atStart => exact ⟨0, by omega, rfl, Below.refl _ _⟩
  case round =>
    obtain ⟨k, hk, rfl, hb⟩ := hrel
    by_cases hlt : k < 588
    · obtain ⟨s1, h1, hs1⟩ := HN1.out (k / 7 % 12) (by omega)
      obtain ⟨s2, h2, hs2⟩ := HN2.out (k / 84) (by omega)
      have h1 := cell_kept' hb h1
      have h2 := cell_kept' hb h2
      have t1 : Int.tdiv (k : Int) 7 = (k : Int) / 7 := Int.tdiv_eq_ediv_of_nonneg (by omega)
      have t2 : Int.tmod ((k : Int) / 7) 12 = (k : Int) / 7 % 12 := Int.tmod_eq_emod_of_nonneg (by omega)
      have t3 : Int.tdiv (k : Int) 84 = (k : Int) / 84 := Int.tdiv_eq_ediv_of_nonneg (by omega)
      have t4 : IntKind.i64.wrap ((k : Int) / 7) = (k : Int) / 7 := IntWalk.i64_in _ (by omega)
      have t5 : IntKind.i64.wrap ((k : Int) / 84) = (k : Int) / 84 := IntWalk.i64_in _ (by omega)
      have t6 : IntKind.i64.wrap ((k : Int) / 7 % 12) = (k : Int) / 7 % 12 := IntWalk.i64_in _ (by omega)
      have t7 : ((k : Int) / 7 % 12).toNat = k / 7 % 12 := by omega
      have t8 : ((k : Int) / 84).toNat = k / 84 := by omega
      have t9 : (0 : Int) ≤ (k : Int) / 7 % 12 := by omega
      have t10 : (k : Int) / 7 % 12 < 12 := by omega
      have t11 : (0 : Int) ≤ (k : Int) / 84 := by omega
      have t12 : (k : Int) / 84 < 7 := by omega
      go_wp2
      go_region_held3 (fun w' => w'.cell? ⟨w.heap.size, k / 7 % 12, none⟩ = some (.string s1) ∧ w'.cell? ⟨w.heap.size + 1, k / 84, none⟩ = some (.string s2)) (go_keep) (fail)
      clear t1 t2 t3 t4 t5 t6 t7 t8 t9 t10 t11 t12 h1 h2
      go_wp2_with fail
      obtain ⟨wo, rfl⟩ : ∃ wo : World, wo = wr := ⟨_, rfl⟩
      obtain ⟨c, hc⟩ : ∃ c : Int, c = (k : Int) % 7 := ⟨_, rfl⟩
      rw [← hc]
      have he : Ent.ok ⟨s1, c, s2⟩ := ⟨by unfold maxLen; show s1.size ≤ _; omega, by unfold maxLen; show s2.size ≤ _; omega⟩
      have HEo := Lib.hid he
      clear hc he
      refine (show ∀ W3 : World, Below wo.heap.size wo W3 → wo.heap.size + 1 ≤ W3.heap.size → W3.cell? ⟨wo.heap.size, 0, none⟩ = some (.string s1) → W3.cell? ⟨wo.heap.size, 1, none⟩ = some (.int .u8 c) → W3.cell? ⟨wo.heap.size, 2, none⟩ = some (.string s2) → Code.wp _ _ _ _ W3 from ?_) _ (one_below' _ _ (Nat.le_refl _)) (by simp) (by simp) (by simp) (by simp)
      intro W3 hb3 hsz3 q0 q1 q2
      have hbW3 := hb.trans (hb3.mono hb.size)
      go_loopw [5] (fun i wr => ∃ m : Nat, m ≤ 14 ∧ i = .int .i64 m ∧ Below W3.heap.size W3 wr) (fun i _ => 15 - (intOf i).toNat)
      case atStart => exact ⟨k % 3, by omega, by go_num, Below.refl _ _⟩
      case round =>
        obtain ⟨m, hm, rfl, hb4⟩ := hrel
        by_cases hlm : m < 12
        · obtain ⟨s3, h3, hs3⟩ := HN1.out m hlm
          have h3 := cell_kept' hb4 (cell_kept' hbW3 h3)
          have q0 := cell_kept' hb4 q0
          have q1 := cell_kept' hb4 q1
          have q2 := cell_kept' hb4 q2
          have hxw := hx.trans ((hbW3.trans (hb4.mono hbW3.size)).mono hx.size)
          have CE : Hid (∀ W, Below wr.heap.size wr W → Calls Tryz.prog 25 #[] W fun r W' => ∃ v, r = .returned v ∧ EntSlice W' v exampleL ∧ Below wr.heap.size wr W') := Lib.hid (fun W hW => (Example_any W).mono fun r W' ⟨v, h1, h2, h3⟩ => ⟨v, h1, h2, hW.trans (h3.mono hW.size)⟩)
          have CT1 : Hid (∀ W v, Below wr.heap.size wr W → EntSlice W v exampleL → Calls Tryz.prog 9 #[v, .agg #[.string s1, .int .u8 c, .string s2], .string s3] W fun r W' => r = .returned (.bool true) ∧ Below wr.heap.size wr W') := Lib.hid (fun W v hW hv => (tells_any W0 W (ht.next (hxw.trans (hW.mono hxw.size))) v exampleL hv (by decide) ⟨s1, c, s2⟩ HEo.out s3).mono fun r W' ⟨h1, h2⟩ => ⟨h1, hW.trans (h2.mono hW.size)⟩)
          have CT2 : Hid (∀ W v d, Below wr.heap.size wr W → EntSlice W v [⟨s1, c, s2⟩] → Calls Tryz.prog 9 #[v, .agg #[.string ⟨#[112, 108, 97, 121]⟩, .int .u8 d, .string ⟨#[66, 111, 111, 107]⟩], .string s3] W fun r W' => r = .returned (.bool true) ∧ Below wr.heap.size wr W') := Lib.hid (fun W v d hW hv => (tells_any W0 W (ht.next (hxw.trans (hW.mono hxw.size))) v _ hv (by simp) ⟨⟨#[112, 108, 97, 121]⟩, d, ⟨#[66, 111, 111, 107]⟩⟩ ⟨by show (4 : Nat) ≤ maxLen; decide, by show (4 : Nat) ≤ maxLen; decide⟩ s3).mono fun r W' ⟨h1, h2⟩ => ⟨h1, hW.trans (h2.mono hW.size)⟩)
          have hdr : Below wr.heap.size wr wr.drew := (Below.refl _ _).drew
          have T1 : True := trivial
          have T2 : True := trivial
          have e3 : (m : Int) < 12 := by omega
          have e5 : (0 : Int) ≤ m := by omega
          go_wp2
          go_region_held3 (fun w' => w'.cell? ⟨wo.heap.size, 0, none⟩ = some (.string s1) ∧ w'.cell? ⟨wo.heap.size, 1, none⟩ = some (.int .u8 c) ∧ w'.cell? ⟨wo.heap.size, 2, none⟩ = some (.string s2) ∧ w'.cell? ⟨w.heap.size, m, none⟩ = some (.string s3))
            (first | go_keep | exact ⟨cell_kept' (by assumption) q0, cell_kept' (by assumption) q1, cell_kept' (by assumption) q2, cell_kept' (by assumption) h3⟩ | exact ⟨cell_kept' (hW2.alloc hW2.size _) q0, cell_kept' (hW2.alloc hW2.size _) q1, cell_kept' (hW2.alloc hW2.size _) q2, cell_kept' (hW2.alloc hW2.size _) h3⟩)
            (first
              | (go_at_call 25; refine (CE.out _ (by assumption)).mono ?_; rintro r W1 ⟨vE, rfl, hvE, hW1⟩)
              | (go_at_call 9; have _t := T1; refine (CT1.out _ _ (by assumption) hvE).mono ?_; rintro r W2 ⟨rfl, hW2⟩; clear T1 _t)
              | (go_at_call 9; refine (CT2.out _ _ _ (hW2.alloc hW2.size _) (ents_one_block (e := ⟨s1, c, s2⟩) HEo.out (heap_alloc_new _ _))).mono ?_; rintro r W4 ⟨rfl, hW4⟩; clear T2))
          go_wp2
          go_roundw
          case rel => exact ⟨m + 3, by omega, by go_num, hb4.trans (hW4.mono hb4.size)⟩
          case measure => simp [intOf]; omega
        · go_wp2
          go_roundw
          case rel => exact ⟨k + 1, by omega, by go_num, hbW3.trans (hb4.mono hbW3.size)⟩
          case measure => simp [intOf]; omega
    · go_wp2
      go_ret
      exact ⟨rfl, hx.trans (hb.mono hx.size)⟩
end Go.Proofs.YtakpkaklcjgdkaaGreatDoor
