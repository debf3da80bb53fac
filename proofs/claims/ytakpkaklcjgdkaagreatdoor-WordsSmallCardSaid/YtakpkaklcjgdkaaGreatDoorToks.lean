/-
  Contract of 'tokens' of package words.
-/
import Derived.Test.YtakpkaklcjgdkaaGreatDoorTokens
import Derived.Test.YtakpkaklcjgdkaaGreatDoorLater
namespace Go.Proofs.YtakpkaklcjgdkaaGreatDoor
open Go Go.RowKit

/-- What may stand at place i of a sentence's tokens, its last aside. -/
def tokOk (i : Nat) (t : List UInt8) : Bool := (t != [] && allLetter t) || (i != 0 && t == [44])
def toksTo (l : List (List UInt8)) (k : Nat) : Bool := (List.range k).all fun i => tokOk i (l.getD i [])
/-- Whether texts are the tokens of a sentence. -/
def toksS (l : List (List UInt8)) : Bool := decide (2 ≤ l.length) && (l.getD (l.length - 1) [] == [46] && (l.getD 0 [] == firstS (l.getD 0 []) && toksTo l (l.length - 1)))

theorem toksTo_succ (l : List (List UInt8)) (k : Nat) : toksTo l (k + 1) = (toksTo l k && tokOk k (l.getD k [])) := by
  simp [toksTo, List.range_succ]
theorem toksTo_false {l : List (List UInt8)} {k n : Nat} (h : k < n) (hp : tokOk k (l.getD k []) = false) : toksTo l n = false := by
  rw [toksTo, List.all_eq_false]
  exact ⟨k, by simpa using h, by rw [hp]; simp⟩

theorem toks_short (w : World) (a : Option Addr) (n cap : Nat) (hn : n < 2) :
    Calls Tryz.prog 49 #[.slice a n cap] w fun e w' => e = .returned (.bool false) ∧ Below w.heap.size w w' := by
  go_enter Tryz.func49, Tryz.ntmps49
  have e0 : decide ((n : Int) < 2) = true := by simp; omega
  go_wp2
  refine wp_region_later (by kernel_rfl) (by kernel_rfl) ?_
  repeat (go_big_quiet_step (fail))
  refine wpQuiet_nil ?_
  rintro _ ⟨x, rfl⟩
  go_wp2
  go_ret
  exact ⟨rfl, x.below⟩

set_option maxRecDepth 100000 in
set_option maxHeartbeats 2000000 in
theorem toks_any (W0 w : World) (ht : Tabs W0 w) (v : Value) (l : List (List UInt8)) (hl : StrSlice w v l) (hn : l.length ≤ 1000000) (hs : ∀ t ∈ l, t.length ≤ 1000000) :
    Calls Tryz.prog 49 #[v] w fun e w' => e = .returned (.bool (toksS l)) ∧ Below w.heap.size w w' := by
  obtain ⟨a, cap, rfl, hcap, hcm, hl⟩ := hl
  by_cases h2 : 2 ≤ l.length
  · rcases hl with rfl | ⟨b, off, rfl, hc⟩
    · simp at h2
    have hS : toksS l = (l.getD (l.length - 1) [] == [46] && (l.getD 0 [] == firstS (l.getD 0 []) && toksTo l (l.length - 1))) := by simp [toksS, h2]
    rw [hS]; clear hS
    obtain ⟨t0, ht0⟩ : ∃ t, t = (⟨(l[0]'(by omega)).toArray⟩ : ByteArray) := ⟨_, rfl⟩
    obtain ⟨tl, htl⟩ : ∃ t, t = (⟨(l[l.length - 1]'(by omega)).toArray⟩ : ByteArray) := ⟨_, rfl⟩
    have hc0 := hc 0 (by omega)
    have hcl := hc (l.length - 1) (by omega)
    rw [← ht0] at hc0
    rw [← htl] at hcl
    have hg0 : l.getD 0 [] = t0.data.toList := by rw [ht0]; simp [List.getD_eq_getElem?_getD]; rw [List.getElem?_eq_getElem (by omega)]; rfl
    have hgl : l.getD (l.length - 1) [] = tl.toList := by rw [htl, ByteArray.toList_eq]; simp [List.getD_eq_getElem?_getD]; rw [List.getElem?_eq_getElem (by omega)]; rfl
    rw [hg0, hgl]
    have hs0 : t0.size < 35184372088832 := by rw [ht0, bytes_size]; have := hs _ (List.getElem_mem (show 0 < l.length by omega)); omega
    have HC := Lib.hid hc
    have HS := Lib.hid hs
    clear hc hs hg0 hgl ht0 htl
    rw [show off + (l.length - 1) = off + l.length - 1 by omega] at hcl
    have hcl' : w.cell? ⟨b, off + (l.length - 1), none⟩ = some (.string tl) := by rw [show off + (l.length - 1) = off + l.length - 1 by omega]; exact hcl
    have hc0' : w.cell? ⟨b, off, none⟩ = some (.string t0) := hc0
    have f0 := fun x : Later w => x.get hc0
    have f1 := fun x : Later w => x.get hcl
    have f2 := fun x : Later w => x.get hc0'
    have f3 := fun x : Later w => x.get hcl'
    have e0 : decide ((l.length : Int) < 2) = false := by simp; omega
    have e1 : IntKind.i64.wrap ((l.length : Int) - 1) = (l.length : Int) - 1 := IntWalk.i64_in _ (by omega)
    have e2 : ((l.length : Int) - 1).toNat = l.length - 1 := by omega
    have e3 : (0 : Int) ≤ (l.length : Int) - 1 := by omega
    have e4 : (l.length : Int) - 1 < (l.length : Int) := by omega
    have e5 : 0 < l.length := by omega
    have CF := Lib.hid (fun x : Later w => first_any W0 x.w (ht.next x.below) t0 hs0)
    cases hL : (tl.toList == [46])
    · go_enter Tryz.func49, Tryz.ntmps49
      go_wp2
      refine wp_region_later (by kernel_rfl) (by kernel_rfl) ?_
      repeat (go_big_quiet_step ((go_at_call 46; exact later_call (CF.out _))))
      refine wpQuiet_nil ?_
      rintro _ ⟨x, rfl⟩
      go_wp2
      go_ret
      exact ⟨rfl, x.below⟩
    · cases hF : (t0.data.toList == firstS t0.data.toList)
      · have hF' : (t0.toList == firstS t0.data.toList) = false := by rw [ByteArray.toList_eq]; exact hF
        go_enter Tryz.func49, Tryz.ntmps49
        go_wp2
        refine wp_region_later (by kernel_rfl) (by kernel_rfl) ?_
        repeat (go_big_quiet_step ((go_at_call 46; exact later_call (CF.out _))))
        refine wpQuiet_nil ?_
        rintro _ ⟨x, rfl⟩
        go_wp2
        go_ret
        exact ⟨rfl, x.below⟩
      · have hF' : (t0.toList == firstS t0.data.toList) = true := by rw [ByteArray.toList_eq]; exact hF
        go_enter Tryz.func49, Tryz.ntmps49
        go_wp2
        refine wp_region_later (by kernel_rfl) (by kernel_rfl) ?_
        repeat (go_big_quiet_step ((go_at_call 46; exact later_call (CF.out _))))
        refine wpQuiet_nil ?_
        rintro _ ⟨x, rfl⟩
        clear f0 f1 f2 f3 CF
        go_wp2
        have HX := Lib.hid x.below
        obtain ⟨wx, bx⟩ := x
        simp only at HX ⊢
        go_loop [34] (fun i => ∃ k : Nat, k ≤ l.length - 1 ∧ i = .int .i64 k ∧ toksTo l k = true) (fun i => l.length - (intOf i).toNat)
        case atStart => exact ⟨0, Nat.zero_le _, rfl, by simp [toksTo]⟩
        case round =>
          obtain ⟨k, hk, rfl, ha⟩ := hrel
          have HA := Lib.hid ha
          clear ha
          by_cases hlt : k < l.length - 1
          · obtain ⟨t, htk⟩ : ∃ t, t = (⟨(l[k]'(by omega)).toArray⟩ : ByteArray) := ⟨_, rfl⟩
            have hck := HC.out k (by omega)
            rw [← htk] at hck
            have hck' := cell_kept' HX.out hck
            have hgk : l.getD k [] = t.data.toList := by rw [htk]; simp [List.getD_eq_getElem?_getD]; rw [List.getElem?_eq_getElem (by omega)]; rfl
            have hsk : t.size ≤ 9223372036854775807 := by rw [htk, bytes_size]; have := HS.out _ (List.getElem_mem (show k < l.length by omega)); omega
            have hok : tokOk k (l.getD k []) = ((!(t.toList == []) && allLetter t.data.toList) || (k != 0 && t.toList == [44])) := by rw [hgk, ByteArray.toList_eq]; rfl
            have HG := Lib.hid hgk
            clear hck hgk htk
            have hkk : (k != 0) = !((k : Int) == 0) := by cases k <;> simp <;> omega
            rw [hkk] at hok
            have HOK := Lib.hid hok
            clear hok hkk
            cases hE : (t.toList == []) <;> cases hA : allLetter t.data.toList <;> cases hK : (t.toList == [44]) <;> cases hk0 : ((k : Int) == 0)
            all_goals
              go_wp2_with (go_at_call 77; refine (made_letter t _ hsk).mono ?_; rintro e w' ⟨rfl, rfl⟩)
              first
              | (go_ret
                 exact ⟨ret_bool (by (try simp only [Bool.true_and]); exact (toksTo_false hlt (by rw [HOK.out, hE, hA, hK, hk0]; rfl)).symm), HX.out⟩)
              | (go_round
                 case rel => exact ⟨k + 1, hlt, by go_num, by rw [toksTo_succ, HA.out, HOK.out, hE, hA, hK, hk0]; rfl⟩
                 case measure => simp [intOf]; omega)
          · obtain rfl : k = l.length - 1 := by omega
            go_wp2
            go_ret
            exact ⟨ret_bool (by rw [HA.out]), HX.out⟩
  · have hS : toksS l = false := by simp [toksS, h2]
    rw [hS]
    exact toks_short w _ _ _ (by omega)
end Go.Proofs.YtakpkaklcjgdkaaGreatDoor
