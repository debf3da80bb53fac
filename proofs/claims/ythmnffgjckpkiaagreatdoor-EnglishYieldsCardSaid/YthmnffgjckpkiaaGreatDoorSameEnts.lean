/-
  A lexicon of the call's own as the walks read it; contract of 'Same' of the laws at two equal lexicons.
-/
import Derived.Test.YthmnffgjckpkiaaGreatDoorEntsE
namespace Go.Proofs.YthmnffgjckpkiaaGreatDoor
open Go Go.RowKit

theorem entSlice_of_owns {w : World} {base : Nat} {v : Value} {l : List Ent} (h : OwnEnts w base v l) (hok : ∀ e ∈ l, e.ok) : EntSlice w v l := by
  rcases h.2 with ⟨rfl, h0⟩ | ⟨g, cap, cur, rfl, hbg, hg, hnc, hcm, hcs, htake⟩
  · have : l = [] := List.eq_nil_of_length_eq_zero h0
    subst this
    exact ents_none w
  · refine ⟨⟨_, cap, rfl, hnc, hcm, .inr ⟨g, 0, rfl, (Array.getElem?_eq_some_iff.1 hg).1, fun j hj => ?_⟩⟩, hok⟩
    have hadd : ∀ j, (⟨g, 0, none⟩ : Addr).add j = ⟨g, j, none⟩ := fun j => by unfold Addr.add; split <;> simp_all
    obtain ⟨f0, f1, f2⟩ := flat3 l j hj
    have h0 := h.cells (g := g) rfl (j * 3) _ f0
    have h1 := h.cells (g := g) rfl (j * 3 + 1) _ f1
    have h2 := h.cells (g := g) rfl (j * 3 + 2) _ f2
    rw [hadd] at h0 h1 h2
    rw [Nat.zero_add]
    exact ⟨h0, h1, h2⟩

set_option maxRecDepth 100000 in
set_option maxHeartbeats 1000000 in
theorem Same_eq (w : World) (va vb : Value) (l : List Ent) (ha : EntSlice w va l) (hb : EntSlice w vb l) :
    Calls Tryz.prog 46 #[va, vb] w fun e w' => e = .returned (.bool true) ∧ Below w.heap.size w w' := by
  obtain ⟨⟨a, cap, rfl, hcap, hcm, ha⟩, _⟩ := ha
  obtain ⟨⟨b, cap', rfl, hcap', hcm', hb⟩, _⟩ := hb
  have hlm : l.length ≤ 9223372036854775807 := by unfold maxLen at hcm; omega
  have HA := Lib.hid ha
  have HB := Lib.hid hb
  clear ha hb hcm hcm'
  go_enter Tryz.func46, Tryz.ntmps46
  go_wp2
  go_loopw [5] (fun i wr => ∃ k : Nat, k ≤ l.length ∧ i = .int .i64 k ∧ Below w.heap.size w wr) (fun i _ => l.length - (intOf i).toNat)
  case atStart => exact ⟨0, Nat.zero_le _, rfl, Below.refl _ _⟩
  case round =>
    obtain ⟨k, hk, rfl, hbw⟩ := hrel
    by_cases hlt : k < l.length
    · rcases HA.out with h0 | ⟨ga, oa, rfl, _, ca⟩
      · rw [h0] at hlt; exact absurd hlt (by simp)
      rcases HB.out with h0 | ⟨gb, ob, rfl, _, cb⟩
      · rw [h0] at hlt; exact absurd hlt (by simp)
      obtain ⟨a0, a1, a2⟩ := ca k hlt
      obtain ⟨b0, b1, b2⟩ := cb k hlt
      obtain ⟨e, he⟩ : ∃ e, e = l[k] := ⟨_, rfl⟩
      rw [← he] at a0 a1 a2 b0 b1 b2
      have f0 := fun x : Later wr => x.get (cell_kept' hbw a0)
      have f1 := fun x : Later wr => x.get (cell_kept' hbw a1)
      have f2 := fun x : Later wr => x.get (cell_kept' hbw a2)
      have g0 := fun x : Later wr => x.get (cell_kept' hbw b0)
      have g1 := fun x : Later wr => x.get (cell_kept' hbw b1)
      have g2 := fun x : Later wr => x.get (cell_kept' hbw b2)
      have e3 : (k : Int) < (l.length : Int) := by omega
      have e5 : (0 : Int) ≤ k := by omega
      clear ca cb he a0 a1 a2 b0 b1 b2
      go_wp2
      refine wp_region_later (by kernel_rfl) (by kernel_rfl) ?_
      repeat (go_big_quiet_step (fail))
      refine wpQuiet_nil ?_
      rintro _ ⟨x, rfl⟩
      go_wp2
      go_roundw
      case rel => exact ⟨k + 1, by omega, by go_num, hbw.trans (x.below.mono hbw.size)⟩
      case measure => simp [intOf]; omega
    · go_wp2
      go_ret
      exact ⟨rfl, hbw⟩
end Go.Proofs.YthmnffgjckpkiaaGreatDoor
