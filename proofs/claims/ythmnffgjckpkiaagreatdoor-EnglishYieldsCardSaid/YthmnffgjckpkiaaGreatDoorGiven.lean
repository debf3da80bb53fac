/-
  Contracts of 'Given' and 'Taken' of the laws, and of 'Same' at any two lexicons.
-/
import Derived.Test.YthmnffgjckpkiaaGreatDoorAppend
namespace Go.Proofs.YthmnffgjckpkiaaGreatDoor
open Go Go.RowKit

/-- The slice value v is the call's own row of entries of the reference's type. -/
def OwnEntsR (w : World) (base : Nat) (v : Value) (l : List Ent) : Prop := w.ownsRow base 72 3 v l.length (l.flatMap entCells)
theorem info_entR : (Tryz.prog.info? 72).map (fun i => (i.zero, i.size, i.bytes)) = some (some (.agg #[.string ByteArray.empty, .int .u8 0, .string ByteArray.empty]), 3, 40) := by kernel_rfl
theorem entSlice_of_rowR {w : World} {base : Nat} {v : Value} {l : List Ent} {t : TypeId} (h : w.ownsRow base t 3 v l.length (l.flatMap entCells)) (hok : ∀ e ∈ l, e.ok) : EntSlice w v l := by
  rcases h.2 with ⟨rfl, h0⟩ | ⟨g, cap, cur, rfl, hbg, hg, hnc, hcm, hcs, htake⟩
  · have : l = [] := List.eq_nil_of_length_eq_zero h0
    subst this
    exact ents_none w
  · refine ⟨⟨_, cap, rfl, hnc, hcm, .inr ⟨g, 0, rfl, (Array.getElem?_eq_some_iff.1 hg).1, fun j hj => ?_⟩⟩, hok⟩
    have hadd : ∀ j, (⟨g, 0, none⟩ : Addr).add j = ⟨g, j, none⟩ := fun j => by unfold Addr.add; split <;> simp_all
    obtain ⟨f0, f1, f2⟩ := flat3 l j hj
    have h0 := h.cells (g := g) rfl (j * 3) _ f0
    have h1 := h.cells (g := g) rfl (j * 3 + 1) _ f1
    have h2 := h.cells (g := g) rfl (j * 3 + 2) _ f2
    rw [hadd] at h0 h1 h2
    rw [Nat.zero_add]
    exact ⟨h0, h1, h2⟩
theorem ents_snoc {l : List Ent} {k : Nat} (h : k < l.length) : (l.take (k + 1)).flatMap entCells = (l.take k).flatMap entCells ++ entCells l[k] ∧ (l.take (k + 1)).length = (l.take k).length + 1 := by
  rw [List.take_succ_eq_append_getElem h, List.flatMap_append, List.length_append]
  simp
theorem ent_one (e : Ent) : ∀ u ∈ entCells e, u.oneCell' = true := by
  intro u hu
  simp [entCells] at hu
  rcases hu with rfl | rfl | rfl <;> rfl

set_option maxRecDepth 100000 in
set_option maxHeartbeats 4000000 in
theorem Given_any (w : World) (v : Value) (l : List Ent) (hl : EntSlice w v l) (hn : l.length ≤ 1000000) :
    Calls Tryz.prog 17 #[v] w fun r w' => ∃ v', r = .returned v' ∧ OwnEntsR w' w.heap.size v' l ∧ Below w.heap.size w w' := by
  obtain ⟨i0, hi, hz0, hz1, hz2⟩ := info_parts info_entR
  obtain ⟨⟨a, cap, rfl, hcap, hcm, hform⟩, hok⟩ := hl
  have HFo := Lib.hid hform
  clear hform hok
  go_enter Tryz.func17, Tryz.ntmps17
  go_wp2
  go_loopw [3, 4] (fun o i wr => ∃ k : Nat, k ≤ l.length ∧ i = .int .i64 k ∧ OwnEntsR wr w.heap.size o (l.take k) ∧ Below w.heap.size w wr) (fun _ i _ => l.length - (intOf i).toNat)
  case atStart => exact ⟨0, Nat.zero_le _, rfl, World.ownsRow_nil _ _ _ _, Below.refl _ _⟩
  case round =>
    obtain ⟨k, hk, rfl, hown, hb⟩ := hrel
    have HO := Lib.hid hown
    clear hown
    by_cases hlt : k < l.length
    · rcases HFo.out with h0 | ⟨b, off, rfl, hbl, hc⟩
      · rw [h0] at hlt; exact absurd hlt (by simp)
      obtain ⟨c0, c1, c2⟩ := hc k hlt
      obtain ⟨hs1, hs2⟩ := ents_snoc hlt
      obtain ⟨e, he⟩ : ∃ e, e = l[k] := ⟨_, rfl⟩
      rw [← he] at c0 c1 c2 hs1
      have c0 := cell_kept' hb c0
      have c1 := cell_kept' hb c1
      have c2 := cell_kept' hb c2
      have HS1 := Lib.hid hs1
      have HS2 := Lib.hid hs2
      have htk : (l.take k).length = k := by rw [List.length_take]; omega
      have HTk := Lib.hid htk
      clear he hs1 hs2 hc htk
      go_wp2_with (at_builtin; refine wpList_append_own _ rfl _ _ 32 rfl w.heap.size 72 i0 _ 3 40 Tryz.underlying32 hi hz0 hz1 hz2 rfl (by decide) _ (l.take k).length ((l.take k).flatMap entCells) rfl (HO.out.alloc _) ⟨wr.heap.size, 0, none⟩ 1 1 (entCells e) rfl rfl (news_at (heap_alloc_new _ _)) (ent_one _) (by rw [HTk.out]; unfold maxLen; omega) (by rw [HTk.out]; omega) (by have := hb.size; simp; omega) ?_)
      intro v' w2 hown2 hgrow _
      have hb2 : Below w.heap.size w w2 := (hb.alloc hb.size _).grown hgrow (by have := hb.size; simp; omega) (fun k hk => (HO.out.lt k hk).1)
      have HO2 := Lib.hid hown2
      clear hown2 hgrow
      go_wp2
      go_roundw
      case rel => exact ⟨k + 1, by omega, by go_num, by unfold OwnEntsR; rw [HS1.out, HS2.out, HTk.out]; exact HO2.out, hb2⟩
      case measure => simp [intOf]; omega
    · obtain rfl : k = l.length := by omega
      go_wp2
      go_ret
      exact ⟨_, rfl, by have := HO.out; rw [List.take_length] at this; exact this, hb⟩

end Go.Proofs.YthmnffgjckpkiaaGreatDoor
