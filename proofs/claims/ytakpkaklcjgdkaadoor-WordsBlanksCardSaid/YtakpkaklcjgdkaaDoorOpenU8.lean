/-
  A slice of bytes that came in, opened.
-/
import Derived.Test.YtakpkaklcjgdkaaDoorKeep
import Derived.Test.YtakpkaklcjgdkaaDoorLawBlanks
import Derived.ChangeSlices
namespace Go.Proofs.YtakpkaklcjgdkaaDoor
open Go Go.RowKit Go.ChangeShapes Go.WideShapes Go.Deep

set_option maxRecDepth 100000 in
theorem open_u8s {H : Type} {enc : TypeId × Value → H} {W : World} {b0 : Nat} {v : Value} {d : DataW H} {p : List MemPlace} (hv : Value.okWide Tryd.prog W .any b0 54 v) (h : DataW.Trod enc Tryd.prog W 0 (fun _ => true) true 54 v d p) :
    ∃ l : List Nat, U8Slice W v l := by
  obtain ⟨a0, len, cap, rfl⟩ := okWide_slice Tryd.underlying54 hv
  obtain ⟨fuel, hf⟩ := h
  rcases open_ints Tryd.underlying54 Tryd.underlying5 (by kernel_rfl) hf with ⟨hcs, _⟩ | ⟨a, len', cap', zs, hcs, _, hl, hm, hz, _, hcell, hwf⟩
  · have hcs : [Value.slice a0 len cap] = [Value.slice none 0 0] := hcs
    simp at hcs
    obtain ⟨rfl, rfl, rfl⟩ := hcs
    exact ⟨[], none, 0, rfl, Nat.zero_le _, Nat.le_refl _, .inl rfl, by simp⟩
  · have hcs : [Value.slice a0 len cap] = [Value.slice (some a) len' cap'] := hcs
    simp at hcs
    obtain ⟨rfl, rfl, rfl⟩ := hcs
    simp only [if_true] at hz
    have hlen : ((zs.take len).map Int.toNat).length = len := by simp; omega
    have hbound : ∀ n ∈ zs, 0 ≤ n ∧ n ≤ 255 := fun n hn => bounds_u8 (hwf n hn)
    have h255 : ∀ x ∈ (zs.take len).map Int.toNat, x ≤ 255 := by
      intro x hx
      obtain ⟨n, hn, rfl⟩ := List.mem_map.1 hx
      have := hbound n (List.mem_of_mem_take hn)
      omega
    by_cases h0 : len = 0
    · subst h0
      exact ⟨(zs.take 0).map Int.toNat, some a, cap, by simp, hm, by simp, .inl (by simp), h255⟩
    · obtain ⟨b, off, spot⟩ := a
      have hspot : spot = none := by simpa [Addr.add] using World.cell?_spot (hcell 0 (by omega))
      subst hspot
      have hat : ∀ j, (⟨b, off, none⟩ : Addr).add j = ⟨b, off + j, none⟩ := fun j => by unfold Addr.add; split <;> simp_all
      refine ⟨(zs.take len).map Int.toNat, _, cap, by rw [hlen], hm, by rw [hlen]; exact hl, .inr ⟨b, off, rfl, fun j hj => ?_⟩, h255⟩
      rw [hlen] at hj
      have hc := hcell j (by omega)
      rw [hat] at hc
      rw [hc]
      have hjz : j < zs.length := by omega
      have hb := hbound _ (List.getElem_mem hjz)
      have e : zs.getD j 0 = zs[j] := by simp [List.getD_eq_getElem?_getD, List.getElem?_eq_getElem hjz]
      rw [e]
      simp
      omega
end Go.Proofs.YtakpkaklcjgdkaaDoor
