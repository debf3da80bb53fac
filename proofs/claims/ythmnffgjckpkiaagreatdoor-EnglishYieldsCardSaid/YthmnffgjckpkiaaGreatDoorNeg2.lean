/-
  The contract of 'negated' of package english, at every part.
-/
import Derived.Test.YthmnffgjckpkiaaGreatDoorNeg
namespace Go.Proofs.YthmnffgjckpkiaaGreatDoor
open Go Go.RowKit Go.Shelf

theorem calls_eq {P : Program} {f : FuncId} {args : Array Value} {w : World} {B : Nat} {ov : Value} {ys zs : List (List UInt8)} (h : Calls P f args w (WPost B w ov ys)) (he : ys = zs) : Calls P f args w (WPost B w ov zs) := by rw [← he]; exact h
theorem negated_any (Wt W0 w : World) (ht : Tabs Wt W0) (l : List Ent) (lv : Value) (hl : EntSlice W0 lv l) (y : Tr) (hyo : okS l y = true) (hr : 12 ≤ y.rule ∧ y.rule ≤ 15) (hw : ∀ z : Tr, sizeT z < sizeT y → okS l z = true → WOk W0 l lv z)
    (q : TV) (ov : Value) (xs : List (List UInt8)) (hv : TreeV (fun _ => True) W0 q.val y) (hb : Below W0.heap.size W0 w) (ho : RowW W0.heap.size w ov xs) (hlen : xs.length + 8 * sizeT y ≤ 4000) :
    Calls Tryz.prog 93 #[lv, ov, q.val] w (WPost W0.heap.size w ov (xs ++ ((if 13 < y.rule then [wIs, wNot] else [wDoes, wNot]) ++ wordsF l y true))) := by
  obtain ⟨r, e, wd, sub⟩ := y
  have hr0 : 12 ≤ r ∧ r ≤ 15 := hr
  clear hr
  rcases ok_shape hyo with (⟨hr, _, _, y, z, rfl, hy, hz⟩ | ⟨rfl, _, _, y, z, rfl, hy, hz⟩ | ⟨n, rfl, hn, _, rfl, hr⟩ | ⟨rfl, _, hw, y, rfl, hy⟩ | ⟨n, rfl, hn, _, y, rfl, hy, hr⟩) | (⟨n, rfl, hn, _, hw, ⟨rfl, y, rfl, hy⟩ | ⟨rfl, y, z, rfl, hy, hz⟩⟩ | ⟨rfl, _, _, y, rfl, hy⟩ | ⟨rfl, _, _, y, rfl, hy⟩ | ⟨hr, _, _, y, z, rfl, hy, hz⟩)
  · omega
  · omega
  · rw [size_0] at hlen
    rcases hr with ⟨rfl, hc⟩ | ⟨rfl, hc⟩ | ⟨rfl, hc⟩ | ⟨rfl, hc⟩ | ⟨rfl, hc⟩
    · omega
    · omega
    · exact calls_eq (negated_12 Wt W0 w ht l lv hl n hn wd q ov xs hv hb ho (by omega)) (by rw [wordsF_0]; simp [stepW, Tr.rule])
    · exact calls_eq (negated_14 Wt W0 w ht l lv hl n hn wd q ov xs hv hb ho (by omega)) (by rw [wordsF_0]; simp [stepW, Tr.rule])
    · omega
  · omega
  · rw [size_1] at hlen hw
    rcases hr with ⟨rfl, hc, _⟩ | ⟨rfl, hc, _⟩
    · omega
    · exact calls_eq (negated_13 Wt W0 w ht l lv hl n hn wd y (hw y (by omega) hy) hy q ov xs hv hb ho (by omega)) (by rw [wordsF_1]; simp [stepW, Tr.rule])
  · omega
  · omega
  · rw [size_1] at hlen hw
    exact calls_eq (negated_15 Wt W0 w ht l lv hl e wd y (hw y (by omega) hy.2) hy.2 q ov xs hv hb ho (by omega)) (by rw [wordsF_1]; simp [stepW, Tr.rule])
  · omega
  · omega
end Go.Proofs.YthmnffgjckpkiaaGreatDoor
