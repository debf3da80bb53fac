/-
  The contract of 'write' of package english.
-/
import Derived.Test.YthmnffgjckpkiaaGreatDoorWriteA
import Derived.Test.YthmnffgjckpkiaaGreatDoorWriteB
import Derived.Test.YthmnffgjckpkiaaGreatDoorWriteD
namespace Go.Proofs.YthmnffgjckpkiaaGreatDoor
open Go Go.RowKit Go.Shelf

theorem write_all (Wt W0 : World) (ht : Tabs Wt W0) (l : List Ent) (lv : Value) (hl : EntSlice W0 lv l) : ∀ (N : Nat) (t : Tr), sizeT t ≤ N → okS l t = true → WOk W0 l lv t := by
  intro N
  induction N with
  | zero => intro t h _; have := sizeT_pos t; omega
  | succ N ih =>
    intro t hN hok w q ov xs hv hb ho hlen
    obtain ⟨r, e, wd, sub⟩ := t
    rcases ok_shape hok with (⟨hr, _, _, y, z, rfl, hy, hz⟩ | ⟨rfl, _, _, y, z, rfl, hy, hz⟩ | ⟨n, rfl, hn, _, rfl, hr⟩ | ⟨rfl, _, hwd, y, rfl, hy⟩ | ⟨n, rfl, hn, _, y, rfl, hy, hr⟩) | (⟨n, rfl, hn, _, hwd, ⟨rfl, y, rfl, hy⟩ | ⟨rfl, y, z, rfl, hy, hz⟩⟩ | ⟨rfl, _, _, y, rfl, hy⟩ | ⟨rfl, _, _, y, rfl, hy⟩ | ⟨hr, _, _, y, z, rfl, hy, hz⟩)
    · rw [size_2] at hN hlen
      have wy := ih y (by omega) hy.2
      have wz := ih z (by omega) hz.2
      rcases hr with rfl | rfl | rfl | rfl
      · exact calls_eq (write_1 Wt W0 w ht l lv hl e wd y z wy hy.2 wz hz.2 q ov xs hv hb ho (by omega)) (by rw [wordsF_2]; simp [stepW])
      · exact calls_eq (write_2 Wt W0 w ht l lv hl e wd y z wy hy.2 wz hz.2 q ov xs hv hb ho (by omega)) (by rw [wordsF_2]; simp [stepW])
      · exact calls_eq (write_3 Wt W0 w ht l lv hl e wd y z wy hy.2 wz hz.2 q ov xs hv hb ho (by omega)) (by rw [wordsF_2]; simp [stepW])
      · exact calls_eq (write_4 Wt W0 w ht l lv hl e wd y z wy hy.2 wz hz.2 q ov xs hv hb ho (by omega)) (by rw [wordsF_2]; simp [stepW])
    · rw [size_2] at hN hlen
      have wy := ih y (by omega) hy.2
      have wz := ih z (by omega) hz.2
      exact calls_eq (write_5 Wt W0 w ht l lv hl e wd y z wy hy.2 wz hz.2 q ov xs hv hb ho (by omega)) (by rw [wordsF_2]; simp [stepW])
    · rw [size_0] at hlen
      rcases hr with ⟨rfl, hc⟩ | ⟨rfl, hc⟩ | ⟨rfl, hc⟩ | ⟨rfl, hc⟩ | ⟨rfl, hc⟩
      · exact calls_eq (write_6 Wt W0 w ht l lv hl n hn wd q ov xs hv hb ho (by omega)) (by rw [wordsF_0]; simp [stepW])
      · exact calls_eq (write_8 Wt W0 w ht l lv hl n hn wd q ov xs hv hb ho (by omega)) (by rw [wordsF_0]; simp [stepW])
      · exact calls_eq (write_12 Wt W0 w ht l lv hl n hn wd q ov xs hv hb ho (by omega)) (by rw [wordsF_0]; simp [stepW])
      · exact calls_eq (write_14 Wt W0 w ht l lv hl n hn wd q ov xs hv hb ho (by omega)) (by rw [wordsF_0]; simp [stepW])
      · exact calls_eq (write_19 Wt W0 w ht l lv hl n hn wd q ov xs hv hb ho (by omega)) (by rw [wordsF_0]; simp [stepW])
    · rw [size_1] at hN hlen
      have wy := ih y (by omega) hy.2
      by_cases hwa : wd = wA
      · refine calls_eq (write_7a Wt W0 w ht l lv hl e wd y wy hy.2 hwa q ov xs hv hb ho (by omega)) ?_
        rw [wordsF_1]
        have : stepW 7 wd (ownW l e) y.rule (wordsF l y false) [] false = (if wd = wA then articleS ((wordsF l y false).headD []) else wd) :: (wordsF l y false ++ []) := rfl
        rw [show ((7 : Int) == 16) = false from rfl, this, if_pos hwa]; simp
      · refine calls_eq (write_7 Wt W0 w ht l lv hl e wd y wy hy.2 hwa q ov xs hv hb ho (by omega)) ?_
        rw [wordsF_1]
        have : stepW 7 wd (ownW l e) y.rule (wordsF l y false) [] false = (if wd = wA then articleS ((wordsF l y false).headD []) else wd) :: (wordsF l y false ++ []) := rfl
        rw [show ((7 : Int) == 16) = false from rfl, this, if_neg hwa]; simp
    · rw [size_1] at hN hlen
      have wy := ih y (by omega) hy
      rcases hr with ⟨rfl, hc, _⟩ | ⟨rfl, hc, _⟩
      · exact calls_eq (write_9 Wt W0 w ht l lv hl n hn wd y wy hy q ov xs hv hb ho (by omega)) (by rw [wordsF_1]; simp [stepW])
      · exact calls_eq (write_13 Wt W0 w ht l lv hl n hn wd y wy hy q ov xs hv hb ho (by omega)) (by rw [wordsF_1]; simp [stepW])
    · rw [size_1] at hN hlen
      exact calls_eq (write_10 Wt W0 w ht l lv hl n hn wd y (ih y (by omega) hy.2) hy.2 q ov xs hv hb ho (by omega)) (by rw [wordsF_1]; simp [stepW])
    · rw [size_2] at hN hlen
      exact calls_eq (write_11 Wt W0 w ht l lv hl n hn wd y z (ih y (by omega) hy.2) hy.2 (ih z (by omega) hz.2) hz.2 q ov xs hv hb ho (by omega)) (by rw [wordsF_2]; simp [stepW])
    · rw [size_1] at hN hlen
      refine calls_eq (write_15 Wt W0 w ht l lv hl e wd y (ih y (by omega) hy.2) hy.2 q ov xs hv hb ho (by omega)) ?_
      have : stepW 15 wd (ownW l e) y.rule (wordsF l y false) [] false = [wIs] ++ articleS ((wordsF l y false).headD []) :: (wordsF l y false ++ []) := rfl
      rw [wordsF_1, show ((15 : Int) == 16) = false from rfl, this]; simp
    · rw [size_1] at hN hlen
      refine calls_eq (write_16 Wt W0 w ht l lv hl e wd y (ih y (by omega) hy.2.1) hy.2.1 hy.2.2 (fun z h1 h2 => ih z (by omega) h2) q ov xs hv hb ho (by omega)) ?_
      have : stepW 16 wd (ownW l e) y.rule (wordsF l y true) [] false = (if 13 < y.rule then [wIs, wNot] else [wDoes, wNot]) ++ (wordsF l y true ++ []) := rfl
      rw [wordsF_1, show ((16 : Int) == 16) = true from rfl, this]; simp
    · rw [size_2] at hN hlen
      have wy := ih y (by omega) hy.2
      have wz := ih z (by omega) hz.2
      rcases hr with rfl | rfl
      · exact calls_eq (write_17 Wt W0 w ht l lv hl e wd y z wy hy.2 wz hz.2 q ov xs hv hb ho (by omega)) (by rw [wordsF_2]; simp [stepW])
      · exact calls_eq (write_18 Wt W0 w ht l lv hl e wd y z wy hy.2 wz hz.2 q ov xs hv hb ho (by omega)) (by rw [wordsF_2]; simp [stepW])
/-- **write**, at a right parse. -/
theorem write_any (Wt W0 : World) (ht : Tabs Wt W0) (l : List Ent) (lv : Value) (hl : EntSlice W0 lv l) (t : Tr) (h : okS l t = true) : WOk W0 l lv t := write_all Wt W0 ht l lv hl _ t (Nat.le_refl _) h
end Go.Proofs.YthmnffgjckpkiaaGreatDoor
