/-
  Contracts of 'shapeOf' and 'kindOf' of package english.
  The contract of 'kindOf' of package english.
  The contract of 'measured' of package english.
-/
import Derived.Test.YthmnffgjckpkiaaGreatDoorGEngB
import Derived.Test.YthmnffgjckpkiaaGreatDoorGEngE
import Derived.Test.YthmnffgjckpkiaaGreatDoorGEngH
namespace Go.Proofs.YthmnffgjckpkiaaGreatDoor
open Go Go.RowKit Go.Shelf

theorem list_5 {w : World} {b : Nat} {a c d e f : List UInt8} {T : TypeId} (h : w.heap[b]? = some (.cells #[.string ⟨a.toArray⟩, .string ⟨c.toArray⟩, .string ⟨d.toArray⟩, .string ⟨e.toArray⟩, .string ⟨f.toArray⟩] T (0, 0))) : StrSlice w (.slice (some ⟨b, 0, none⟩) 5 5) [a, c, d, e, f] := by
  refine ⟨_, _, rfl, by simp, by unfold maxLen; omega, .inr ⟨b, 0, rfl, fun j hj => ?_⟩⟩
  rcases j with _ | _ | _ | _ | _ | j
  · simp [World.cell?, h]
  · simp [World.cell?, h]
  · simp [World.cell?, h]
  · simp [World.cell?, h]
  · simp [World.cell?, h]
  · simp at hj; omega
/-- The words of a shape as a value: nil where there are none. -/
def WordsV (w : World) (v : Value) (ws : List (List UInt8)) : Prop := (ws = [] ∧ v = .slice none 0 0) ∨ (ws ≠ [] ∧ ∃ b n c, v = .slice (some ⟨b, 0, none⟩) n c ∧ StrSlice w v ws)
theorem WordsV.below {w w' : World} {v : Value} {ws : List (List UInt8)} (h : WordsV w v ws) (hb : Below w.heap.size w w') : WordsV w' v ws := by
  rcases h with h | ⟨h1, b, n, c, h2, h3⟩
  · exact .inl h
  · exact .inr ⟨h1, b, n, c, h2, h3.below hb⟩
theorem PartsAt.below {w w' : World} {v : Value} {ks : List Nat} (h : PartsAt w v ks) (hb : Below w.heap.size w w') : PartsAt w' v ks := by
  obtain ⟨a, cap, rfl, h⟩ := h
  refine ⟨a, cap, rfl, ?_⟩
  rcases h with h | ⟨b, rfl, hc⟩
  · exact .inl h
  · exact .inr ⟨b, rfl, fun j hj => cell_kept' hb (hc j hj)⟩
/-- What shapeOf returns. -/
def ShapeOk (w : World) (r : Int) (e : Ending) (w' : World) : Prop :=
  ∃ wv pv, e = .returned (.agg #[.int .u8 (kindS r), .int .u8 (shapeS r).cat, wv, pv]) ∧ WordsV w' wv (shapeS r).words ∧ PartsAt w' pv (shapeS r).parts ∧ Below w.heap.size w w'
theorem at_top {w : World} {o : Obj} {k : Nat} (h : k = w.heap.size) : (w.alloc o).heap[k]? = some o := heap_at2 h
theorem at_below {w : World} {o x : Obj} {k : Nat} (h : w.heap[k]? = some x) : (w.alloc o).heap[k]? = some x := (Below.heap_alloc _ _ _ (Array.getElem?_eq_some_iff.1 h).1).trans h

set_option maxRecDepth 100000 in
set_option maxHeartbeats 1000000 in
theorem shape_1 (w : World) : Calls Tryz.prog 88 #[.int .u8 1] w (ShapeOk w 1) := by
  go_enter Tryz.func88, Tryz.ntmps88
  go_wp2
  refine bodyPost_ret (v := .agg #[.int .u8 1, .int .u8 0, .slice none 0 0, .slice (some ⟨w.heap.size + 1 + 1, 0, none⟩) 2 2]) (by simp [results, Tryz.results88, go_sem]) rfl ⟨_, _, rfl, ?_, ?_, ?_⟩
  · exact .inl ⟨rfl, rfl⟩
  · exact parts_2 (a := 1) (c := 1) (at_top (by simp))
  · exact (((Below.refl _ _).alloc (by first | (simp; done) | (simp; omega)) _).alloc (by first | (simp; done) | (simp; omega)) _).alloc (by first | (simp; done) | (simp; omega)) _
set_option maxRecDepth 100000 in
set_option maxHeartbeats 1000000 in
theorem shape_2 (w : World) : Calls Tryz.prog 88 #[.int .u8 2] w (ShapeOk w 2) := by
  go_enter Tryz.func88, Tryz.ntmps88
  go_wp2
  refine bodyPost_ret (v := .agg #[.int .u8 1, .int .u8 0, .slice none 0 0, .slice (some ⟨w.heap.size + 1 + 1, 0, none⟩) 2 2]) (by simp [results, Tryz.results88, go_sem]) rfl ⟨_, _, rfl, ?_, ?_, ?_⟩
  · exact .inl ⟨rfl, rfl⟩
  · exact parts_2 (a := 1) (c := 1) (at_top (by simp))
  · exact (((Below.refl _ _).alloc (by first | (simp; done) | (simp; omega)) _).alloc (by first | (simp; done) | (simp; omega)) _).alloc (by first | (simp; done) | (simp; omega)) _
set_option maxRecDepth 100000 in
set_option maxHeartbeats 1000000 in
theorem shape_3 (w : World) : Calls Tryz.prog 88 #[.int .u8 3] w (ShapeOk w 3) := by
  go_enter Tryz.func88, Tryz.ntmps88
  go_wp2
  refine bodyPost_ret (v := .agg #[.int .u8 1, .int .u8 0, .slice none 0 0, .slice (some ⟨w.heap.size + 1 + 1, 0, none⟩) 2 2]) (by simp [results, Tryz.results88, go_sem]) rfl ⟨_, _, rfl, ?_, ?_, ?_⟩
  · exact .inl ⟨rfl, rfl⟩
  · exact parts_2 (a := 1) (c := 1) (at_top (by simp))
  · exact (((Below.refl _ _).alloc (by first | (simp; done) | (simp; omega)) _).alloc (by first | (simp; done) | (simp; omega)) _).alloc (by first | (simp; done) | (simp; omega)) _
set_option maxRecDepth 100000 in
set_option maxHeartbeats 1000000 in
theorem shape_4 (w : World) : Calls Tryz.prog 88 #[.int .u8 4] w (ShapeOk w 4) := by
  go_enter Tryz.func88, Tryz.ntmps88
  go_wp2
  refine bodyPost_ret (v := .agg #[.int .u8 1, .int .u8 0, .slice none 0 0, .slice (some ⟨w.heap.size + 1 + 1, 0, none⟩) 2 2]) (by simp [results, Tryz.results88, go_sem]) rfl ⟨_, _, rfl, ?_, ?_, ?_⟩
  · exact .inl ⟨rfl, rfl⟩
  · exact parts_2 (a := 1) (c := 1) (at_top (by simp))
  · exact (((Below.refl _ _).alloc (by first | (simp; done) | (simp; omega)) _).alloc (by first | (simp; done) | (simp; omega)) _).alloc (by first | (simp; done) | (simp; omega)) _
set_option maxRecDepth 100000 in
set_option maxHeartbeats 1000000 in
theorem shape_5 (w : World) : Calls Tryz.prog 88 #[.int .u8 5] w (ShapeOk w 5) := by
  go_enter Tryz.func88, Tryz.ntmps88
  go_wp2
  refine bodyPost_ret (v := .agg #[.int .u8 1, .int .u8 0, .slice none 0 0, .slice (some ⟨w.heap.size + 1 + 1, 0, none⟩) 2 2]) (by simp [results, Tryz.results88, go_sem]) rfl ⟨_, _, rfl, ?_, ?_, ?_⟩
  · exact .inl ⟨rfl, rfl⟩
  · exact parts_2 (a := 2) (c := 4) (at_top (by simp))
  · exact (((Below.refl _ _).alloc (by first | (simp; done) | (simp; omega)) _).alloc (by first | (simp; done) | (simp; omega)) _).alloc (by first | (simp; done) | (simp; omega)) _
set_option maxRecDepth 100000 in
set_option maxHeartbeats 1000000 in
theorem shape_6 (w : World) : Calls Tryz.prog 88 #[.int .u8 6] w (ShapeOk w 6) := by
  go_enter Tryz.func88, Tryz.ntmps88
  go_wp2
  refine bodyPost_ret (v := .agg #[.int .u8 2, .int .u8 3, .slice none 0 0, .slice none 0 0]) (by simp [results, Tryz.results88, go_sem]) rfl ⟨_, _, rfl, ?_, ?_, ?_⟩
  · exact .inl ⟨rfl, rfl⟩
  · exact parts_0 _
  · exact ((Below.refl _ _).alloc (by first | (simp; done) | (simp; omega)) _).alloc (by first | (simp; done) | (simp; omega)) _
set_option maxRecDepth 100000 in
set_option maxHeartbeats 1000000 in
theorem shape_7 (w : World) : Calls Tryz.prog 88 #[.int .u8 7] w (ShapeOk w 7) := by
  go_enter Tryz.func88, Tryz.ntmps88
  go_wp2
  refine bodyPost_ret (v := .agg #[.int .u8 2, .int .u8 0, .slice (some ⟨w.heap.size + 1 + 1, 0, none⟩) 5 5, .slice (some ⟨w.heap.size + 1 + 1 + 1, 0, none⟩) 1 1]) (by simp [results, Tryz.results88, go_sem]) rfl ⟨_, _, rfl, ?_, ?_, ?_⟩
  · exact .inr ⟨by decide, _, _, _, rfl, list_5 (a := wEvery) (c := wEach) (d := wSome) (e := wNo) (f := wA) (at_below (at_top (by simp)))⟩
  · exact parts_1 (a := 3) (at_top (by simp))
  · exact ((((Below.refl _ _).alloc (by first | (simp; done) | (simp; omega)) _).alloc (by first | (simp; done) | (simp; omega)) _).alloc (by first | (simp; done) | (simp; omega)) _).alloc (by first | (simp; done) | (simp; omega)) _
set_option maxRecDepth 100000 in
set_option maxHeartbeats 1000000 in
theorem shape_8 (w : World) : Calls Tryz.prog 88 #[.int .u8 8] w (ShapeOk w 8) := by
  go_enter Tryz.func88, Tryz.ntmps88
  go_wp2
  refine bodyPost_ret (v := .agg #[.int .u8 3, .int .u8 1, .slice none 0 0, .slice none 0 0]) (by simp [results, Tryz.results88, go_sem]) rfl ⟨_, _, rfl, ?_, ?_, ?_⟩
  · exact .inl ⟨rfl, rfl⟩
  · exact parts_0 _
  · exact ((Below.refl _ _).alloc (by first | (simp; done) | (simp; omega)) _).alloc (by first | (simp; done) | (simp; omega)) _
set_option maxRecDepth 100000 in
set_option maxHeartbeats 1000000 in
theorem shape_9 (w : World) : Calls Tryz.prog 88 #[.int .u8 9] w (ShapeOk w 9) := by
  go_enter Tryz.func88, Tryz.ntmps88
  go_wp2
  refine bodyPost_ret (v := .agg #[.int .u8 3, .int .u8 2, .slice none 0 0, .slice (some ⟨w.heap.size + 1 + 1, 0, none⟩) 1 1]) (by simp [results, Tryz.results88, go_sem]) rfl ⟨_, _, rfl, ?_, ?_, ?_⟩
  · exact .inl ⟨rfl, rfl⟩
  · exact parts_1 (a := 3) (at_top (by simp))
  · exact (((Below.refl _ _).alloc (by first | (simp; done) | (simp; omega)) _).alloc (by first | (simp; done) | (simp; omega)) _).alloc (by first | (simp; done) | (simp; omega)) _
set_option maxRecDepth 100000 in
set_option maxHeartbeats 1000000 in
theorem shape_10 (w : World) : Calls Tryz.prog 88 #[.int .u8 10] w (ShapeOk w 10) := by
  go_enter Tryz.func88, Tryz.ntmps88
  go_wp2
  refine bodyPost_ret (v := .agg #[.int .u8 3, .int .u8 1, .slice (some ⟨w.heap.size + 1, 0, none⟩) 2 2, .slice (some ⟨w.heap.size + 1 + 1, 0, none⟩) 1 1]) (by simp [results, Tryz.results88, go_sem]) rfl ⟨_, _, rfl, ?_, ?_, ?_⟩
  · exact .inr ⟨by decide, _, _, _, rfl, list_2 (a := wWho) (c := wThat) (at_below (at_top (by simp)))⟩
  · exact parts_1 (a := 4) (at_top (by simp))
  · exact (((Below.refl _ _).alloc (by first | (simp; done) | (simp; omega)) _).alloc (by first | (simp; done) | (simp; omega)) _).alloc (by first | (simp; done) | (simp; omega)) _
set_option maxRecDepth 100000 in
set_option maxHeartbeats 1000000 in
theorem shape_11 (w : World) : Calls Tryz.prog 88 #[.int .u8 11] w (ShapeOk w 11) := by
  go_enter Tryz.func88, Tryz.ntmps88
  go_wp2
  refine bodyPost_ret (v := .agg #[.int .u8 3, .int .u8 1, .slice (some ⟨w.heap.size + 1, 0, none⟩) 2 2, .slice (some ⟨w.heap.size + 1 + 1, 0, none⟩) 2 2]) (by simp [results, Tryz.results88, go_sem]) rfl ⟨_, _, rfl, ?_, ?_, ?_⟩
  · exact .inr ⟨by decide, _, _, _, rfl, list_2 (a := wWho) (c := wThat) (at_below (at_top (by simp)))⟩
  · exact parts_2 (a := 2) (c := 5) (at_top (by simp))
  · exact (((Below.refl _ _).alloc (by first | (simp; done) | (simp; omega)) _).alloc (by first | (simp; done) | (simp; omega)) _).alloc (by first | (simp; done) | (simp; omega)) _
set_option maxRecDepth 100000 in
set_option maxHeartbeats 1000000 in
theorem shape_12 (w : World) : Calls Tryz.prog 88 #[.int .u8 12] w (ShapeOk w 12) := by
  go_enter Tryz.func88, Tryz.ntmps88
  go_wp2
  refine bodyPost_ret (v := .agg #[.int .u8 4, .int .u8 4, .slice none 0 0, .slice none 0 0]) (by simp [results, Tryz.results88, go_sem]) rfl ⟨_, _, rfl, ?_, ?_, ?_⟩
  · exact .inl ⟨rfl, rfl⟩
  · exact parts_0 _
  · exact ((Below.refl _ _).alloc (by first | (simp; done) | (simp; omega)) _).alloc (by first | (simp; done) | (simp; omega)) _
set_option maxRecDepth 100000 in
set_option maxHeartbeats 1000000 in
theorem shape_13 (w : World) : Calls Tryz.prog 88 #[.int .u8 13] w (ShapeOk w 13) := by
  go_enter Tryz.func88, Tryz.ntmps88
  go_wp2
  refine bodyPost_ret (v := .agg #[.int .u8 4, .int .u8 5, .slice none 0 0, .slice (some ⟨w.heap.size + 1 + 1, 0, none⟩) 1 1]) (by simp [results, Tryz.results88, go_sem]) rfl ⟨_, _, rfl, ?_, ?_, ?_⟩
  · exact .inl ⟨rfl, rfl⟩
  · exact parts_1 (a := 2) (at_top (by simp))
  · exact (((Below.refl _ _).alloc (by first | (simp; done) | (simp; omega)) _).alloc (by first | (simp; done) | (simp; omega)) _).alloc (by first | (simp; done) | (simp; omega)) _
set_option maxRecDepth 100000 in
set_option maxHeartbeats 1000000 in
theorem shape_14 (w : World) : Calls Tryz.prog 88 #[.int .u8 14] w (ShapeOk w 14) := by
  go_enter Tryz.func88, Tryz.ntmps88
  go_wp2
  refine bodyPost_ret (v := .agg #[.int .u8 4, .int .u8 2, .slice none 0 0, .slice none 0 0]) (by simp [results, Tryz.results88, go_sem]) rfl ⟨_, _, rfl, ?_, ?_, ?_⟩
  · exact .inl ⟨rfl, rfl⟩
  · exact parts_0 _
  · exact ((Below.refl _ _).alloc (by first | (simp; done) | (simp; omega)) _).alloc (by first | (simp; done) | (simp; omega)) _
set_option maxRecDepth 100000 in
set_option maxHeartbeats 1000000 in
theorem shape_15 (w : World) : Calls Tryz.prog 88 #[.int .u8 15] w (ShapeOk w 15) := by
  go_enter Tryz.func88, Tryz.ntmps88
  go_wp2
  refine bodyPost_ret (v := .agg #[.int .u8 4, .int .u8 0, .slice none 0 0, .slice (some ⟨w.heap.size + 1 + 1, 0, none⟩) 1 1]) (by simp [results, Tryz.results88, go_sem]) rfl ⟨_, _, rfl, ?_, ?_, ?_⟩
  · exact .inl ⟨rfl, rfl⟩
  · exact parts_1 (a := 3) (at_top (by simp))
  · exact (((Below.refl _ _).alloc (by first | (simp; done) | (simp; omega)) _).alloc (by first | (simp; done) | (simp; omega)) _).alloc (by first | (simp; done) | (simp; omega)) _
set_option maxRecDepth 100000 in
set_option maxHeartbeats 1000000 in
theorem shape_16 (w : World) : Calls Tryz.prog 88 #[.int .u8 16] w (ShapeOk w 16) := by
  go_enter Tryz.func88, Tryz.ntmps88
  go_wp2
  refine bodyPost_ret (v := .agg #[.int .u8 4, .int .u8 0, .slice none 0 0, .slice (some ⟨w.heap.size + 1 + 1, 0, none⟩) 1 1]) (by simp [results, Tryz.results88, go_sem]) rfl ⟨_, _, rfl, ?_, ?_, ?_⟩
  · exact .inl ⟨rfl, rfl⟩
  · exact parts_1 (a := 4) (at_top (by simp))
  · exact (((Below.refl _ _).alloc (by first | (simp; done) | (simp; omega)) _).alloc (by first | (simp; done) | (simp; omega)) _).alloc (by first | (simp; done) | (simp; omega)) _
set_option maxRecDepth 100000 in
set_option maxHeartbeats 1000000 in
theorem shape_17 (w : World) : Calls Tryz.prog 88 #[.int .u8 17] w (ShapeOk w 17) := by
  go_enter Tryz.func88, Tryz.ntmps88
  go_wp2
  refine bodyPost_ret (v := .agg #[.int .u8 4, .int .u8 0, .slice none 0 0, .slice (some ⟨w.heap.size + 1 + 1, 0, none⟩) 2 2]) (by simp [results, Tryz.results88, go_sem]) rfl ⟨_, _, rfl, ?_, ?_, ?_⟩
  · exact .inl ⟨rfl, rfl⟩
  · exact parts_2 (a := 4) (c := 4) (at_top (by simp))
  · exact (((Below.refl _ _).alloc (by first | (simp; done) | (simp; omega)) _).alloc (by first | (simp; done) | (simp; omega)) _).alloc (by first | (simp; done) | (simp; omega)) _
set_option maxRecDepth 100000 in
set_option maxHeartbeats 1000000 in
theorem shape_18 (w : World) : Calls Tryz.prog 88 #[.int .u8 18] w (ShapeOk w 18) := by
  go_enter Tryz.func88, Tryz.ntmps88
  go_wp2
  refine bodyPost_ret (v := .agg #[.int .u8 4, .int .u8 0, .slice none 0 0, .slice (some ⟨w.heap.size + 1 + 1, 0, none⟩) 2 2]) (by simp [results, Tryz.results88, go_sem]) rfl ⟨_, _, rfl, ?_, ?_, ?_⟩
  · exact .inl ⟨rfl, rfl⟩
  · exact parts_2 (a := 4) (c := 4) (at_top (by simp))
  · exact (((Below.refl _ _).alloc (by first | (simp; done) | (simp; omega)) _).alloc (by first | (simp; done) | (simp; omega)) _).alloc (by first | (simp; done) | (simp; omega)) _
set_option maxRecDepth 100000 in
set_option maxHeartbeats 1000000 in
theorem shape_19 (w : World) : Calls Tryz.prog 88 #[.int .u8 19] w (ShapeOk w 19) := by
  go_enter Tryz.func88, Tryz.ntmps88
  go_wp2
  refine bodyPost_ret (v := .agg #[.int .u8 5, .int .u8 5, .slice none 0 0, .slice none 0 0]) (by simp [results, Tryz.results88, go_sem]) rfl ⟨_, _, rfl, ?_, ?_, ?_⟩
  · exact .inl ⟨rfl, rfl⟩
  · exact parts_0 _
  · exact ((Below.refl _ _).alloc (by first | (simp; done) | (simp; omega)) _).alloc (by first | (simp; done) | (simp; omega)) _
set_option maxRecDepth 100000 in
set_option maxHeartbeats 1000000 in
theorem shape_other (w : World) (r : Int) (h1 : (r == 1) = false) (h2 : (r == 2) = false) (h3 : (r == 3) = false) (h4 : (r == 4) = false) (h5 : (r == 5) = false) (h6 : (r == 6) = false) (h7 : (r == 7) = false) (h8 : (r == 8) = false) (h9 : (r == 9) = false) (h10 : (r == 10) = false) (h11 : (r == 11) = false) (h12 : (r == 12) = false) (h13 : (r == 13) = false) (h14 : (r == 14) = false) (h15 : (r == 15) = false) (h16 : (r == 16) = false) (h17 : (r == 17) = false) (h18 : (r == 18) = false) (h19 : (r == 19) = false) : Calls Tryz.prog 88 #[.int .u8 r] w (ShapeOk w r) := by
  have hs : shapeS r = ⟨0, 0, [], []⟩ := by
    have g1 : ¬ r = 1 := ne_of_beq_false h1
    have g2 : ¬ r = 2 := ne_of_beq_false h2
    have g3 : ¬ r = 3 := ne_of_beq_false h3
    have g4 : ¬ r = 4 := ne_of_beq_false h4
    have g5 : ¬ r = 5 := ne_of_beq_false h5
    have g6 : ¬ r = 6 := ne_of_beq_false h6
    have g7 : ¬ r = 7 := ne_of_beq_false h7
    have g8 : ¬ r = 8 := ne_of_beq_false h8
    have g9 : ¬ r = 9 := ne_of_beq_false h9
    have g10 : ¬ r = 10 := ne_of_beq_false h10
    have g11 : ¬ r = 11 := ne_of_beq_false h11
    have g12 : ¬ r = 12 := ne_of_beq_false h12
    have g13 : ¬ r = 13 := ne_of_beq_false h13
    have g14 : ¬ r = 14 := ne_of_beq_false h14
    have g15 : ¬ r = 15 := ne_of_beq_false h15
    have g16 : ¬ r = 16 := ne_of_beq_false h16
    have g17 : ¬ r = 17 := ne_of_beq_false h17
    have g18 : ¬ r = 18 := ne_of_beq_false h18
    have g19 : ¬ r = 19 := ne_of_beq_false h19
    unfold shapeS
    rw [if_neg (by omega), if_neg g5, if_neg g6, if_neg g7, if_neg g8, if_neg g9, if_neg g10, if_neg g11, if_neg g12, if_neg g13, if_neg g14, if_neg g15, if_neg g16, if_neg (by omega), if_neg g19]
  have HS := Lib.hid hs
  clear hs
  go_enter Tryz.func88, Tryz.ntmps88
  go_wp2
  refine bodyPost_ret (v := .agg #[.int .u8 0, .int .u8 0, .slice none 0 0, .slice none 0 0]) (by simp [results, Tryz.results88, go_sem]) rfl ⟨.slice none 0 0, .slice none 0 0, ?_, ?_, ?_, ?_⟩
  · unfold kindS; rw [HS.out]; rfl
  · rw [HS.out]; exact .inl ⟨rfl, rfl⟩
  · rw [HS.out]; exact parts_0 _
  · exact ((Below.refl _ _).alloc (by first | (simp; done) | (simp; omega)) _).alloc (by first | (simp; done) | (simp; omega)) _
set_option maxRecDepth 100000 in
/-- **shapeOf.** -/
theorem shapeOf_any (w : World) (r : Int) : Calls Tryz.prog 88 #[.int .u8 r] w (ShapeOk w r) := by
  by_cases h1 : r = 1
  · rw [h1]; exact shape_1 w
  by_cases h2 : r = 2
  · rw [h2]; exact shape_2 w
  by_cases h3 : r = 3
  · rw [h3]; exact shape_3 w
  by_cases h4 : r = 4
  · rw [h4]; exact shape_4 w
  by_cases h5 : r = 5
  · rw [h5]; exact shape_5 w
  by_cases h6 : r = 6
  · rw [h6]; exact shape_6 w
  by_cases h7 : r = 7
  · rw [h7]; exact shape_7 w
  by_cases h8 : r = 8
  · rw [h8]; exact shape_8 w
  by_cases h9 : r = 9
  · rw [h9]; exact shape_9 w
  by_cases h10 : r = 10
  · rw [h10]; exact shape_10 w
  by_cases h11 : r = 11
  · rw [h11]; exact shape_11 w
  by_cases h12 : r = 12
  · rw [h12]; exact shape_12 w
  by_cases h13 : r = 13
  · rw [h13]; exact shape_13 w
  by_cases h14 : r = 14
  · rw [h14]; exact shape_14 w
  by_cases h15 : r = 15
  · rw [h15]; exact shape_15 w
  by_cases h16 : r = 16
  · rw [h16]; exact shape_16 w
  by_cases h17 : r = 17
  · rw [h17]; exact shape_17 w
  by_cases h18 : r = 18
  · rw [h18]; exact shape_18 w
  by_cases h19 : r = 19
  · rw [h19]; exact shape_19 w
  exact shape_other w r (beq_false_of_ne h1) (beq_false_of_ne h2) (beq_false_of_ne h3) (beq_false_of_ne h4) (beq_false_of_ne h5) (beq_false_of_ne h6) (beq_false_of_ne h7) (beq_false_of_ne h8) (beq_false_of_ne h9) (beq_false_of_ne h10) (beq_false_of_ne h11) (beq_false_of_ne h12) (beq_false_of_ne h13) (beq_false_of_ne h14) (beq_false_of_ne h15) (beq_false_of_ne h16) (beq_false_of_ne h17) (beq_false_of_ne h18) (beq_false_of_ne h19)
theorem WordsV.form {w : World} {v : Value} {ws : List (List UInt8)} (h : WordsV w v ws) : ∃ a n c, v = .slice a n c := by
  rcases h with ⟨_, rfl⟩ | ⟨_, b, n, c, rfl, _⟩
  · exact ⟨_, _, _, rfl⟩
  · exact ⟨_, _, _, rfl⟩
end Go.Proofs.YthmnffgjckpkiaaGreatDoor
namespace Go.Proofs.YthmnffgjckpkiaaGreatDoor
open Go Go.RowKit Go.Shelf

set_option maxRecDepth 100000 in
theorem field_kind (k c : Int) (wa pa : Option Addr) (wn wc pn pc : Nat) (w : World) : (Instr.field 135 (.agg #[.int .u8 k, .int .u8 c, .slice wa wn wc, .slice pa pn pc]) 0).run Tryz.prog w = .ok (.int .u8 k) w := by
  simp [Instr.field, go_sem, asAgg]
set_option maxRecDepth 100000 in
theorem kindOf_any (w : World) (r : Int) : Calls Tryz.prog 57 #[.int .u8 r] w fun e w' => e = .returned (.int .u8 (kindS r)) ∧ Below w.heap.size w w' := by
  have hs := shapeOf_any w r
  unfold ShapeOk at hs
  obtain ⟨K, hK⟩ : ∃ K : Nat, K = kindS r := ⟨_, rfl⟩
  obtain ⟨C, hC⟩ : ∃ C, C = (shapeS r).cat := ⟨_, rfl⟩
  rw [← hK, ← hC] at hs
  rw [← hK]
  have HS := Lib.hid hs
  clear hs hK hC
  have hfk := field_kind
  go_enter Tryz.func57, Tryz.ntmps57
  go_wp2_with (go_at_call 88; refine HS.out.mono ?_; rintro e w1 ⟨wv, pv, rfl, hw, hp, hb⟩; obtain ⟨wa, wn, wc, rfl⟩ := hw.form; obtain ⟨pa, pc, rfl, _⟩ := hp)
  go_ret
  exact ⟨rfl, hb⟩
end Go.Proofs.YthmnffgjckpkiaaGreatDoor
namespace Go.Proofs.YthmnffgjckpkiaaGreatDoor
open Go Go.RowKit Go.Shelf

theorem sizesT_take : ∀ (l : List Tr) (k : Nat) (h : k < l.length), sizesT (l.take (k + 1)) = sizesT (l.take k) + sizeT l[k]
  | [], k, h => by simp at h
  | t :: ts, 0, _ => by simp [sizesT]
  | t :: ts, k + 1, h => by
    have := sizesT_take ts k (by simpa using h)
    simp only [List.take_succ_cons, sizesT, List.getElem_cons_succ]
    omega
theorem sizesT_le : ∀ (l : List Tr) (k : Nat), sizesT (l.take k) ≤ sizesT l
  | [], k => by simp
  | t :: ts, 0 => by simp [sizesT]
  | t :: ts, k + 1 => by
    have := sizesT_le ts k
    simp only [List.take_succ_cons, sizesT]
    omega
theorem sizeT_pos (t : Tr) : 1 ≤ sizeT t := by
  obtain ⟨r, e, w, sub⟩ := t
  simp only [sizeT]
  omega
theorem len_sizes : ∀ (l : List Tr) (k : Nat), k ≤ l.length → k ≤ sizesT (l.take k)
  | l, 0, _ => Nat.zero_le _
  | l, k + 1, h => by
    have := len_sizes l k (by omega)
    have h2 := sizeT_pos (l[k]'(by omega))
    rw [sizesT_take l k (by omega)]
    omega
theorem grown_trans1 {A B C : World} {r : Option Nat} (h : A.grownBy B r) (k : B.grownBy C r) : A.grownBy C r :=
  ⟨k.os.trans h.os, k.tape.trans h.tape, k.output.trans h.output, Nat.le_trans h.size k.size, fun b hb hne => (k.block b (Nat.lt_of_lt_of_le hb h.size) hne).trans (h.block b hb hne)⟩
theorem grown_below1 {A B : World} {r : Option Nat} (h : Below A.heap.size A B) : A.grownBy B r := ⟨h.os, h.tape, h.output, h.size, fun b hb _ => h.block b hb⟩
theorem cell_grown1 {A B : World} {lb : Nat} (h : A.grownBy B (some lb)) {a : Addr} {v : Value} (hc : A.cell? a = some v) (hne : a.block ≠ lb) : B.cell? a = some v :=
  (World.cell?_of_block (h.block a.block (cell_lt hc) (fun e => hne (Option.some.inj e)))).trans hc
theorem tree_grown1 {A B : World} {lb : Nat} {t : TypeId} {u : Value} (hb : Boxed A lb t u) (h : A.grownBy B (some lb)) {v : Value} {x : Tr} (hv : TreeV (fun _ => True) A v x) : TreeV (fun _ => True) B v x :=
  TreeV.move (W := A) (W' := B) (ok' := fun _ => True) (fun b _ hc => ⟨trivial, by
    obtain ⟨o, y, hc⟩ := hc
    refine h.block b (cell_lt hc) (fun e => ?_)
    obtain rfl := Option.some.inj e
    unfold World.cell? at hc
    rw [show A.heap[b]? = _ from hb] at hc
    simp at hc⟩) hv

/-- What visiting a parse does: as many steps less are left. -/
def VisitOk (t : Tr) (x : Nat) (lb : Nat) (w : World) (e : Ending) (w' : World) : Prop :=
  e = .returned (.bool (decide (sizeT t ≤ x))) ∧ (sizeT t ≤ x → Boxed w' lb 3 (.int .i64 ((x - sizeT t : Nat)))) ∧ w.grownBy w' (some lb)

set_option maxRecDepth 100000 in
set_option maxHeartbeats 4000000 in
theorem visit_any : ∀ (t : Tr) (w : World) (v : Value) (lb sb x : Nat), TreeV (fun _ => True) w v t → Boxed w lb 3 (.int .i64 x) → Boxed w sb 53 (.func (.func 87) #[] #[.pointer (some ⟨lb, 0, none⟩), .pointer (some ⟨sb, 0, none⟩)]) → sb ≠ lb → x ≤ 200 →
    Calls Tryz.prog 87 #[v, .pointer (some ⟨lb, 0, none⟩), .pointer (some ⟨sb, 0, none⟩)] w (VisitOk t x lb w) := by
  intro t
  induction t using Tr.ind with
  | h r e wd sub ih =>
    intro w v lb sb x hv hl hs hne hx
    cases hv with
    | mk _ _ _ _ a cap vs hsub hval =>
    obtain ⟨n, hn⟩ : ∃ n, n = sub.length := ⟨_, rfl⟩
    rw [← hn]
    have HN := Lib.hid hn
    have HS := Lib.hid hsub
    have HV := Lib.hid hval
    have HIh := Lib.hid ih
    have HL := Lib.hid hl
    have HSb := Lib.hid hs
    have HNe := Lib.hid hne
    have hlc := hl.cell
    have hlf := hl.frozen
    have hlt := hl.lt
    have hsz : sizeT (.node r e wd sub) = 1 + sizesT sub := by simp only [sizeT]
    have HSz := Lib.hid hsz
    clear hn hsub hval ih hl hs hne hsz
    by_cases h0 : x = 0
    · have hw1 : IntKind.i64.wrap ((x : Int) - 1) = -1 := by rw [h0]; exact IntWalk.i64_in _ (by omega)
      have hd : decide ((-1 : Int) < 0) = true := by decide
      have H0 := Lib.hid h0
      clear h0
      go_enter Tryz.func87, Tryz.ntmps87
      go_wp2
      go_ret
      have hsz := HSz.out
      have h0 := H0.out
      refine ⟨ret_bool ?_, fun h => by omega, grown_trans1 (grownBy_setCell' w lb _) (World.grownBy_alloc _ _ _)⟩
      rw [decide_eq_false (by omega)]
    · obtain ⟨y, hy⟩ : ∃ y, x = y + 1 := ⟨x - 1, by omega⟩
      subst hy
      have hw1 : IntKind.i64.wrap (((y + 1 : Nat) : Int) - 1) = (y : Int) := by rw [show ((y + 1 : Nat) : Int) - 1 = (y : Int) by omega]; exact IntWalk.i64_in _ (by omega)
      have hw2 : IntKind.i64.wrap ((y : Int) + 1 - 1) = (y : Int) := by rw [show (y : Int) + 1 - 1 = (y : Int) by omega]; exact IntWalk.i64_in _ (by omega)
      have hd : decide ((y : Int) < 0) = false := decide_eq_false (by omega)
      have hd' : ¬ (y : Int) < 0 := by omega
      clear h0
      go_enter Tryz.func87, Tryz.ntmps87
      go_wp2
      obtain ⟨W1, hW1⟩ : ∃ W1, W1 = (w.setCell ⟨lb, 0, none⟩ (.int .i64 (y : Int))).alloc (.cells #[.int .u8 r, .int .i64 e, .string ⟨wd.toArray⟩, .slice a n cap] 36) := ⟨_, rfl⟩
      have hg1 : w.grownBy W1 (some lb) := by rw [hW1]; exact grown_trans1 (grownBy_setCell' w lb _) (World.grownBy_alloc _ _ _)
      have hl1 : Boxed W1 lb 3 (.int .i64 y) := by rw [hW1]; exact (HL.out.set _).alloc _
      rw [← hW1]
      have HG1 := Lib.hid hg1
      have HL1 := Lib.hid hl1
      clear hW1 hg1 hl1 hlc hlf hw1 hw2 hd hd'
      go_loopw [14] (fun q wr => ∃ k z : Nat, k ≤ n ∧ q = .int .i64 k ∧ Boxed wr lb 3 (.int .i64 z) ∧ z + sizesT (sub.take k) = y ∧ w.grownBy wr (some lb)) (fun q _ => n - (intOf q).toNat)
      case atStart => exact ⟨0, y, Nat.zero_le _, rfl, HL1.out, by simp [sizesT], HG1.out⟩
      case round =>
        obtain ⟨k, z, hk, rfl, hlz, hzs, hgr⟩ := hrel
        have hk200 : k ≤ 200 := by have := len_sizes sub k (by rw [← HN.out]; exact hk); omega
        have HLz := Lib.hid hlz
        have HZs := Lib.hid hzs
        have HGr := Lib.hid hgr
        clear hlz hzs hgr
        by_cases hlt : k < n
        · have hd : decide ((k : Int) < (n : Int)) = true := decide_eq_true (by omega)
          have hkl : k < sub.length := by rw [← HN.out]; exact hlt
          have hsb : sub ≠ [] := by intro h; rw [h] at hkl; simp at hkl
          obtain ⟨b, off, rfl, _, hc⟩ := HS.out.resolve_left hsb
          have htv := HV.out k hkl
          obtain ⟨q, hq⟩ := htv.form
          obtain ⟨y0, y1, y2, y3, hy, g0, g1, g2, g3⟩ := hc k hkl
          rw [hq] at hy htv
          unfold TV.val at hy
          simp only [Value.agg.injEq, Array.mk.injEq, List.cons.injEq, and_true] at hy
          obtain ⟨rfl, rfl, rfl, rfl⟩ := hy
          have hbl : b ≠ lb := by
            rintro rfl
            have h1 := HL.out
            unfold World.cell? at g1
            rw [show w.heap[b]? = _ from h1] at g1
            simp at g1
          have d0 := cell_grown1 HGr.out g0 hbl
          have d1 := cell_grown1 HGr.out g1 hbl
          have d2 := cell_grown1 HGr.out g2 hbl
          have d3 := cell_grown1 HGr.out g3 hbl
          have dsb : wr.cell? ⟨sb, 0, none⟩ = some (.func (.func 87) #[] #[.pointer (some ⟨lb, 0, none⟩), .pointer (some ⟨sb, 0, none⟩)]) := cell_grown1 HGr.out HSb.out.cell HNe.out
          have hsl := cell_lt dsb
          simp only at hsl
          have htr := tree_grown1 HL.out HGr.out htv
          have HTr := Lib.hid htr
          have hsbr : Boxed wr sb 53 (.func (.func 87) #[] #[.pointer (some ⟨lb, 0, none⟩), .pointer (some ⟨sb, 0, none⟩)]) := (HGr.out.block sb HSb.out.lt (fun e => HNe.out (Option.some.inj e))).trans HSb.out
          have HSbr := Lib.hid hsbr
          clear g0 g1 g2 g3 hc htv hq htr hsbr
          go_wp2_with fail
          obtain ⟨w2, hw2⟩ : ∃ w2, w2 = wr.alloc (.cells #[.int .u8 q.r, .int .i64 q.e, .string q.w, .slice q.a q.n q.c] 36) := ⟨_, rfl⟩
          have hb2 : Below wr.heap.size wr w2 := by rw [hw2]; exact (Below.refl _ _).alloc (Nat.le_refl _) _
          rw [← hw2]
          clear hw2 d0 d1 d2 d3 dsb
          have hcall := HIh.out sub[k] (List.getElem_mem hkl) w2 q.val lb sb z (tree_grown1 HLz.out (grown_below1 hb2) HTr.out) (boxed_below HLz.out hb2) (boxed_below HSbr.out hb2) HNe.out (by have := HZs.out; omega)
          have HB2 := Lib.hid hb2
          have hstp := sizesT_take sub k hkl
          have HStp := Lib.hid hstp
          clear hb2 hstp
          refine hcall.mono ?_
          clear hcall
          rintro _ w3 ⟨rfl, hok, hg3⟩
          have HG3 := Lib.hid (grown_trans1 HGr.out (grown_trans1 (grown_below1 HB2.out) hg3))
          by_cases hsz2 : sizeT sub[k] ≤ z
          · have hl3 := hok hsz2
            rw [decide_eq_true hsz2]
            have HL3 := Lib.hid hl3
            have HZ2 := Lib.hid hsz2
            clear hok hg3 hl3 hsz2
            go_wp2
            go_roundw
            case rel => exact ⟨k + 1, z - sizeT sub[k], by omega, by go_num, HL3.out, by have := HStp.out; have := HZs.out; have := HZ2.out; omega, HG3.out⟩
            case measure => simp [intOf]; omega
          · rw [decide_eq_false hsz2]
            have HZ2 := Lib.hid hsz2
            clear hok hg3 hsz2
            go_wp2
            go_ret
            have h1 := HStp.out
            have h2 := HZs.out
            have h3 := HZ2.out
            have h4 := sizesT_le sub (k + 1)
            have h5 := HSz.out
            refine ⟨ret_bool ?_, fun h => by omega, HG3.out⟩
            rw [decide_eq_false (by omega)]
        · have hd : decide ((k : Int) < (n : Int)) = false := decide_eq_false (by omega)
          obtain rfl : k = n := by omega
          go_wp2
          go_ret
          have h2 := HZs.out
          rw [List.take_of_length_le (by rw [← HN.out]; omega)] at h2
          have h5 := HSz.out
          refine ⟨ret_bool ?_, fun _ => ?_, HGr.out⟩
          · rw [decide_eq_true (by omega)]
          · rw [show y + 1 - sizeT (.node r e wd sub) = z by omega]
            exact HLz.out
/-- **measured.** -/
theorem measured_any (w : World) (v : Value) (t : Tr) (hv : TreeV (fun _ => True) w v t) : Calls Tryz.prog 54 #[v] w fun e w' => e = .returned (.bool (decide (sizeT t ≤ 200))) ∧ Below w.heap.size w w' := by
  obtain ⟨q, rfl⟩ := hv.form
  have HV := Lib.hid hv
  clear hv
  unfold TV.val
  go_enter Tryz.func54, Tryz.ntmps54
  go_wp2_with fail
  obtain ⟨W1, hW1⟩ : ∃ W1, W1 = ((w.alloc (.cells #[.int .u8 q.r, .int .i64 q.e, .string q.w, .slice q.a q.n q.c] 36)).alloc (.cells #[.int .i64 200] 3)).alloc (.cells #[.func (.func 87) #[] #[.pointer (some ⟨w.heap.size + 1, 0, none⟩), .pointer (some ⟨w.heap.size + 1 + 1, 0, none⟩)]] 53) := ⟨_, rfl⟩
  have hb : Below w.heap.size w W1 := by rw [hW1]; exact (((Below.refl _ _).alloc (by first | (simp; done) | (simp; omega)) _).alloc (by first | (simp; done) | (simp; omega)) _).alloc (by first | (simp; done) | (simp; omega)) _
  have hl : Boxed W1 (w.heap.size + 1) 3 (.int .i64 (200 : Nat)) := by rw [hW1]; exact (Below.heap_alloc _ _ _ (by simp)).trans (heap_atC (by simp))
  have hs : Boxed W1 (w.heap.size + 1 + 1) 53 (.func (.func 87) #[] #[.pointer (some ⟨w.heap.size + 1, 0, none⟩), .pointer (some ⟨w.heap.size + 1 + 1, 0, none⟩)]) := by rw [hW1]; exact heap_atC (by simp)
  rw [← hW1]
  have hcall := visit_any t W1 q.val (w.heap.size + 1) (w.heap.size + 1 + 1) 200 (TreeV.move (W := w) (W' := W1) (ok' := fun _ => True) (fun c _ h => ⟨trivial, by obtain ⟨_, _, h⟩ := h; exact hb.block c (cell_lt h)⟩) HV.out) hl hs (by omega) (Nat.le_refl _)
  have HB := Lib.hid hb
  clear hW1 hb hl hs
  refine hcall.mono ?_
  clear hcall
  rintro _ w3 ⟨rfl, _, hg⟩
  have HG := Lib.hid hg
  clear hg
  go_wp2
  go_ret
  exact ⟨rfl, HB.out.grown HG.out HB.out.size (fun k hk => by cases hk; omega)⟩
end Go.Proofs.YthmnffgjckpkiaaGreatDoor
