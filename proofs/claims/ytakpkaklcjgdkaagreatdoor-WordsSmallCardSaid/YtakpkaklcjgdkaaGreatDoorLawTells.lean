/-
  The walk of 'WordsTells'.
-/
import Derived.Test.YtakpkaklcjgdkaaGreatDoorRefRem
import Derived.Test.YtakpkaklcjgdkaaGreatDoorRefLook
import Derived.Deep.RegionHeld3
import Derived.Deep.DrawnRows
namespace Go.Proofs.YtakpkaklcjgdkaaGreatDoor
open Go Go.RowKit

attribute [local go_sem ↓] Go.wp_at_zero Go.wp_at_succ

theorem Look_any (W0 w : World) (ht : Tabs W0 w) (v : Value) (l : List Ent) (hl : EntSlice w v l) (tok : ByteArray) :
    Calls Tryz.prog 24 #[v, .string tok] w fun r w' => ∃ r', r = .returned (.tuple #[r', .int .i64 (if validS l then 0 else 2)]) ∧ FormSlice w' r' (if validS l then lookS tok.data.toList l else []) ∧ Below w.heap.size w w' := by
  cases hv : validS l
  · refine (Look_no W0 w ht v l hl tok hv).mono ?_
    rintro r w' ⟨rfl, hb⟩
    exact ⟨_, rfl, ⟨none, 0, rfl, .inl rfl⟩, hb⟩
  · exact Look_yes W0 w ht v l hl tok hv
theorem addS_ok {l : List Ent} {e : Ent} (hl : ∀ o ∈ l, o.ok) (he : e.ok) : ∀ o ∈ (addS l e).1, o.ok := by
  intro o ho
  unfold addS at ho
  split at ho
  · split at ho
    · simp at ho
    · split at ho
      · simp at ho
      · split at ho
        · simp at ho
        · have ho : o ∈ putAt l (thoseS (fun o => decide (compareS o e < 0)) l).length e := ho
          rcases mem_putAt.1 ho with rfl | ho
          · exact he
          · exact hl o ho
  · simp at ho
theorem removeS_ok {l : List Ent} {word : ByteArray} {cat : Int} (hl : ∀ o ∈ l, o.ok) : ∀ o ∈ (removeS l word cat).1, o.ok := by
  intro o ho
  unfold removeS at ho
  split at ho
  · split at ho
    · simp at ho
    · rcases List.mem_append.1 ho with ho | ho
      · exact hl o (List.mem_of_mem_take ho)
      · exact hl o (List.mem_of_mem_drop ho)
  · simp at ho
theorem addS_len (l : List Ent) (e : Ent) : (addS l e).1.length ≤ l.length + 1 := by
  unfold addS
  split
  · split
    · simp
    · split
      · simp
      · split
        · simp
        · show (putAt l _ e).length ≤ _; rw [putAt_len]; omega
  · simp
theorem removeS_len (l : List Ent) (word : ByteArray) (cat : Int) : (removeS l word cat).1.length ≤ l.length := by
  unfold removeS
  split
  · split
    · simp
    · simp only [List.length_append, List.length_take, List.length_drop]; omega
  · simp
theorem owns_nilform {w : World} {base : Nat} {v : Value} {l : List Ent} (h : OwnEnts w base v l) : ∀ n cap, v = .slice none n cap → v = .slice none 0 0 := by
  rcases h.2 with ⟨h, _⟩ | ⟨g, cap, cur, h, _⟩
  · intro n c _; exact h
  · intro n c h'; rw [h] at h'; simp at h'

set_option maxRecDepth 100000 in
set_option maxHeartbeats 32000000 in
theorem tells_any (W0 w : World) (ht : Tabs W0 w) (v : Value) (l : List Ent) (hl : EntSlice w v l) (hn : l.length ≤ 1000) (e : Ent) (he : e.ok) (tok : ByteArray) :
    Calls Tryz.prog 9 #[v, .agg #[.string e.word, .int .u8 e.cat, .string e.sym], .string tok] w fun r w' => r = .returned (.bool true) ∧ Below w.heap.size w w' := by
  have HL := Lib.hid hl
  have HE := Lib.hid he
  clear hl he
  have hx0 : Below w.heap.size w (w.alloc (.cells #[.string e.word, .int .u8 e.cat, .string e.sym] 26)) := (Below.refl _ _).alloc (Nat.le_refl _) _
  have q0 : (w.alloc (.cells #[.string e.word, .int .u8 e.cat, .string e.sym] 26)).cell? ⟨w.heap.size, 0, none⟩ = some (.string e.word) := by simp
  have q1 : (w.alloc (.cells #[.string e.word, .int .u8 e.cat, .string e.sym] 26)).cell? ⟨w.heap.size, 1, none⟩ = some (.int .u8 e.cat) := by simp
  have q2 : (w.alloc (.cells #[.string e.word, .int .u8 e.cat, .string e.sym] 26)).cell? ⟨w.heap.size, 2, none⟩ = some (.string e.sym) := by simp
  go_enter Tryz.func9, Tryz.ntmps9
  go_wp2_with fail
  refine (Given_any _ v l (HL.out.below hx0) (by omega)).mono ?_
  rintro r w1 ⟨v1, rfl, ho1, hb1⟩
  have hx1 := hx0.trans (hb1.mono hx0.size)
  have HS1 := Lib.hid (entSlice_of_rowR ho1 HL.out.ok)
  have q0 := cell_kept' hb1 q0
  have q1 := cell_kept' hb1 q1
  have q2 := cell_kept' hb1 q2
  clear ho1
  go_wp2_with fail
  refine (Taken_any _ v1 l HS1.out (by omega)).mono ?_
  rintro r w2 ⟨v2, rfl, ho2, hb2⟩
  have hx2 := hx1.trans (hb2.mono hx1.size)
  have HS2 := Lib.hid (entSlice_of_owns ho2 HL.out.ok)
  have HN2 := Lib.hid (owns_nilform ho2)
  have q0 := cell_kept' hb2 q0
  have q1 := cell_kept' hb2 q1
  have q2 := cell_kept' hb2 q2
  clear ho2 HS1
  go_wp2_with fail
  refine (Given_any _ v l (HL.out.below hx2) (by omega)).mono ?_
  rintro r w3 ⟨v3, rfl, ho3, hb3⟩
  have hx3 := hx2.trans (hb3.mono hx2.size)
  have HI3 := Lib.hid (HS2.out.below hb3)
  have HR3 := Lib.hid (entSlice_of_rowR ho3 HL.out.ok)
  have q0 := cell_kept' hb3 q0
  have q1 := cell_kept' hb3 q1
  have q2 := cell_kept' hb3 q2
  clear ho3 HS2
  go_wp2_with fail
  refine (Add_any W0 _ (ht.next hx3) v2 l HI3.out HN2.out e HE.out).mono ?_
  rintro r w4 ⟨v4, rfl, ho4, hb4⟩
  have hy4 := hb4
  have HO4 := Lib.hid ho4
  have q0 := cell_kept' hb4 q0
  have q1 := cell_kept' hb4 q1
  have q2 := cell_kept' hb4 q2
  clear ho4 hb4
  go_wp2_with fail
  refine (rAdd_any _ v3 l (HR3.out.below hy4) (by omega) e HE.out).mono ?_
  rintro r w5 ⟨v5, rfl, ho5, hb5⟩
  have hy5 := hy4.trans (hb5.mono hy4.size)
  have HO5 := Lib.hid ho5
  have q0 := cell_kept' hb5 q0
  have q1 := cell_kept' hb5 q1
  have q2 := cell_kept' hb5 q2
  clear ho5
  go_wp2_with fail
  refine (Remove_any W0 _ (ht.next (hx3.trans (hy5.mono hx3.size))) v2 l (HI3.out.below hy5) tok e.cat).mono ?_
  rintro r w6 ⟨v6, rfl, ho6, hb6⟩
  have hy6 := hy5.trans (hb6.mono hy5.size)
  have HO6 := Lib.hid ho6
  have q0 := cell_kept' hb6 q0
  have q1 := cell_kept' hb6 q1
  have q2 := cell_kept' hb6 q2
  clear ho6
  go_wp2_with fail
  refine (rRemove_any _ v3 l (HR3.out.below hy6) (by omega) tok e.cat).mono ?_
  rintro r w7 ⟨v7, rfl, ho7, hb7⟩
  have hy7 := hy6.trans (hb7.mono hy6.size)
  have HO7 := Lib.hid ho7
  have q0 := cell_kept' hb7 q0
  have q1 := cell_kept' hb7 q1
  have q2 := cell_kept' hb7 q2
  clear ho7
  obtain ⟨ef, hef⟩ : ∃ ef : Int, ef = if validS l then 0 else 2 := ⟨_, rfl⟩
  obtain ⟨fs, hfs⟩ : ∃ fs, fs = if validS l then lookS tok.data.toList l else [] := ⟨_, rfl⟩
  have hfl : fs.length ≤ 1000 := by
    rw [hfs]; split
    · rw [lookS, List.length_map]; exact Nat.le_trans (thoseTo_len _ _ _) hn
    · simp
  have HEf := Lib.hid hef
  have HFs := Lib.hid hfs
  clear hef hfs
  obtain ⟨la, hla⟩ : ∃ la, la = addS l e := ⟨_, rfl⟩
  obtain ⟨lr, hlr⟩ : ∃ lr, lr = removeS l tok e.cat := ⟨_, rfl⟩
  rw [← hla, ← hlr]
  rw [← hla] at HO4 HO5
  rw [← hlr] at HO6 HO7
  have hA := addS_len l e
  have hR := removeS_len l tok e.cat
  have hAk := addS_ok HL.out.ok HE.out
  have hRk := removeS_ok (word := tok) (cat := e.cat) HL.out.ok
  rw [← hla] at hA hAk
  rw [← hlr] at hR hRk
  obtain ⟨A, ex⟩ := la
  obtain ⟨C, ez⟩ := lr
  simp only [] at HO4 HO5 HO6 HO7 hA hR hAk hRk ⊢
  have HAk := Lib.hid hAk
  have HRk := Lib.hid hRk
  clear hla hlr hAk hRk
  go_wp2_with fail
  have HLk := Look_any W0 _ (ht.next (hx3.trans (hy7.mono hx3.size))) v2 l (HI3.out.below hy7) tok
  rw [← HEf.out, ← HFs.out] at HLk
  refine HLk.mono ?_
  rintro r w8 ⟨v8, rfl, ho8, hb8⟩
  have hy8 := hy7.trans (hb8.mono hy7.size)
  have q0 := cell_kept' hb8 q0
  have q1 := cell_kept' hb8 q1
  have q2 := cell_kept' hb8 q2
  obtain ⟨a8, c8, rfl, hc8⟩ := ho8
  have HC8 := Lib.hid hc8
  clear hc8 HLk
  go_wp2_with fail
  have HLk := rLook_any w8 v3 l (HR3.out.below hy8) (by omega) tok
  rw [← HEf.out, ← HFs.out] at HLk
  refine HLk.mono ?_
  rintro r w9 ⟨v9, rfl, ho9, hb9⟩
  have hy9 := hy8.trans (hb9.mono hy8.size)
  have q0 := cell_kept' hb9 q0
  have q1 := cell_kept' hb9 q1
  have q2 := cell_kept' hb9 q2
  obtain ⟨a9, c9, rfl, hc9⟩ := ho9
  have HC9 := Lib.hid hc9
  clear hc9 HLk
  have hx9 := hx3.trans (hy9.mono hx3.size)
  obtain ⟨bv, hbv⟩ : ∃ b, b = validS l := ⟨_, rfl⟩
  obtain ⟨br, hbr⟩ : ∃ b, b = rightS e := ⟨_, rfl⟩
  have CV : Hid (∀ W, Below w9.heap.size w9 W → Calls Tryz.prog 26 #[v2] W fun r W' => r = .returned (.bool bv) ∧ Below w9.heap.size w9 W') := Lib.hid (fun W hW => (hbv ▸ Valid_any W0 W (ht.next (hx9.trans (hW.mono hx9.size))) v2 l (HI3.out.below (hy9.trans (hW.mono hy9.size)))).mono fun r W' ⟨h1, h2⟩ => ⟨h1, hW.trans (h2.mono hW.size)⟩)
  have CW : Hid (∀ W, Below w9.heap.size w9 W → Calls Tryz.prog 34 #[v3] W fun r W' => r = .returned (.bool bv) ∧ Below w9.heap.size w9 W') := Lib.hid (fun W hW => (hbv ▸ rValid_any W v3 l (HR3.out.below (hy9.trans (hW.mono hy9.size)))).mono fun r W' ⟨h1, h2⟩ => ⟨h1, hW.trans (h2.mono hW.size)⟩)
  have CR : Hid (∀ W, Below w9.heap.size w9 W → Calls Tryz.prog 35 #[.agg #[.string e.word, .int .u8 e.cat, .string e.sym]] W fun r W' => r = .returned (.bool br) ∧ Below w9.heap.size w9 W') := Lib.hid (fun W hW => (hbr ▸ Right_any W0 W (ht.next (hx9.trans (hW.mono hx9.size))) e HE.out).mono fun r W' ⟨h1, h2⟩ => ⟨h1, hW.trans (h2.mono hW.size)⟩)
  have CS : Hid (∀ W, Below w9.heap.size w9 W → Calls Tryz.prog 36 #[.agg #[.string e.word, .int .u8 e.cat, .string e.sym]] W fun r W' => r = .returned (.bool br) ∧ Below w9.heap.size w9 W') := Lib.hid (fun W hW => (hbr ▸ rRight_any W e HE.out).mono fun r W' ⟨h1, h2⟩ => ⟨h1, hW.trans (h2.mono hW.size)⟩)
  have ha4 := Lib.hid (entSlice_of_owns (ownsRow_below HO4.out (((((hb5.trans (hb6.mono hb5.size)).trans (hb7.mono (by have := hb5.size; have := hb6.size; omega))).trans (hb8.mono (by have := hb5.size; have := hb6.size; have := hb7.size; omega))).trans (hb9.mono (by have := hb5.size; have := hb6.size; have := hb7.size; have := hb8.size; omega))))) HAk.out)
  have ha5 := Lib.hid (entSlice_of_rowR (ownsRow_below HO5.out ((((hb6.trans (hb7.mono hb6.size)).trans (hb8.mono (by have := hb6.size; have := hb7.size; omega))).trans (hb9.mono (by have := hb6.size; have := hb7.size; have := hb8.size; omega))))) HAk.out)
  have ha6 := Lib.hid (entSlice_of_owns (ownsRow_below HO6.out (((hb7.trans (hb8.mono hb7.size)).trans (hb9.mono (by have := hb7.size; have := hb8.size; omega))))) HRk.out)
  have ha7 := Lib.hid (entSlice_of_rowR (ownsRow_below HO7.out ((hb8.trans (hb9.mono hb8.size)))) HRk.out)
  have CT : Hid (∀ W, Below w9.heap.size w9 W → Calls Tryz.prog 27 #[v5] W fun r W' => ∃ v', r = .returned v' ∧ EntSlice W' v' A ∧ Below w9.heap.size w9 W') := Lib.hid (fun W hW => (Taken_any W v5 A (ha5.out.below hW) (by omega)).mono fun r W' ⟨v', h1, h2, h3⟩ => ⟨v', h1, entSlice_of_owns h2 HAk.out, hW.trans (h3.mono hW.size)⟩)
  have CU : Hid (∀ W, Below w9.heap.size w9 W → Calls Tryz.prog 27 #[v7] W fun r W' => ∃ v', r = .returned v' ∧ EntSlice W' v' C ∧ Below w9.heap.size w9 W') := Lib.hid (fun W hW => (Taken_any W v7 C (ha7.out.below hW) (by omega)).mono fun r W' ⟨v', h1, h2, h3⟩ => ⟨v', h1, entSlice_of_owns h2 HRk.out, hW.trans (h3.mono hW.size)⟩)
  have CX : Hid (∀ W v', Below w9.heap.size w9 W → EntSlice W v' A → Calls Tryz.prog 37 #[v4, v'] W fun r W' => r = .returned (.bool true) ∧ Below w9.heap.size w9 W') := Lib.hid (fun W v' hW hv' => (Same_eq W v4 v' A (ha4.out.below hW) hv').mono fun r W' ⟨h1, h2⟩ => ⟨h1, hW.trans (h2.mono hW.size)⟩)
  have CY : Hid (∀ W v', Below w9.heap.size w9 W → EntSlice W v' C → Calls Tryz.prog 37 #[v6, v'] W fun r W' => r = .returned (.bool true) ∧ Below w9.heap.size w9 W') := Lib.hid (fun W v' hW hv' => (Same_eq W v6 v' C (ha6.out.below hW) hv').mono fun r W' ⟨h1, h2⟩ => ⟨h1, hW.trans (h2.mono hW.size)⟩)
  have hdr : Below w9.heap.size w9 w9.drew := (Below.refl _ _).drew
  clear hbv hbr
  have T1 : True := trivial
  have T2 : True := trivial
  go_wp2_with fail
  go_region_held3 (fun w' => w'.cell? ⟨w.heap.size, 0, none⟩ = some (.string e.word) ∧ w'.cell? ⟨w.heap.size, 1, none⟩ = some (.int .u8 e.cat) ∧ w'.cell? ⟨w.heap.size, 2, none⟩ = some (.string e.sym))
    (first | go_keep | exact ⟨cell_kept' (by assumption) q0, cell_kept' (by assumption) q1, cell_kept' (by assumption) q2⟩)
    (first
      | (go_at_call 26; refine (CV.out _ (by assumption)).mono ?_; rintro r W1 ⟨rfl, hW1⟩)
      | (go_at_call 34; refine (CW.out _ (by assumption)).mono ?_; rintro r W2 ⟨rfl, hW2⟩)
      | (go_at_call 35; refine (CR.out _ (by assumption)).mono ?_; rintro r W3 ⟨rfl, hW3⟩)
      | (go_at_call 36; refine (CS.out _ (by assumption)).mono ?_; rintro r W4 ⟨rfl, hW4⟩)
      | (go_at_call 27; have _t := T1; refine (CT.out _ (by assumption)).mono ?_; rintro r W5 ⟨v10, rfl, hv10, hW5⟩; clear T1 _t)
      | (go_at_call 27; refine (CU.out _ (by assumption)).mono ?_; rintro r W6 ⟨v11, rfl, hv11, hW6⟩)
      | (go_at_call 37; have _t := T2; refine (CX.out _ _ (by assumption) (by assumption)).mono ?_; rintro r W7 ⟨rfl, hW7⟩; clear T2 _t)
      | (go_at_call 37; refine (CY.out _ _ (by assumption) (by assumption)).mono ?_; rintro r W8 ⟨rfl, hW8⟩))
  have hyW := hy9.trans (hW8.mono hy9.size)
  obtain ⟨WW, hWW⟩ : ∃ WW, WW = W8 := ⟨_, rfl⟩
  rw [← hWW] at hyW hW8 ⊢
  have H8W := Lib.hid (fun (h : fs ≠ []) => HC8.out)
  have hb89 : Below w8.heap.size w8 WW := hb9.trans (hW8.mono hb9.size)
  have hb4W : Below w4.heap.size w4 WW := ((((hb5.trans (hb6.mono hb5.size)).trans (hb7.mono (by have := hb5.size; have := hb6.size; omega))).trans (hb8.mono (by have := hb5.size; have := hb6.size; have := hb7.size; omega))).trans (hb9.mono (by have := hb5.size; have := hb6.size; have := hb7.size; have := hb8.size; omega))).trans (hW8.mono (by have := hb5.size; have := hb6.size; have := hb7.size; have := hb8.size; have := hb9.size; omega))
  have hb6W : Below w6.heap.size w6 WW := ((hb7.trans (hb8.mono hb7.size)).trans (hb9.mono (by have := hb7.size; have := hb8.size; omega))).trans (hW8.mono (by have := hb7.size; have := hb8.size; have := hb9.size; omega))
  have HNe' : Hid (∀ g, v4.ownBlock = some g → v6.ownBlock = none ∨ v6.ownBlock ≠ some g) := Lib.hid (fun g hg => by
    have h1 := (HO4.out.lt g hg).2
    have h2 := hb5.size
    cases h6 : v6.ownBlock with
    | none => exact .inl rfl
    | some k =>
      have h3 := (HO6.out.lt k h6).1
      exact .inr (fun h => by injection h with h; omega))
  have HO4w := Lib.hid (ownsRow_below HO4.out hb4W)
  have HO6w := Lib.hid (ownsRow_below HO6.out hb6W)
  obtain ⟨a4, cap4, rfl⟩ := owns_form HO4.out
  obtain ⟨a6, cap6, rfl⟩ := owns_form HO6.out
  have HNe : Hid (∀ g, a4 = some ⟨g, 0, none⟩ → (Value.slice a6 C.length cap6).ownBlock = none ∨ (Value.slice a6 C.length cap6).ownBlock ≠ some g) := Lib.hid (fun g hg => HNe'.out g (by rw [hg]; rfl))
  have HO4W : Hid (WW.ownsRow w3.heap.size 26 3 (.slice a4 A.length cap4) A.length (A.flatMap entCells)) := HO4w
  have HO6W : Hid (WW.ownsRow w5.heap.size 26 3 (.slice a6 C.length cap6) C.length (C.flatMap entCells)) := HO6w
  clear hWW CV CW CR CS CT CU CX CY ha4 ha5 ha6 ha7 HO4w HO6w HNe' hv10 hv11 hW1 hW2 hW3 hW4 hW5 hW6 hW7 hdr H8W
  go_wp2
  go_loopw [21] (fun i wr => ∃ k : Nat, k ≤ fs.length ∧ i = .int .i64 k ∧ Below WW.heap.size WW wr) (fun i _ => fs.length - (intOf i).toNat)
  case atStart => exact ⟨0, Nat.zero_le _, rfl, Below.refl _ _⟩
  case round =>
    obtain ⟨k, hk, rfl, hb2⟩ := hrel
    by_cases hlt : k < fs.length
    · rcases HC8.out with h0 | ⟨g8, rfl, hg8⟩
      · rw [h0] at hlt; exact absurd hlt (by simp)
      rcases HC9.out with h0 | ⟨g9, rfl, hg9⟩
      · rw [h0] at hlt; exact absurd hlt (by simp)
      obtain ⟨x0, x1⟩ := hg8 k hlt
      obtain ⟨y0, y1⟩ := hg9 k hlt
      obtain ⟨f, hf⟩ : ∃ f, f = fs[k] := ⟨_, rfl⟩
      rw [← hf] at x0 x1 y0 y1
      have f0 := fun x : Later wr => x.get (cell_kept' hb2 (cell_kept' hb89 x0))
      have f1 := fun x : Later wr => x.get (cell_kept' hb2 (cell_kept' hb89 x1))
      have f2 := fun x : Later wr => x.get (cell_kept' hb2 (cell_kept' hW8 y0))
      have f3 := fun x : Later wr => x.get (cell_kept' hb2 (cell_kept' hW8 y1))
      have e3 : (k : Int) < (fs.length : Int) := by omega
      have e5 : (0 : Int) ≤ k := by omega
      clear hg8 hg9 hf x0 x1 y0 y1
      go_wp2
      refine wp_region_later (by kernel_rfl) (by kernel_rfl) ?_
      repeat (go_big_quiet_step (fail))
      refine wpQuiet_nil ?_
      rintro _ ⟨x, rfl⟩
      clear f0 f1 f2 f3
      go_wp2
      go_roundw
      case rel => exact ⟨k + 1, by omega, by go_num, hb2.trans (x.below.mono hb2.size)⟩
      case measure => simp [intOf]; omega
    · obtain rfl : k = fs.length := by omega
      obtain ⟨wp, rfl⟩ : ∃ wp : World, wp = wr := ⟨_, rfl⟩
      have HO4P := Lib.hid (ownsRow_below HO4W.out hb2)
      have HO6P := Lib.hid (ownsRow_below HO6W.out hb2)
      have hyP := hyW.trans (hb2.mono hyW.size)
      clear HO4W HO6W
      go_wp2
      go_loopw [22] (fun i wr => ∃ k : Nat, k ≤ A.length ∧ i = .int .i64 k ∧ (∃ xs, wr.ownsRow w3.heap.size 26 3 (.slice a4 A.length cap4) A.length xs) ∧ wr.ownsRow w5.heap.size 26 3 (.slice a6 C.length cap6) C.length (C.flatMap entCells) ∧ Below w3.heap.size w3 wr) (fun i _ => A.length - (intOf i).toNat)
      case atStart => exact ⟨0, Nat.zero_le _, rfl, ⟨_, HO4P.out⟩, HO6P.out, hyP⟩
      case round =>
        obtain ⟨k, hk, rfl, ⟨xs, hrow⟩, hrest, hbr⟩ := hrel
        have HRow := Lib.hid hrow
        have HRest := Lib.hid hrest
        by_cases hlt : k < A.length
        · rcases hrow.2 with ⟨_, h0⟩ | ⟨g, cap', cur, hs, hbg, _⟩
          · rw [h0] at hlt; exact absurd hlt (by simp)
          injection hs with hs1 _ hs3
          subst hs1 hs3
          have hfz := HRow.out.frozenAt (k * 3)
          have hxl : xs.length = A.length * 3 := HRow.out.1
          obtain ⟨u, hu⟩ : ∃ u, xs[k * 3]? = some u := ⟨_, List.getElem?_eq_getElem (by omega)⟩
          have hcu : wr.cell? ⟨g, k * 3, none⟩ = some u := by rw [HRow.out.cellAt (k * 3) (by omega), hu]
          have HSt := Lib.hid (HRow.out.stored (k * 3) (.string ⟨#[45]⟩))
          clear hrow hrest hxl hu
          have e3 : (k : Int) < (A.length : Int) := by omega
          go_wp2
          go_roundw
          case rel => exact ⟨k + 1, by omega, by go_num, ⟨_, HSt.out.1⟩, HRest.out.kept HSt.out.2 (HNe.out g rfl), hbr.setCell (by omega) _⟩
          case measure => simp [intOf]; omega
        · obtain rfl : k = A.length := by omega
          clear hrow hrest
          obtain ⟨wq, rfl⟩ : ∃ wq : World, wq = wr := ⟨_, rfl⟩
          have HRest2 := HRest
          go_wp2
          go_loopw [23] (fun i wr => ∃ k : Nat, k ≤ C.length ∧ i = .int .i64 k ∧ (∃ xs, wr.ownsRow w5.heap.size 26 3 (.slice a6 C.length cap6) C.length xs) ∧ Below w3.heap.size w3 wr) (fun i _ => C.length - (intOf i).toNat)
          case atStart => exact ⟨0, Nat.zero_le _, rfl, ⟨_, HRest2.out⟩, hbr⟩
          case round =>
            obtain ⟨k, hk, rfl, ⟨xs, hrow⟩, hbr⟩ := hrel
            have HRow := Lib.hid hrow
            by_cases hlt : k < C.length
            · rcases hrow.2 with ⟨_, h0⟩ | ⟨g, cap', cur, hs, hbg, _⟩
              · rw [h0] at hlt; exact absurd hlt (by simp)
              injection hs with hs1 _ hs3
              subst hs1 hs3
              have hfz := HRow.out.frozenAt (k * 3)
              have hxl : xs.length = C.length * 3 := HRow.out.1
              obtain ⟨u, hu⟩ : ∃ u, xs[k * 3]? = some u := ⟨_, List.getElem?_eq_getElem (by omega)⟩
              have hcu : wr.cell? ⟨g, k * 3, none⟩ = some u := by rw [HRow.out.cellAt (k * 3) (by omega), hu]
              have HSt := Lib.hid (HRow.out.stored (k * 3) (.string ⟨#[45]⟩))
              clear hrow hxl hu
              have e3 : (k : Int) < (C.length : Int) := by omega
              go_wp2
              go_roundw
              case rel => exact ⟨k + 1, by omega, by go_num, ⟨_, HSt.out.1⟩, hbr.setCell (Nat.le_trans hy5.size hbg) _⟩
              case measure => simp [intOf]; omega
            · obtain rfl : k = C.length := by omega
              clear hrow
              go_wp2_with fail
              refine (Same_eq _ v2 v l (HI3.out.below hbr) (HL.out.below (hx3.trans (hbr.mono hx3.size)))).mono ?_
              rintro r wz ⟨rfl, hbz⟩
              go_wp2
              go_ret
              exact ⟨rfl, (hx3.trans (hbr.mono hx3.size)).trans (hbz.mono (hx3.trans (hbr.mono hx3.size)).size)⟩
end Go.Proofs.YtakpkaklcjgdkaaGreatDoor
