/-
  The walk of 'WordsWrong'.
-/
import Derived.Test.YtakpkaklcjgdkaaDoorAppend
import Derived.Test.YtakpkaklcjgdkaaDoorTellsLaw
import Derived.Deep.RegionHeld3
import Derived.Deep.DeepCutAuto
import Derived.Deep.AppendLies
import Derived.Deep.DrawnRows
namespace Go.Proofs.YtakpkaklcjgdkaaDoor
open Go Go.RowKit

/-- An entry with a fault. -/
theorem add_wrong {l : List Ent} {e : Ent} (hr : rightS e = false) : addS l e = ([], 2) := by unfold addS; rw [hr, Bool.and_false]; rfl
theorem valid_wrong {l : List Ent} {e : Ent} (hr : rightS e = false) : validS (l ++ [e]) = false := by
  cases hv : validS (l ++ [e])
  · rfl
  · have := ((valid_iff _).1 hv).2.1 e (by simp); rw [hr] at this; cases this

theorem strs3 {w : World} {g : Nat} {a b c : ByteArray} (h0 : w.cell? ⟨g, 0, none⟩ = some (.string a)) (h1 : w.cell? ⟨g, 1, none⟩ = some (.string b)) (h2 : w.cell? ⟨g, 2, none⟩ = some (.string c)) :
    StrSlice w (.slice (some ⟨g, 0, none⟩) 3 3) [a.data.toList, b.data.toList, c.data.toList] := by
  refine ⟨_, 3, rfl, Nat.le_refl _, by decide, .inr ⟨g, 0, rfl, fun j hj => ?_⟩⟩
  have : j = 0 ∨ j = 1 ∨ j = 2 := by simp at hj; omega
  rcases this with rfl | rfl | rfl
  · simpa using h0
  · simpa using h1
  · simpa using h2

theorem two_fst (w : World) (o o' : Obj) : ((w.alloc o).alloc o').drew.heap[w.heap.size]? = some o := by
  have h : ((w.alloc o).alloc o').heap[w.heap.size]? = (w.alloc o).heap[w.heap.size]? := ((Below.refl _ _).alloc (Nat.le_refl _) o' : Below (w.alloc o).heap.size _ _).block _ (by simp)
  exact h.trans (heap_alloc_new w o)
theorem two_snd (w : World) (o o' : Obj) : ((w.alloc o).alloc o').drew.heap[w.heap.size + 1]? = some o' := by
  have h := heap_alloc_new (w.alloc o) o'
  have e : (w.alloc o).heap.size = w.heap.size + 1 := by simp
  rw [e] at h
  exact h
theorem one_below {B : Nat} (w : World) (o : Obj) (h : B ≤ w.heap.size) : Below B w (w.alloc o).drew := ((Below.refl _ _).alloc h _).drew
theorem two_below {B : Nat} (w : World) (o o' : Obj) (h : B ≤ w.heap.size) : Below B w ((w.alloc o).alloc o').drew := (((Below.refl _ _).alloc h _).alloc (by simp; omega) _).drew
theorem one_grown {w w' : World} {o : Obj} {b : Option Nat} (h : (w.alloc o).drew.grownBy w' b) (hb : b = some w.heap.size) : Below w.heap.size w w' :=
  (one_below w o (Nat.le_refl _)).grown h (one_below w o (Nat.le_refl _)).size (fun k hk => by rw [hb] at hk; injection hk with hk; omega)
theorem two_grown {w w' : World} {o o' : Obj} {b : Option Nat} (h : ((w.alloc o).alloc o').drew.grownBy w' b) (hb : b = some w.heap.size ∨ b = some (w.heap.size + 1)) : Below w.heap.size w w' :=
  (two_below w o o' (Nat.le_refl _)).grown h (two_below w o o' (Nat.le_refl _)).size (fun k hk => by rcases hb with hb | hb <;> (rw [hb] at hk; injection hk with hk; omega))

theorem two_keep2 {w w' : World} {o o' : Obj} {b : Option Nat} (h : ((w.alloc o).alloc o').drew.grownBy w' b) (hb : b = some w.heap.size) : w'.heap[w.heap.size + 1]? = some o' :=
  (h.block (w.heap.size + 1) (by simp) (by rw [hb]; simp)).trans (two_snd w o o')
theorem two_keep1 {w w' : World} {o o' : Obj} {b : Option Nat} (h : ((w.alloc o).alloc o').drew.grownBy w' b) (hb : b = some (w.heap.size + 1)) : w'.heap[w.heap.size]? = some o :=
  (h.block w.heap.size (by simp; omega) (by rw [hb]; simp)).trans (two_fst w o o')

attribute [local go_sem ↓] Go.wp_at_zero Go.wp_at_succ

set_option maxRecDepth 100000 in
set_option maxHeartbeats 16000000 in
theorem WordsWrong_any (W0 w : World) (ht : Tabs W0 w) (v : Value) (l : List Ent) (hl : EntSlice w v l) (h0 : ∀ n cap, v = .slice none n cap → v = .slice none 0 0) (c : Int) (hc0 : 0 ≤ c) (hc1 : c ≤ 255) :
    Calls Tryd.prog 8 #[v, .int .u8 c] w fun r w' => r = .returned (.bool true) ∧ Below w.heap.size w w' := by
  have HL := Lib.hid hl
  have H0 := Lib.hid h0
  clear hl h0
  have HA := Lib.hid (awake_any W0 _ ht)
  go_enter Tryd.func8, Tryd.ntmps8
  go_wp2_with fail
  refine HA.out.mono ?_
  rintro r w1 ⟨rfl, hx1⟩
  obtain ⟨b1, hb1e⟩ : ∃ b, b = smallL l := ⟨_, rfl⟩
  have HB1 := Lib.hid hb1e
  go_wp2_with fail
  refine (Small_any _ v l (HL.out.below hx1)).mono ?_
  rintro r w2 ⟨rfl, rfl⟩
  rw [← hb1e]
  clear hb1e
  cases b1
  · go_wp2
    go_ret
    exact ⟨rfl, hx1⟩
  obtain ⟨b2, hb2e⟩ : ∃ b, b = validS l := ⟨_, rfl⟩
  have HB2 := Lib.hid hb2e
  go_wp2_with fail
  refine (Valid_any W0 _ (ht.next hx1) v l (HL.out.below hx1)).mono ?_
  rintro r w2 ⟨rfl, hb2⟩
  have hx2 := hx1.trans (hb2.mono hx1.size)
  rw [← hb2e]
  clear hb2e
  cases b2
  · go_wp2
    go_ret
    exact ⟨rfl, hx2⟩
  have HV : Hid (validS l = true) := Lib.hid HB2.out.symm
  go_wp2_with fail
  all_goals
    refine (Add_any W0 _ ?_ v l ?_ H0.out ⟨_, _, _⟩ ?_).mono ?_
    · exact (ht.next hx2).alloc _ |>.alloc _
    · exact HL.out.below (((hx2.alloc hx2.size _).alloc (by have := hx2.size; simp; omega) _))
    · exact ⟨by decide, by decide⟩
    rintro r w3 ⟨v3, rfl, ho3, hb3⟩
    rw [add_wrong (by decide)] at ho3 ⊢
    obtain ⟨a3, c3, rfl⟩ := owns_form ho3
    clear ho3
    have q0 : w3.cell? ⟨w2.heap.size, 0, none⟩ = some _ := cell_kept' hb3 (by simp; rfl)
    have q1 : w3.cell? ⟨w2.heap.size, 1, none⟩ = some _ := cell_kept' hb3 (by simp; rfl)
    have q2 : w3.cell? ⟨w2.heap.size, 2, none⟩ = some _ := cell_kept' hb3 (by simp; rfl)
    have p0 : w3.cell? ⟨w2.heap.size + 1, 0, none⟩ = some _ := cell_kept' hb3 (by simp; rfl)
    have p1 : w3.cell? ⟨w2.heap.size + 1, 1, none⟩ = some _ := cell_kept' hb3 (by simp; rfl)
    have p2 : w3.cell? ⟨w2.heap.size + 1, 2, none⟩ = some _ := cell_kept' hb3 (by simp; rfl)
    have hx3 := hx2.trans (((((Below.refl w2.heap.size w2).alloc (Nat.le_refl _) _).alloc (by simp) _).trans (hb3.mono (by simp; omega))).mono hx2.size)
    first
      | (refine (show ∀ (e : Ent) (tk : List (List UInt8)), w3.cell? ⟨w2.heap.size, 0, none⟩ = some (.string e.word) → w3.cell? ⟨w2.heap.size, 1, none⟩ = some (.int .u8 e.cat) → w3.cell? ⟨w2.heap.size, 2, none⟩ = some (.string e.sym) → rightS e = false → e.ok →
          StrSlice w3 (.slice (some ⟨w2.heap.size + 1, 0, none⟩) 3 3) tk → textS tk = ([], 2) → tk.length ≤ 3 → (∀ t ∈ tk, t.length ≤ 100) → _ from ?_) ⟨_, _, _⟩ [_, _, _] q0 q1 q2 (by decide) ⟨by decide, by decide⟩ (strs3 p0 p1 p2) (by decide) (by decide) (by decide))
      | (refine (show ∀ (e : Ent) (tk : List (List UInt8)), w3.cell? ⟨w2.heap.size, 0, none⟩ = some (.string e.word) → w3.cell? ⟨w2.heap.size, 1, none⟩ = some (.int .u8 e.cat) → w3.cell? ⟨w2.heap.size, 2, none⟩ = some (.string e.sym) → rightS e = false → e.ok →
          StrSlice w3 (.slice none 0 0) tk → textS tk = ([], 2) → tk.length ≤ 3 → (∀ t ∈ tk, t.length ≤ 100) → _ from ?_) ⟨_, _, _⟩ [] q0 q1 q2 (by decide) ⟨by decide, by decide⟩ (strSlice_nil _) (by decide) (by decide) (by decide))
    clear q0 q1 q2 p0 p1 p2 hb3
    intro e tk q0 q1 q2 hr he hts htx htl hte
    have HR := Lib.hid hr
    have HTs := Lib.hid hts
    have HTx := Lib.hid htx
    clear hr hts htx
    go_wp2_with fail
    have hlen : l.length ≤ 100 := by have := HV.out; simp [validS] at this; exact this.1
    have HEo := Lib.hid he
    have T1 : True := trivial
    have T2 : True := trivial
    clear he
    go_region_held3 (fun w' => w'.cell? ⟨w2.heap.size, 0, none⟩ = some (.string e.word) ∧ w'.cell? ⟨w2.heap.size, 1, none⟩ = some (.int .u8 e.cat) ∧ w'.cell? ⟨w2.heap.size, 2, none⟩ = some (.string e.sym))
      (first | go_keep | exact ⟨cell_kept' (by assumption) q0, cell_kept' (by assumption) q1, cell_kept' (by assumption) q2⟩)
      (first
        | (have _t := T1
           refine step_append_ents (by rfl) (.tmp 70) (.tmp 71) (by rfl) w3.heap.size _ [] (by rfl) (by first | exact ownEnts_empty (heap_new_drew _ _) (Nat.le_refl _) | exact ownEnts_empty (two_fst _ _ _) (Nat.le_refl _) | exact ownEnts_empty (two_snd _ _ _) (Nat.le_succ _)) v l (by rfl) (HL.out.below (by first | exact hx3.trans (one_below _ _ hx3.size) | exact hx3.trans (two_below _ _ _ hx3.size))) H0.out (by simp; omega) (by first | exact (one_below _ _ (Nat.le_refl _)).size | exact (two_below _ _ _ (Nat.le_refl _)).size) ?_
           intro v72 w72 ho72 hg72 _
           have hb72 : Below w3.heap.size w3 w72 := by first | exact one_grown hg72 (by rfl) | exact two_grown hg72 (by first | exact .inl rfl | exact .inr rfl)
           first
             | have hE := two_keep2 hg72 rfl
             | have hE := two_keep1 hg72 rfl
             | skip
           have k0 := cell_kept' hb72 q0
           have k1 := cell_kept' hb72 q1
           have k2 := cell_kept' hb72 q2
           clear T1 _t)
        | (have _t := T2
           refine step_append_ents (by rfl) (.tmp 72) (.tmp 74) (by rfl) w3.heap.size _ l (by rfl) (by first | exact ho72 | exact World.ownsRow.alloc ho72 _) _ [e] (by rfl) (by first | exact ents_one_block HEo.out (heap_alloc_new _ _) | exact ents_one_block HEo.out hE) (fun _ _ h => by cases h) (by show (l.length + 1) * 40 ≤ _; omega) (by first | exact hb72.size | exact (hb72.alloc hb72.size _).size) ?_
           intro v75 w75 ho75 hg75 _
           have hb75 : Below w3.heap.size w3 w75 := by first | exact hb72.grown hg75 hb72.size (fun k hk => (ho72.lt k hk).1) | exact (hb72.alloc hb72.size _).grown hg75 (hb72.alloc hb72.size _).size (fun k hk => (ho72.lt k hk).1)
           have j0 := cell_kept' hb75 q0
           have j1 := cell_kept' hb75 q1
           have j2 := cell_kept' hb75 q2
           clear T2 _t)
        | (go_at_call 17
           refine (Look_no W0 _ (ht.next (hx3.trans (hb75.mono hx3.size))) _ (l ++ [e]) (entSlice_of_owns ho75 (fun x hx => by
             rcases List.mem_append.1 hx with hx | hx
             · exact HL.out.ok x hx
             · rw [List.mem_singleton.1 hx]; exact HEo.out)) _ (valid_wrong HR.out)).mono ?_
           rintro r w76 ⟨rfl, hb76⟩
           have hb76' := hb75.trans (hb76.mono hb75.size)
           have i0 := cell_kept' hb76' q0
           have i1 := cell_kept' hb76' q1
           have i2 := cell_kept' hb76' q2))
    all_goals
      have hx76 := hx3.trans (hb76'.mono hx3.size)
      go_wp2_with fail
      refine (Text_is W0 _ (ht.next hx76) _ tk (HTs.out.below hb76') (by omega) (fun t h => by have := hte t h; omega) HTx.out).mono ?_
      rintro r w80 ⟨rfl, hb80⟩
      have hx80 := hx76.trans (hb80.mono hx76.size)
      have z0 := cell_kept' hb80 i0
      have z1 := cell_kept' hb80 i1
      have z2 := cell_kept' hb80 i2
      go_wp2_with fail
      refine (Right_any W0 _ (ht.next hx80) e HEo.out).mono ?_
      rintro r w81 ⟨rfl, hb81⟩
      rw [HR.out]
      go_wp2
      go_ret
      exact ⟨rfl, hx80.trans (hb81.mono hx80.size)⟩
end Go.Proofs.YtakpkaklcjgdkaaDoor
