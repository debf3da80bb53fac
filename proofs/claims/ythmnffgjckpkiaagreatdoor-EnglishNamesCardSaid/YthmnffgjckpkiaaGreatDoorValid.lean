/-
  Contract of 'Valid' of package words.
-/
import Derived.Test.YthmnffgjckpkiaaGreatDoorThose
import Derived.Test.YthmnffgjckpkiaaGreatDoorLater
namespace Go.Proofs.YthmnffgjckpkiaaGreatDoor
open Go Go.RowKit

/-- What 'Valid' asks at the i-th entry. -/
def stepS (l : List Ent) (i : Nat) : Bool := match l[i]? with
  | some e => rightS e && ((i == 0 || (match l[i - 1]? with | some d => decide (compareS d e < 0) | none => true)) && decide (thoseTo (fun o => clashS o e) l i = []))
  | none => true
def validS (l : List Ent) : Bool := decide (l.length ≤ 100) && (List.range l.length).all (stepS l)

theorem validS_no {l : List Ent} {i : Nat} (h : i < l.length) (hs : stepS l i = false) : validS l = false := by
  have : (List.range l.length).all (stepS l) = false := by
    rw [List.all_eq_false]; exact ⟨i, by simpa using h, by simp [hs]⟩
  simp [validS, this]

theorem stepS_eq {l : List Ent} {i : Nat} (h : i < l.length) : stepS l i = (rightS l[i] && ((i == 0 || (match l[i - 1]? with | some d => decide (compareS d l[i] < 0) | none => true)) && decide (thoseTo (fun o => clashS o l[i]) l i = []))) := by
  simp [stepS, List.getElem?_eq_getElem h]
theorem stepS_lt {l : List Ent} {k : Nat} {e : Ent} (_hk : ¬ k = 0) (h : k - 1 < l.length) (hc : decide (0 ≤ compareS l[k - 1] e) = false) : (match l[k - 1]? with | some d => decide (compareS d e < 0) | none => true) = true := by
  rw [List.getElem?_eq_getElem h]; simp at hc ⊢; exact hc
theorem stepS_ge {l : List Ent} {k : Nat} {e : Ent} (hk : ¬ k = 0) (h : k - 1 < l.length) (hc : decide (0 ≤ compareS l[k - 1] e) = true) : (k == 0 || (match l[k - 1]? with | some d => decide (compareS d e < 0) | none => true)) = false := by
  rw [List.getElem?_eq_getElem h]; simp at hc ⊢; exact ⟨hk, by omega⟩
theorem step_more {l : List Ent} {k : Nat} (h : ∀ j, j < k → stepS l j = true) (h1 : stepS l k = true) : ∀ j, j < k + 1 → stepS l j = true := fun j hj => by
  rcases Nat.lt_succ_iff_lt_or_eq.1 hj with h' | rfl
  · exact h j h'
  · exact h1
theorem validS_yes {l : List Ent} (h : l.length ≤ 100) (hs : ∀ j, j < l.length → stepS l j = true) : validS l = true := by
  simp [validS, h]; exact hs
theorem thoseTo_take (p : Ent → Bool) (l : List Ent) (k : Nat) (h : k ≤ l.length) : thoseTo p l k = thoseS p (l.take k) := by
  have e : (l.take k).length = k := by rw [List.length_take]; omega
  unfold thoseS
  rw [e]
  unfold thoseTo
  refine List.filter_congr fun i hi => ?_
  have : i < k := by simpa using hi
  rw [List.getElem?_take_of_lt this]
theorem entSlice_take {w : World} {b off : Nat} {cap : Nat} {l : List Ent} (h : EntSlice w (.slice (some ⟨b, off, none⟩) l.length cap) l) (k : Nat) (hk : k ≤ l.length) : EntSlice w (.slice (some ⟨b, off, none⟩) k cap) (l.take k) := by
  obtain ⟨⟨a, cap', hv, h1, h2, h3⟩, h4⟩ := h
  injection hv with ha _ hcap
  subst ha hcap
  have e : (l.take k).length = k := by rw [List.length_take]; omega
  refine ⟨⟨_, cap, by rw [e], by omega, h2, ?_⟩, fun x hx => h4 x (List.mem_of_mem_take hx)⟩
  rcases h3 with h3 | ⟨b', off', hb, hlt, hc⟩
  · exact .inl (by rw [h3]; simp)
  · injection hb with hb
    injection hb with hb ho _
    subst hb ho
    refine .inr ⟨b, off, rfl, hlt, fun j hj => ?_⟩
    have hj' : j < l.length := by rw [e] at hj; omega
    have := hc j hj'
    simpa using this

/-- The closure of 'Valid': whether an entry clashes with the captured one. -/
theorem Valid1_any (w : World) (e o : Ent) (b : Nat) (h0 : w.cell? ⟨b, 0, none⟩ = some (.string e.word)) (h1 : w.cell? ⟨b, 1, none⟩ = some (.int .u8 e.cat)) (h2 : w.cell? ⟨b, 2, none⟩ = some (.string e.sym)) :
    Calls Tryz.prog 61 #[.agg #[.string o.word, .int .u8 o.cat, .string o.sym], .pointer (some ⟨b, 0, none⟩)] w fun r w' => r = .returned (.bool (clashS o e)) ∧ Below w.heap.size w w' := by
  have hlt := cell_lt h0
  simp only at hlt
  go_enter Tryz.func61, Tryz.ntmps61
  go_wp2_with (go_at_call 62; refine (clash_any _ o e).mono ?_; rintro r w1 ⟨rfl, hb⟩)
  go_ret
  exact ⟨rfl, ((Below.refl _ _).alloc (Nat.le_refl _) _).trans (hb.mono (by simp))⟩

theorem Valid_long (w : World) (a : Option Addr) (n cap : Nat) (h : 100 < n) (hn : n ≤ 9223372036854775807) :
    Calls Tryz.prog 37 #[.slice a n cap] w fun r w' => r = .returned (.bool false) ∧ w = w' := by
  go_enter Tryz.func37, Tryz.ntmps37
  go_wp2
  go_ret
  exact ⟨rfl, rfl⟩

set_option maxRecDepth 100000 in
set_option maxHeartbeats 4000000 in
theorem Valid_short (W0 w : World) (ht : Tabs W0 w) (v : Value) (l : List Ent) (hl : EntSlice w v l) (h100 : l.length ≤ 100) :
    Calls Tryz.prog 37 #[v] w fun r w' => r = .returned (.bool (validS l)) ∧ Below w.heap.size w w' := by
  have hl0 := Lib.hid hl
  obtain ⟨⟨a, cap, rfl, hcap, hcm, hform⟩, hok⟩ := hl
  have HO := Lib.hid hok
  have HFo := Lib.hid hform
  clear hok hform
  go_enter Tryz.func37, Tryz.ntmps37
  go_wp2
  go_loopw [10] (fun i wr => ∃ k : Nat, k ≤ l.length ∧ i = .int .i64 k ∧ (∀ j, j < k → stepS l j = true) ∧ Below w.heap.size w wr) (fun i _ => l.length - (intOf i).toNat)
  case atStart => exact ⟨0, Nat.zero_le _, rfl, fun j hj => absurd hj (Nat.not_lt_zero j), Below.refl _ _⟩
  case round =>
    obtain ⟨k, hk, rfl, hno, hb⟩ := hrel
    have HN := Lib.hid hno
    clear hno
    have htr := ht.next hb
    by_cases hlt : k < l.length
    · rcases HFo.out with h0 | ⟨b, off, rfl, hbl, hc⟩
      · rw [h0] at hlt; exact absurd hlt (by simp)
      · obtain ⟨c0, c1, c2⟩ := hc k hlt
        have c0' := cell_kept' hb c0
        have c1' := cell_kept' hb c1
        have c2' := cell_kept' hb c2
        have HC := Lib.hid hc
        clear c0 c1 c2 hc
        have hek : l[k].ok := HO.out _ (List.getElem_mem hlt)
        obtain ⟨e, he⟩ : ∃ e, e = l[k] := ⟨_, rfl⟩
        rw [← he] at c0' c1' c2' hek
        have HEq := Lib.hid he
        have HEk := Lib.hid hek
        clear he hek
        go_wp2_with fail
        have hz : wr.heap.size < (wr.alloc (.cells #[.string e.word, .int .u8 e.cat, .string e.sym] 63)).heap.size := by simp
        have d0 : (wr.alloc (.cells #[.string e.word, .int .u8 e.cat, .string e.sym] 63)).cell? ⟨wr.heap.size, 0, none⟩ = some (.string e.word) := by simp
        have d1 : (wr.alloc (.cells #[.string e.word, .int .u8 e.cat, .string e.sym] 63)).cell? ⟨wr.heap.size, 1, none⟩ = some (.int .u8 e.cat) := by simp
        have d2 : (wr.alloc (.cells #[.string e.word, .int .u8 e.cat, .string e.sym] 63)).cell? ⟨wr.heap.size, 2, none⟩ = some (.string e.sym) := by simp
        have ht1 := htr.alloc (.cells #[.string e.word, .int .u8 e.cat, .string e.sym] 63)
        have hb1 := hb.alloc hb.size (.cells #[.string e.word, .int .u8 e.cat, .string e.sym] 63)
        obtain ⟨W, hW⟩ : ∃ W, wr.alloc (.cells #[.string e.word, .int .u8 e.cat, .string e.sym] 63) = W := ⟨_, rfl⟩
        rw [hW] at hz d0 d1 d2 ht1 hb1 ⊢
        clear hW c0' c1' c2'
        have f0 := fun x : Later W => x.get d0
        have f1 := fun x : Later W => x.get d1
        have f2 := fun x : Later W => x.get d2
        cases hr : rightS e
        · have CR := Lib.hid (fun x : Later W => hr ▸ Right_any W0 x.w (ht1.next x.below) e HEk.out)
          have HR := Lib.hid hr
          clear hr
          refine wp_region_later (by kernel_rfl) (by kernel_rfl) ?_
          repeat (go_big_quiet_step ((go_at_call 58; exact later_call (CR.out _))))
          refine wpQuiet_nil ?_
          rintro _ ⟨x, rfl⟩
          go_wp2
          go_ret
          exact ⟨ret_bool (validS_no hlt (by simp [stepS, List.getElem?_eq_getElem hlt, ← HEq.out, HR.out])).symm, hb1.trans (x.below.mono hb1.size)⟩
        · have HR := Lib.hid hr
          have CR := Lib.hid (fun x : Later W => hr ▸ Right_any W0 x.w (ht1.next x.below) e HEk.out)
          clear hr
          by_cases hk0 : k = 0
          · subst hk0
            refine wp_region_later (by kernel_rfl) (by kernel_rfl) ?_
            repeat (go_big_quiet_step ((go_at_call 58; exact later_call (CR.out _))))
            refine wpQuiet_nil ?_
            rintro _ ⟨x, rfl⟩
            have hlk : (l.take 0).length = 0 := by rw [List.length_take]; omega
            have hes : EntSlice x.w (.slice (some ⟨b, off, none⟩) 0 cap) (l.take 0) := entSlice_take (EntSlice.below hl0.out (hb1.trans (x.below.mono hb1.size))) _ (by omega)
            have HT := those_any x.w _ (l.take 0) hes (by rw [hlk]; omega) 61 #[.pointer (some ⟨wr.heap.size, 0, none⟩)] (fun o => clashS o e) (fun _ _ => by kernel_rfl) (fun w' o hw' _ => Valid1_any w' e o wr.heap.size (cell_kept' hw' (f0 x)) (cell_kept' hw' (f1 x)) (cell_kept' hw' (f2 x)))
            clear hes f0 f1 f2
            go_wp2_with fail
            refine HT.mono ?_
            rintro r w3 ⟨r', rfl, ⟨a', cap', rfl, _⟩, hb3⟩
            have hbx : Below w.heap.size w w3 := (hb1.trans (x.below.mono hb1.size)).trans (hb3.mono (by have := hb1.size; have := x.below.size; omega))
            obtain ⟨q, hq⟩ : ∃ q, q = thoseS (fun o => clashS o e) (l.take 0) := ⟨_, rfl⟩
            rw [← hq]
            have HQ := Lib.hid hq
            clear hq HT
            cases q with
            | nil =>
              go_wp2
              go_roundw
              case rel => exact ⟨0 + 1, by omega, by go_num, step_more HN.out (by rw [stepS_eq hlt, ← HEq.out, HR.out, thoseTo_take _ _ _ hk, ← HQ.out]; simp), hbx⟩
              case measure => simp [intOf]; omega
            | cons q0 q1 =>
              go_wp2
              go_ret
              exact ⟨ret_bool (validS_no hlt (by rw [stepS_eq hlt, ← HEq.out, thoseTo_take _ _ _ hk, ← HQ.out]; simp)).symm, hbx⟩
          · have hk1 : k - 1 < l.length := by omega
            obtain ⟨p0, p1, p2⟩ := HC.out (k - 1) hk1
            have g0 := fun x : Later W => x.get (cell_kept' hb1 p0)
            have g1 := fun x : Later W => x.get (cell_kept' hb1 p1)
            have g2 := fun x : Later W => x.get (cell_kept' hb1 p2)
            obtain ⟨d, hd⟩ : ∃ d, d = l[k - 1] := ⟨_, rfl⟩
            rw [← hd] at g0 g1 g2
            have HD := Lib.hid hd
            clear hd p0 p1 p2
            have e1 : IntKind.i64.wrap (↑k - 1) = (k : Int) - 1 := IntWalk.i64_in _ (by omega)
            have e2 : ((k : Int) - 1).toNat = k - 1 := by omega
            have e3 : (0 : Int) ≤ (k : Int) - 1 := by omega
            have e4 : (k : Int) - 1 < (l.length : Int) := by omega
            have e5 : 0 < k := by omega
            cases hcm : decide (0 ≤ compareS d e)
            · have CC := Lib.hid (fun x : Later W => compare_any x.w d e)
              have HCm := Lib.hid hcm
              refine wp_region_later (by kernel_rfl) (by kernel_rfl) ?_
              repeat (go_big_quiet_step ((first | (go_at_call 58; exact later_call (CR.out _)) | (go_at_call 59; exact later_call (CC.out _)))))
              refine wpQuiet_nil ?_
              rintro _ ⟨x, rfl⟩
              clear e1 e2 e3 e4 e5 hcm g0 g1 g2
              have hlk : (l.take k).length = k := by rw [List.length_take]; omega
              have hes : EntSlice x.w (.slice (some ⟨b, off, none⟩) k cap) (l.take k) := entSlice_take (EntSlice.below hl0.out (hb1.trans (x.below.mono hb1.size))) _ (by omega)
              have HT := those_any x.w _ (l.take k) hes (by rw [hlk]; omega) 61 #[.pointer (some ⟨wr.heap.size, 0, none⟩)] (fun o => clashS o e) (fun _ _ => by kernel_rfl) (fun w' o hw' _ => Valid1_any w' e o wr.heap.size (cell_kept' hw' (f0 x)) (cell_kept' hw' (f1 x)) (cell_kept' hw' (f2 x)))
              clear hes f0 f1 f2
              go_wp2_with fail
              refine HT.mono ?_
              rintro r w3 ⟨r', rfl, ⟨a', cap', rfl, _⟩, hb3⟩
              have hbx : Below w.heap.size w w3 := (hb1.trans (x.below.mono hb1.size)).trans (hb3.mono (by have := hb1.size; have := x.below.size; omega))
              obtain ⟨q, hq⟩ : ∃ q, q = thoseS (fun o => clashS o e) (l.take k) := ⟨_, rfl⟩
              rw [← hq]
              have HQ := Lib.hid hq
              clear hq HT
              cases q with
              | nil =>
                go_wp2
                go_roundw
                case rel => exact ⟨k + 1, by omega, by go_num, step_more HN.out (by rw [stepS_eq hlt, ← HEq.out, HR.out, thoseTo_take _ _ _ hk, ← HQ.out]; simp [stepS_lt hk0 hk1 (HD.out ▸ HCm.out)]), hbx⟩
                case measure => simp [intOf]; omega
              | cons q0 q1 =>
                go_wp2
                go_ret
                exact ⟨ret_bool (validS_no hlt (by rw [stepS_eq hlt, ← HEq.out, thoseTo_take _ _ _ hk, ← HQ.out]; simp)).symm, hbx⟩
            · have CC := Lib.hid (fun x : Later W => compare_any x.w d e)
              have HCm := Lib.hid hcm
              refine wp_region_later (by kernel_rfl) (by kernel_rfl) ?_
              repeat (go_big_quiet_step ((first | (go_at_call 58; exact later_call (CR.out _)) | (go_at_call 59; exact later_call (CC.out _)))))
              refine wpQuiet_nil ?_
              rintro _ ⟨x, rfl⟩
              clear e1 e2 e3 e4 e5 hcm g0 g1 g2
              go_wp2
              go_ret
              exact ⟨ret_bool (validS_no hlt (by rw [stepS_eq hlt, ← HEq.out]; simp [stepS_ge hk0 hk1 (HD.out ▸ HCm.out)])).symm, hb1.trans (x.below.mono hb1.size)⟩
    · obtain rfl : k = l.length := by omega
      go_wp2
      go_ret
      exact ⟨ret_bool (validS_yes h100 HN.out).symm, hb⟩
end Go.Proofs.YthmnffgjckpkiaaGreatDoor
