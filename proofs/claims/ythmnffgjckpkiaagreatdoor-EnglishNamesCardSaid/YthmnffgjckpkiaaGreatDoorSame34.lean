/-
  The contract of 'Same' of the laws of chapter 34.
-/
import Derived.Test.YthmnffgjckpkiaaGreatDoorCopy
import Derived.Test.YthmnffgjckpkiaaGreatDoorLater
namespace Go.Proofs.YthmnffgjckpkiaaGreatDoor
open Go Go.RowKit Go.Shelf

mutual
/-- Whether two parses are equal. -/
def eqT : Tr → Tr → Bool
  | .node r e w s, .node r' e' w' s' => (r == r' && (e == e' && (w == w' && s.length == s'.length))) && eqTs s s'
def eqTs : List Tr → List Tr → Bool
  | [], _ => true
  | _ :: _, [] => true
  | a :: xs, b :: ys => eqT a b && eqTs xs ys
end
theorem eqTs_get : ∀ (xs ys : List Tr), xs.length = ys.length → (eqTs xs ys = true ↔ ∀ j (h : j < xs.length) (h2 : j < ys.length), eqT xs[j] ys[j] = true)
  | [], [], _ => by simp [eqTs]
  | a :: xs, b :: ys, h => by
    have ih := eqTs_get xs ys (by simpa using h)
    simp only [eqTs, Bool.and_eq_true, ih]
    constructor
    · rintro ⟨h1, h2⟩ j hj hj2
      cases j with
      | zero => exact h1
      | succ j => exact h2 j (by simpa using hj) (by simpa using hj2)
    · intro h1
      exact ⟨h1 0 (by simp) (by simp), fun j hj hj2 => h1 (j + 1) (by simpa using hj) (by simpa using hj2)⟩
theorem eqT_refl : ∀ a : Tr, eqT a a = true := by
  intro a
  induction a using Tr.ind with
  | h r e w sub ih =>
    simp only [eqT, beq_self_eq_true, Bool.and_self, Bool.true_and]
    exact (eqTs_get sub sub rfl).2 (fun j h _ => ih _ (List.getElem_mem h))
theorem eqT_iff : ∀ (a b : Tr), eqT a b = true ↔ a = b := by
  intro a
  induction a using Tr.ind with
  | h r e w sub ih =>
    intro b
    obtain ⟨r', e', w', sub'⟩ := b
    constructor
    · intro h
      simp only [eqT, Bool.and_eq_true, beq_iff_eq] at h
      obtain ⟨⟨rfl, rfl, rfl, hl⟩, hs⟩ := h
      have h2 := (eqTs_get sub sub' hl).1 hs
      congr 1
      apply List.ext_getElem hl
      intro j h3 h4
      exact (ih _ (List.getElem_mem h3) _).1 (h2 j h3 h4)
    · rintro h
      rw [← h]
      exact eqT_refl _
theorem strv_eq (a b : List UInt8) : ((⟨a.toArray⟩ : ByteArray).toList == (⟨b.toArray⟩ : ByteArray).toList) = (a == b) := by simp [ByteArray.toList_eq]
theorem strv_ne (a b : List UInt8) : ((⟨a.toArray⟩ : ByteArray).toList != (⟨b.toArray⟩ : ByteArray).toList) = (a != b) := by simp [bne, ByteArray.toList_eq]

set_option maxRecDepth 100000 in
set_option maxHeartbeats 4000000 in
theorem Same34_any : ∀ (a : Tr), Slim a → ∀ (b : Tr) (w : World) (va vb : Value), TreeV (fun _ => True) w va a → TreeV (fun _ => True) w vb b →
    Calls Tryz.prog 18 #[va, vb] w fun e w' => e = .returned (.bool (eqT a b)) ∧ Below w.heap.size w w' := by
  intro a
  induction a using Tr.ind with
  | h r e wd sub ih =>
    intro hslim b w va vb hva hvb
    cases hslim with
    | mk _ _ _ _ hlen hss =>
    cases hva with
    | mk _ _ _ _ aa ca vs hs hsub =>
    cases hvb with
    | mk r' e' wd' sub' ab cb vs' hs' hsub' =>
    have hE : eqT (.node r e wd sub) (.node r' e' wd' sub') = ((r == r' && (e == e' && (wd == wd' && sub.length == sub'.length))) && eqTs sub sub') := by simp only [eqT]
    obtain ⟨E, hEd⟩ : ∃ E, E = eqT (.node r e wd sub) (.node r' e' wd' sub') := ⟨_, rfl⟩
    rw [← hEd] at hE ⊢
    have HE := Lib.hid hE
    clear hE hEd
    have hG := eqTs_get sub sub'
    obtain ⟨n, hn⟩ : ∃ n, n = sub.length := ⟨_, rfl⟩
    obtain ⟨n', hn'⟩ : ∃ n', n' = sub'.length := ⟨_, rfl⟩
    have HG := Lib.hid hG
    rw [← hn] at hlen ⊢
    rw [← hn'] 
    have HN := Lib.hid hn
    have HN' := Lib.hid hn'
    have HS := Lib.hid hs
    have HSub := Lib.hid hsub
    have HS' := Lib.hid hs'
    have HSub' := Lib.hid hsub'
    have HIh := Lib.hid ih
    have HSS := Lib.hid hss
    clear hn hn' hs hsub hs' hsub' ih hss hG
    have hb0 : Below w.heap.size w ((w.alloc (.cells #[.int .u8 r, .int .i64 e, .string ⟨wd.toArray⟩, .slice aa n ca] 36)).alloc (.cells #[.int .u8 r', .int .i64 e', .string ⟨wd'.toArray⟩, .slice ab n' cb] 36)) := ((Below.refl _ _).alloc (Nat.le_refl _) _).alloc (by simp) _
    by_cases h1 : r = r'
    · have d1 : (r == r') = true := by simpa using h1
      have d1' : (r != r') = false := by simp [h1]
      by_cases h2 : e = e'
      · have d2 : (e == e') = true := by simpa using h2
        have d2' : (e != e') = false := by simp [h2]
        by_cases h3 : wd = wd'
        · have d3 : (wd == wd') = true := by simpa using h3
          have d3' : (wd != wd') = false := by simp [h3]
          by_cases h4 : n = n'
          · have d4 : (n == n') = true := by simpa using h4
            have d4' : ((n : Int) != (n' : Int)) = false := by simp [h4]
            have d4'' : ((n : Int) == (n' : Int)) = true := by simp; omega
            have hF : E = eqTs sub sub' := by rw [HE.out, d1, d2, d3, ← HN.out, ← HN'.out, d4]; rfl
            have HF := Lib.hid hF
            have H4 := Lib.hid h4
            clear h1 h2 h3 h4 hF
            go_enter Tryz.func18, Tryz.ntmps18
            go_wp2
            obtain ⟨W1, hW1⟩ : ∃ W1, W1 = (w.alloc (.cells #[.int .u8 r, .int .i64 e, .string ⟨wd.toArray⟩, .slice aa n ca] 36)).alloc (.cells #[.int .u8 r', .int .i64 e', .string ⟨wd'.toArray⟩, .slice ab n' cb] 36) := ⟨_, rfl⟩
            have x1 : W1.heap[w.heap.size]? = some (.cells #[.int .u8 r, .int .i64 e, .string ⟨wd.toArray⟩, .slice aa n ca] 36 (0, 0)) := by rw [hW1, Below.heap_alloc _ _ _ (by simp)]; exact heap_atC rfl
            have x2 : W1.heap[w.heap.size + 1]? = some (.cells #[.int .u8 r', .int .i64 e', .string ⟨wd'.toArray⟩, .slice ab n' cb] 36 (0, 0)) := by rw [hW1]; exact heap_atC (by simp)
            rw [← hW1] at hb0 ⊢
            have HX1 := Lib.hid x1
            have HX2 := Lib.hid x2
            have HB0 := Lib.hid hb0
            clear hW1 x1 x2 hb0 d1 d1' d2 d2' d3 d3' d4 d4' d4''
            go_loopw [5] (fun q wr => ∃ k : Nat, k ≤ n ∧ q = .int .i64 k ∧ (∀ j (h : j < sub.length) (h2 : j < sub'.length), j < k → eqT sub[j] sub'[j] = true) ∧ Below W1.heap.size W1 wr) (fun q _ => n - (intOf q).toNat)
            case atStart => exact ⟨0, Nat.zero_le _, rfl, fun _ _ _ h => absurd h (Nat.not_lt_zero _), Below.refl _ _⟩
            case round =>
              obtain ⟨k, hk, rfl, hall, hB⟩ := hrel
              have HAll := Lib.hid hall
              have HB := Lib.hid hB
              clear hall hB
              have c3 : wr.cell? ⟨w.heap.size, 3, none⟩ = some (.slice aa n ca) := cell_kept' HB.out ((cell_rowC HX1.out 3).trans rfl)
              have c3' : wr.cell? ⟨w.heap.size + 1, 3, none⟩ = some (.slice ab n' cb) := cell_kept' HB.out ((cell_rowC HX2.out 3).trans rfl)
              by_cases hlt : k < n
              · have hd : decide ((k : Int) < (n : Int)) = true := decide_eq_true (by omega)
                have hlt' : k < n' := by have := H4.out; omega
                have hsb : sub ≠ [] := by intro h; have := HN.out; rw [h] at this; simp at this; omega
                have hsb' : sub' ≠ [] := by intro h; have := HN'.out; rw [h] at this; simp at this; omega
                obtain ⟨b, off, rfl, _, hc⟩ := HS.out.resolve_left hsb
                obtain ⟨b', off', rfl, _, hc'⟩ := HS'.out.resolve_left hsb'
                have hkl : k < sub.length := by rw [← HN.out]; exact hlt
                have hkl' : k < sub'.length := by rw [← HN'.out]; exact hlt'
                have hBw : Below w.heap.size w wr := HB0.out.trans (HB.out.mono HB0.out.size)
                have htv := HSub.out k hkl
                have htv' := HSub'.out k hkl'
                obtain ⟨q, hq⟩ := htv.form
                obtain ⟨q', hq'⟩ := htv'.form
                obtain ⟨y0, y1, y2, y3, hy, g0, g1, g2, g3⟩ := hc k hkl
                obtain ⟨z0, z1, z2, z3, hz, g0', g1', g2', g3'⟩ := hc' k hkl'
                rw [hq] at hy htv
                rw [hq'] at hz htv'
                unfold TV.val at hy hz
                simp only [Value.agg.injEq, Array.mk.injEq, List.cons.injEq, and_true] at hy hz
                obtain ⟨rfl, rfl, rfl, rfl⟩ := hy
                obtain ⟨rfl, rfl, rfl, rfl⟩ := hz
                have hC := fun x : Later wr => HIh.out sub[k] (List.getElem_mem hkl) (HSS.out _ (List.getElem_mem hkl)) sub'[k] x.w q.val q'.val
                  (TreeV.move (W := w) (W' := x.w) (ok' := fun _ => True) (fun c _ h => ⟨trivial, by obtain ⟨_, _, h⟩ := h; exact (x.below.block c (Nat.lt_of_lt_of_le (cell_lt h) hBw.size)).trans (hBw.block c (cell_lt h))⟩) htv)
                  (TreeV.move (W := w) (W' := x.w) (ok' := fun _ => True) (fun c _ h => ⟨trivial, by obtain ⟨_, _, h⟩ := h; exact (x.below.block c (Nat.lt_of_lt_of_le (cell_lt h) hBw.size)).trans (hBw.block c (cell_lt h))⟩) htv')
                unfold TV.val at hC
                obtain ⟨R, hR⟩ : ∃ R, R = eqT sub[k] sub'[k] := ⟨_, rfl⟩
                rw [← hR] at hC
                have HR := Lib.hid hR
                have HC := Lib.hid hC
                have f0 := fun x : Later wr => x.get c3
                have f1 := fun x : Later wr => x.get c3'
                have f2 := fun x : Later wr => x.get (cell_kept' hBw g0)
                have f3 := fun x : Later wr => x.get (cell_kept' hBw g1)
                have f4 := fun x : Later wr => x.get (cell_kept' hBw g2)
                have f5 := fun x : Later wr => x.get (cell_kept' hBw g3)
                have f6 := fun x : Later wr => x.get (cell_kept' hBw g0')
                have f7 := fun x : Later wr => x.get (cell_kept' hBw g1')
                have f8 := fun x : Later wr => x.get (cell_kept' hBw g2')
                have f9 := fun x : Later wr => x.get (cell_kept' hBw g3')
                clear g0 g1 g2 g3 g0' g1' g2' g3' hc hc' htv htv' hq hq' hC hR hBw
                go_wp2
                refine wp_region_later (by kernel_rfl) (by kernel_rfl) ?_
                repeat (go_big_quiet_step ((go_at_call 18; exact later_call (HC.out _))))
                refine wpQuiet_nil ?_
                rintro _ ⟨x', rfl⟩
                clear f0 f1 f2 f3 f4 f5 f6 f7 f8 f9 c3 c3'
                have HB2 := Lib.hid (HB.out.trans (x'.below.mono HB.out.size))
                cases R
                · go_wp2
                  go_ret
                  have hE0 : E = false := by
                    rw [HF.out]
                    cases hq : eqTs sub sub'
                    · rfl
                    · have := (HG.out (by rw [← HN.out, ← HN'.out]; exact H4.out)).1 hq k hkl hkl'
                      rw [← HR.out] at this
                      cases this
                  exact ⟨by rw [hE0]; rfl, HB0.out.trans (HB2.out.mono HB0.out.size)⟩
                · go_wp2
                  go_roundw
                  case rel => exact ⟨k + 1, by omega, by go_num, fun j h1 h2 h3 => by
                    by_cases hj : j = k
                    · subst hj; exact HR.out.symm
                    · exact HAll.out j h1 h2 (by omega), HB2.out⟩
                  case measure => simp [intOf]; omega
              · have hd : decide ((k : Int) < (n : Int)) = false := decide_eq_false (by omega)
                obtain rfl : k = n := by omega
                go_wp2
                go_ret
                have hE1 : E = true := by
                  rw [HF.out, HG.out (by rw [← HN.out, ← HN'.out]; exact H4.out)]
                  exact fun j h1 h2 => HAll.out j h1 h2 (by rw [HN.out]; exact h1)
                exact ⟨by rw [hE1]; rfl, HB0.out.trans (HB.out.mono HB0.out.size)⟩
          · have d4 : (n == n') = false := by simpa using h4
            have d4' : ((n : Int) != (n' : Int)) = true := by simp; omega
            have d4'' : ((n : Int) == (n' : Int)) = false := by simp; omega
            have hF : E = false := by rw [HE.out, d1, d2, d3, ← HN.out, ← HN'.out, d4]; rfl
            have HF := Lib.hid hF
            clear h1 h2 h3 h4 hF
            go_enter Tryz.func18, Tryz.ntmps18
            go_wp2
            go_ret
            exact ⟨by rw [HF.out]; rfl, hb0⟩
        · have d3 : (wd == wd') = false := by simpa using h3
          have d3' : (wd != wd') = true := by simpa using h3
          have hF : E = false := by rw [HE.out, d1, d2, d3]; rfl
          have HF := Lib.hid hF
          clear h1 h2 h3 hF
          go_enter Tryz.func18, Tryz.ntmps18
          go_wp2
          go_ret
          exact ⟨by rw [HF.out]; rfl, hb0⟩
      · have d2 : (e == e') = false := by simpa using h2
        have d2' : (e != e') = true := by simpa using h2
        have hF : E = false := by rw [HE.out, d1, d2]; rfl
        have HF := Lib.hid hF
        clear h1 h2 hF
        go_enter Tryz.func18, Tryz.ntmps18
        go_wp2
        go_ret
        exact ⟨by rw [HF.out]; rfl, hb0⟩
    · have d1 : (r == r') = false := by simpa using h1
      have d1' : (r != r') = true := by simpa using h1
      have hF : E = false := by rw [HE.out, d1]; rfl
      have HF := Lib.hid hF
      clear h1 hF
      go_enter Tryz.func18, Tryz.ntmps18
      go_wp2
      go_ret
      exact ⟨by rw [HF.out]; rfl, hb0⟩
end Go.Proofs.YthmnffgjckpkiaaGreatDoor
