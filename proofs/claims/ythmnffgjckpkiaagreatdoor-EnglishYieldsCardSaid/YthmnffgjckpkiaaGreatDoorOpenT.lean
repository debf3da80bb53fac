/-
  A parse that came in as an argument, opened.
-/
import Derived.Test.YthmnffgjckpkiaaGreatDoorGLaid
import Derived.Test.YthmnffgjckpkiaaGreatDoorGEngC
namespace Go.Proofs.YthmnffgjckpkiaaGreatDoor
open Go Go.RowKit Go.ChangeShapes Go.WideShapes Go.Deep

/-- The numbers and lengths of a parse are such as fit. -/
inductive TOk : Tr → Prop
  | mk (r e : Int) (w : List UInt8) (sub : List Tr) : 0 ≤ r → r ≤ 255 → -9223372036854775808 ≤ e → e ≤ 9223372036854775807 → w.length ≤ maxLen → sub.length ≤ maxLen → (∀ t ∈ sub, TOk t) → TOk (.node r e w sub)
theorem addr_addT (b off j : Nat) : (⟨b, off, none⟩ : Addr).add j = ⟨b, off + j, none⟩ := by unfold Addr.add; split <;> simp_all
theorem i64_of_trod {H : Type} {enc : TypeId × Value → H} {W : World} {base : Nat} {spare : Nat → Bool} {held : Bool} {n : Nat} {v : Value} {y : DataW H × List MemPlace} (h : DataW.trod enc Tryz.prog W base spare held n 3 [v] = some y) :
    ∃ c : Int, v = .int .i64 c ∧ -9223372036854775808 ≤ c ∧ c ≤ 9223372036854775807 := by
  obtain ⟨c, hs, _, hw⟩ := DataW.trod_int Tryz.underlying3 h
  simp at hs
  refine ⟨c, hs, ?_⟩
  simp [Lit.wf, IntKind.min, IntKind.max, IntKind.signed, IntKind.bits] at hw
  omega
set_option maxRecDepth 100000 in
theorem tree_of_trod {H : Type} {enc : TypeId × Value → H} {W : World} {held : Bool} {spare : Nat → Bool} : ∀ (fuel : Nat) (cs : List Value) (y : DataW H × List MemPlace), DataW.trod enc Tryz.prog W 0 spare held fuel 36 cs = some y →
    ∃ t, TreeV (fun _ => True) W (.agg cs.toArray) t ∧ TOk t := by
  intro fuel
  induction fuel using Nat.strongRecOn with
  | _ fuel ih =>
    intro cs y h
    obtain ⟨xs, n, rfl, _, hlen, hxl, hf⟩ := DataW.trod_struct Tryz.underlying36 h
    have hcl : cs.length = 4 := hlen.trans (by kernel_rfl)
    obtain ⟨c0, c1, c2, c3, rfl⟩ : ∃ c0 c1 c2 c3, cs = [c0, c1, c2, c3] := by
      rcases cs with _ | ⟨c0, _ | ⟨c1, _ | ⟨c2, _ | ⟨c3, _ | _⟩⟩⟩⟩ <;> simp at hcl
      exact ⟨_, _, _, _, rfl⟩
    have h0 := hf 0 _ rfl
    have h1 := hf 1 _ rfl
    have h2 := hf 2 _ rfl
    have h3 := hf 3 _ rfl
    have hx4 : xs.length = 4 := hxl
    rw [List.getElem?_eq_getElem (by omega)] at h0 h1 h2 h3
    have h0 : DataW.trod enc Tryz.prog W 0 spare held n 5 [c0] = some _ := h0
    have h1 : DataW.trod enc Tryz.prog W 0 spare held n 3 [c1] = some _ := h1
    have h2 : DataW.trod enc Tryz.prog W 0 spare held n 9 [c2] = some _ := h2
    have h3 : DataW.trod enc Tryz.prog W 0 spare held n 25 [c3] = some _ := h3
    obtain ⟨r, rfl, hr⟩ := u8_of_trod h0
    obtain ⟨e, rfl, he⟩ := i64_of_trod h1
    obtain ⟨s, rfl, hs⟩ := string_of_trod h2
    have hsb : s = ⟨(s.data.toList).toArray⟩ := by simp
    have hsl : (s.data.toList).length ≤ maxLen := by simpa using hs
    rcases DataW.trod_slice Tryz.underlying25 h3 with ⟨hc, _⟩ | ⟨a, len, cap, elems, rest, m, rfl, hc, _, _, hl, hm, hel, hi, _, _⟩
    · simp only [List.cons.injEq, and_true] at hc
      subst hc
      refine ⟨.node r e s.data.toList [], ?_, .mk r e _ [] hr.1 hr.2 he.1 he.2 hsl (Nat.zero_le _) (fun t ht => by cases ht)⟩
      rw [hsb]
      exact TreeV.mk (W := W) r e s.data.toList [] none 0 (fun _ => .bool false) (.inl rfl) (fun j hj => by simp at hj)
    · simp only [List.cons.injEq, and_true] at hc
      subst hc
      have each : ∀ i, i < len → ∃ (cs' : List Value) (t : Tr), W.cells? 0 (a.add (i * 4)) 4 = some cs' ∧ TreeV (fun _ => True) W (.agg cs'.toArray) t ∧ TOk t := by
        intro i hil
        have h := hi i hil
        rw [List.getElem?_eq_getElem (by omega)] at h
        obtain ⟨cs', hc1, hc2⟩ := Option.bind_eq_some_iff.1 h
        obtain ⟨t, ht, hto⟩ := ih m (by omega) cs' _ hc2
        exact ⟨cs', t, hc1, ht, hto⟩
      by_cases h0 : len = 0
      · subst h0
        refine ⟨.node r e s.data.toList [], ?_, .mk r e _ [] hr.1 hr.2 he.1 he.2 hsl (Nat.zero_le _) (fun t ht => by cases ht)⟩
        rw [hsb]
        exact TreeV.mk (W := W) r e s.data.toList [] (some a) cap (fun _ => .bool false) (.inl rfl) (fun j hj => by simp at hj)
      · let ft : Nat → Tr := fun i => if h : i < len then (each i h).choose_spec.choose else .node 0 0 [] []
        let fv : Nat → Value := fun i => if h : i < len then .agg (each i h).choose.toArray else .bool false
        have hft : ∀ i (h : i < len), ft i = (each i h).choose_spec.choose := fun i h => by simp [ft, h]
        have hfv : ∀ i (h : i < len), fv i = .agg (each i h).choose.toArray := fun i h => by simp [fv, h]
        have hlen' : ((List.range len).map ft).length = len := by simp
        have hcells : ∀ i (h : i < len), ∃ x0 x1 x2 x3, (each i h).choose = [x0, x1, x2, x3] ∧ W.cell? (a.add (i * 4)) = some x0 ∧ W.cell? (a.add (i * 4 + 1)) = some x1 ∧ W.cell? (a.add (i * 4 + 2)) = some x2 ∧ W.cell? (a.add (i * 4 + 3)) = some x3 := by
          intro i h
          have hc := (each i h).choose_spec.choose_spec.1
          obtain ⟨_, hcl, hat⟩ := World.cells?_some hc
          obtain ⟨x0, x1, x2, x3, hx⟩ : ∃ c0 c1 c2 c3, (each i h).choose = [c0, c1, c2, c3] := by
            generalize (each i h).choose = cs at hcl
            rcases cs with _ | ⟨c0, _ | ⟨c1, _ | ⟨c2, _ | ⟨c3, _ | _⟩⟩⟩⟩ <;> simp at hcl
            exact ⟨_, _, _, _, rfl⟩
          rw [hx] at hat
          have g0 := hat 0 (by omega)
          have g1 := hat 1 (by omega)
          have g2 := hat 2 (by omega)
          have g3 := hat 3 (by omega)
          rw [Go.Deep.add_add] at g0 g1 g2 g3
          exact ⟨x0, x1, x2, x3, hx, g0, g1, g2, g3⟩
        obtain ⟨b, off, spot⟩ := a
        have hspot : spot = none := by
          obtain ⟨_, _, _, _, _, hc, _⟩ := hcells 0 (by omega)
          simpa [Addr.add] using World.cell?_spot hc
        subst hspot
        have hat : ∀ j, (⟨b, off, none⟩ : Addr).add j = ⟨b, off + j, none⟩ := addr_addT b off
        refine ⟨.node r e s.data.toList ((List.range len).map ft), ?_, .mk r e _ _ hr.1 hr.2 he.1 he.2 hsl (by rw [hlen']; omega) ?_⟩
        · rw [hsb]
          have := TreeV.mk (ok := fun _ => True) (W := W) r e s.data.toList ((List.range len).map ft) (some ⟨b, off, none⟩) cap fv (.inr ⟨b, off, rfl, trivial, fun j hj => ?_⟩) (fun j hj => ?_)
          · rw [hlen'] at this
            exact this
          · rw [hlen'] at hj
            obtain ⟨x0, x1, x2, x3, hx, g0, g1, g2, g3⟩ := hcells j hj
            rw [hat] at g0 g1 g2 g3
            refine ⟨x0, x1, x2, x3, by rw [hfv j hj, hx], g0, ?_, ?_, ?_⟩
            · rw [Nat.add_assoc]; exact g1
            · rw [Nat.add_assoc]; exact g2
            · rw [Nat.add_assoc]; exact g3
          · have hj' : j < len := by rw [hlen'] at hj; exact hj
            rw [hfv j hj']
            have hg : ((List.range len).map ft)[j] = ft j := by simp
            rw [hg, hft j hj']
            exact (each j hj').choose_spec.choose_spec.2.1
        · intro t ht
          obtain ⟨j, hj, rfl⟩ := List.mem_map.1 ht
          have hj : j < len := by simpa using hj
          rw [hft j hj]
          exact (each j hj).choose_spec.choose_spec.2.2
set_option maxRecDepth 100000 in
/-- A parse by value. -/
theorem open_tree {H : Type} {enc : TypeId × Value → H} {W : World} {b0 : Nat} {v : Value} {d : DataW H} {p : List MemPlace} (hv : Value.okWide Tryz.prog W .any b0 36 v) (h : DataW.Trod enc Tryz.prog W 0 (fun _ => true) true 36 v d p) :
    ∃ t, TreeV (fun _ => True) W v t ∧ TOk t := by
  obtain ⟨cs, rfl, hsz⟩ := okWide_struct Tryz.underlying36 hv
  obtain ⟨fuel, hf⟩ := h
  obtain ⟨t, ht, hto⟩ := tree_of_trod fuel _ _ hf
  exact ⟨t, by simpa [Value.cells] using ht, hto⟩
end Go.Proofs.YthmnffgjckpkiaaGreatDoor
