/-
  What reads as data before a call that keeps all that was there reads so behind it; arguments opened to what the walks ask.
  What a row's list gives: the library's tables; and a start that meets the list.
  A start that meets the list.
-/
import Derived.Test.YthmnffgjckpkiaaGreatDoorGLow
import Derived.ChangeStays
import Derived.ChangeSame
import Derived.SliceStrings
import Derived.Deep.Slices
import Derived.Deep.Fields
import Derived.Lib.SmallJoins
import Derived.ChangeMaps5
import Derived.OpenShut
import Derived.SizedLaws
import Derived.Test.YthmnffgjckpkiaaGreatDoorGTok
import Derived.Test.YthmnffgjckpkiaaGreatDoorRows
import Derived.Lay
import Derived.PinnedBridge
import Derived.Lib.LaidCaseMet
import Derived.Lib.LaidU8
import Derived.Deep.DeepWitnessRowRef
namespace Go.Proofs.YthmnffgjckpkiaaGreatDoor
open Go Go.RowKit Go.ChangeShapes Go.WideShapes Go.Deep

/-- Whether a list of types holds all that its members are made of. -/
def kidsB (P : Program) (l : List TypeId) : Bool := l.all fun t => match P.underlying t with
  | some (.pointer e) => l.contains e
  | some (.slice e) => l.contains e && decide (0 < P.cellsOf e)
  | some (.array n e) => l.contains e && P.cellsOf t == n * P.cellsOf e
  | some (.struct fs) => fs.toList.all (fun f => l.contains f.type) && (P.cellsOf t == (fs.toList.map fun f => P.cellsOf f.type).sum) &&
      ((List.range fs.toList.length).all fun j => match fs.toList[j]? with
        | some f => f.offset == ((fs.toList.take j).map fun f => P.cellsOf f.type).sum
        | none => true)
  | some (.map _ e) => l.contains e
  | _ => true
theorem kids_of {P : Program} {l : List TypeId} (h : kidsB P l = true) : Kids P (· ∈ l) ∧ ∀ {t e : TypeId}, t ∈ l → P.underlying t = some (.slice e) → 0 < P.cellsOf e := by
  have h1 : ∀ t ∈ l, _ := fun t ht => List.all_eq_true.1 h t ht
  refine ⟨⟨?_, ?_, ?_, ?_, ?_⟩, ?_⟩
  · intro t e ht hu
    have := h1 t ht
    rw [hu] at this
    simpa using this
  · intro t e ht hu
    have := h1 t ht
    rw [hu] at this
    simp at this
    exact this.1
  · intro t e n ht hu
    have := h1 t ht
    rw [hu] at this
    simp at this
    exact this
  · intro t fs ht hu
    have := h1 t ht
    rw [hu] at this
    simp only [Bool.and_eq_true, List.all_eq_true, beq_iff_eq] at this
    obtain ⟨⟨a1, a2⟩, a3⟩ := this
    refine ⟨fun f hf => by simpa using a1 f hf, a2, fun j f hf => ?_⟩
    have hj : j < fs.toList.length := (List.getElem?_eq_some_iff.1 hf).1
    have := a3 j (by simpa using hj)
    rw [hf] at this
    simpa using this
  · intro t k e ht hu
    have := h1 t ht
    rw [hu] at this
    simpa using this
  · intro t e ht hu
    have := h1 t ht
    rw [hu] at this
    simp at this
    exact this.2

section
variable {H : Type} {enc : TypeId × Value → H} {P : Program} {w w' : World} {sp' : Nat → Bool}
theorem trodAll_stays {T : TypeId → Prop} (K : Kids P T) (hsz : ∀ {t e : TypeId}, T t → P.underlying t = some (.slice e) → 0 < P.cellsOf e) :
    ∀ {ts : List TypeId} {vs : List Value} {ds : List (DataW H)} {p : List MemPlace}, (∀ t ∈ ts, T t) → DataW.TrodAll enc P w 0 (fun _ => true) true ts vs ds p →
      (∀ q ∈ p, w.sameAt w' q) → (∀ q ∈ p, sp' q.block = true) → DataW.TrodAll enc P w' 0 sp' true ts vs ds p
  | [], _, _, _, _, h, _, _ => by
    obtain ⟨rfl, rfl, rfl⟩ := trodAll_nil h
    exact trodAll_mk0
  | t :: ts, _, _, _, hT, h, hs, hsp => by
    obtain ⟨v, vs1, d, ds1, a, b, rfl, rfl, rfl, ⟨n, h1⟩, h2⟩ := trodAll_cons h
    exact ⟨a, b, ⟨n, DataW.trod_stays K hsz (fun h => by cases h) (hT t (by simp)) h1 (fun q hq => hs q (by simp [hq])) (fun q hq => hsp q (by simp [hq]))⟩,
      trodAll_stays K hsz (fun t ht => hT t (by simp [ht])) h2 (fun q hq => hs q (by simp [hq])) (fun q hq => hsp q (by simp [hq])), rfl⟩
/-- The arguments of a law behind a call that keeps all that was there. -/
theorem args_kept {ts : List TypeId} {vs : List Value} {ds : List (DataW H)} {p : List MemPlace} (l : List TypeId) (hk : kidsB P l = true) (hl : ts.all (l.contains ·) = true)
    (h : DataW.TrodAll enc P w 0 (fun _ => true) true ts vs ds p) (hb : Below w.heap.size w w') : DataW.TrodAll enc P w' 0 (fun b => decide (b < w.heap.size)) true ts vs ds p := by
  obtain ⟨K, hsz⟩ := kids_of hk
  have hlt := DataW.TrodAll.lt h
  exact trodAll_stays K hsz (fun t ht => by simpa using List.all_eq_true.1 hl t ht) h (fun q hq => hb.same (hlt q hq)) (fun q hq => by simpa using hlt q hq)

theorem open_slice_fields {base : Nat} {spare : Nat → Bool} {held : Bool} {t e : TypeId} {fs : Array Field} {fuel : Nat} {cs : List Value} {x : DataW H × List MemPlace} (ht : P.underlying t = some (.slice e)) (he : P.underlying e = some (.struct fs))
    (hone : oneCellFields P fs = true) (hC : P.cellsOf e = fs.size) (h : DataW.trod enc P w base spare held fuel t cs = some x) :
    (cs = [.slice none 0 0] ∧ x = (.nil, [])) ∨
    ∃ (a : Addr) (len cap : Nat), cs = [.slice (some a) len cap] ∧ len ≤ cap ∧ cap ≤ maxLen ∧
      ∀ i, i < len → ∀ (j : Nat) (f : Field), fs[j]? = some f → ∃ (v : Value) (y : DataW H × List MemPlace) (n : Nat), w.cell? (a.add (i * fs.size + j)) = some v ∧ DataW.trod enc P w base spare held n f.type [v] = some y := by
  rcases open_slice ht h with h0 | ⟨a, len, cap, m, n, D, Pl, hcs, hb, hl, hm, hmm, hx, hi⟩
  · exact .inl h0
  · refine .inr ⟨a, len, cap, hcs, hl, hm, fun i him j f hj => ?_⟩
    have hlm : len ≤ m := by rw [hmm]; split <;> omega
    obtain ⟨cs', hc, ht'⟩ := hi i (by omega)
    rw [hC] at hc
    obtain ⟨ys, n', hn', hy, hlen, hyl, hf⟩ := DataW.trod_struct he ht'
    obtain ⟨_, hcl, hat⟩ := World.cells?_some hc
    obtain ⟨ho, hk⟩ := hone_of hone j f hj
    have hjl : j < fs.size := (Array.getElem?_eq_some_iff.1 hj).1
    have hcell := hat j hjl
    have hv : cs'[j]? = some (cs'[j]'(by omega)) := List.getElem?_eq_getElem (by omega)
    have h1 := hf j f hj
    rw [ho, hk] at h1
    have hone' : (cs'.drop j).take 1 = [cs'[j]'(by omega)] := by
      rw [List.drop_eq_getElem_cons (by omega)]
      rfl
    rw [hone'] at h1
    have hys : ys[j]? = some (ys[j]'(by omega)) := List.getElem?_eq_getElem (by omega)
    refine ⟨_, _, _, ?_, h1.trans hys⟩
    rw [← Go.Deep.add_add, hcell, hv]
end

theorem string_of_trod {H : Type} {enc : TypeId × Value → H} {W : World} {base : Nat} {spare : Nat → Bool} {held : Bool} {n : Nat} {v : Value} {y : DataW H × List MemPlace} (h : DataW.trod enc Tryz.prog W base spare held n 9 [v] = some y) :
    ∃ s : ByteArray, v = .string s ∧ s.size ≤ maxLen := by
  obtain ⟨s, hs, _, hw⟩ := DataW.trod_string Tryz.underlying9 h
  simp at hs
  exact ⟨s, hs, hw⟩
theorem u8_of_trod {H : Type} {enc : TypeId × Value → H} {W : World} {base : Nat} {spare : Nat → Bool} {held : Bool} {n : Nat} {v : Value} {y : DataW H × List MemPlace} (h : DataW.trod enc Tryz.prog W base spare held n 5 [v] = some y) :
    ∃ c : Int, v = .int .u8 c ∧ 0 ≤ c ∧ c ≤ 255 := by
  obtain ⟨c, hs, _, hw⟩ := DataW.trod_int Tryz.underlying5 h
  simp at hs
  exact ⟨c, hs, bounds_u8 hw⟩
set_option maxRecDepth 100000 in
/-- An entry by value. -/
theorem open_ent {H : Type} {enc : TypeId × Value → H} {W : World} {b0 : Nat} {v : Value} {d : DataW H} {p : List MemPlace} (hv : Value.okWide Tryz.prog W .any b0 63 v) (h : DataW.Trod enc Tryz.prog W 0 (fun _ => true) true 63 v d p) :
    ∃ e : Ent, v = .agg #[.string e.word, .int .u8 e.cat, .string e.sym] ∧ e.ok ∧ 0 ≤ e.cat ∧ e.cat ≤ 255 := by
  obtain ⟨v0, v1, v2, y0, y1, y2, n, rfl, _, _, h0, h1, h2⟩ := Go.Joins.open_agg3 Tryz.underlying63 (by kernel_rfl) (by kernel_rfl) hv h
  obtain ⟨s, rfl, hs⟩ := string_of_trod h0
  obtain ⟨c, rfl, hc⟩ := u8_of_trod h1
  obtain ⟨u, rfl, hu⟩ := string_of_trod h2
  exact ⟨⟨s, c, u⟩, rfl, ⟨hs, hu⟩, hc⟩
set_option maxRecDepth 100000 in
/-- A lexicon. -/
theorem open_ents {H : Type} {enc : TypeId × Value → H} {W : World} {b0 : Nat} {v : Value} {d : DataW H} {p : List MemPlace} (hv : Value.okWide Tryz.prog W .any b0 22 v) (h : DataW.Trod enc Tryz.prog W 0 (fun _ => true) true 22 v d p) :
    ∃ l : List Ent, EntSlice W v l ∧ ∀ e ∈ l, 0 ≤ e.cat ∧ e.cat ≤ 255 := by
  obtain ⟨a0, len, cap, rfl⟩ := okWide_slice Tryz.underlying22 hv
  obtain ⟨fuel, hf⟩ := h
  rcases open_slice_fields Tryz.underlying22 Tryz.underlying63 (by kernel_rfl) (by kernel_rfl) hf with ⟨hcs, _⟩ | ⟨a, len', cap', hcs, hl, hm, hcell⟩
  · have hcs : [Value.slice a0 len cap] = [Value.slice none 0 0] := hcs
    simp at hcs
    obtain ⟨rfl, rfl, rfl⟩ := hcs
    exact ⟨[], ⟨⟨none, 0, rfl, Nat.le_refl _, Nat.zero_le _, .inl rfl⟩, fun e he => by simp at he⟩, fun e he => by simp at he⟩
  · have hcs : [Value.slice a0 len cap] = [Value.slice (some a) len' cap'] := hcs
    simp at hcs
    obtain ⟨rfl, rfl, rfl⟩ := hcs
    have each : ∀ i, i < len → ∃ e : Ent, W.cell? (a.add (i * 3)) = some (.string e.word) ∧ W.cell? (a.add (i * 3 + 1)) = some (.int .u8 e.cat) ∧ W.cell? (a.add (i * 3 + 2)) = some (.string e.sym) ∧ e.ok ∧ 0 ≤ e.cat ∧ e.cat ≤ 255 := by
      intro i hi
      obtain ⟨v0, y0, n0, c0, t0⟩ := hcell i hi 0 _ rfl
      obtain ⟨v1, y1, n1, c1, t1⟩ := hcell i hi 1 _ rfl
      obtain ⟨v2, y2, n2, c2, t2⟩ := hcell i hi 2 _ rfl
      obtain ⟨s, rfl, hs⟩ := string_of_trod t0
      obtain ⟨c, rfl, hc⟩ := u8_of_trod t1
      obtain ⟨u, rfl, hu⟩ := string_of_trod t2
      exact ⟨⟨s, c, u⟩, c0, c1, c2, ⟨hs, hu⟩, hc⟩
    by_cases h0 : len = 0
    · subst h0
      exact ⟨[], ⟨⟨some a, cap, rfl, by simp, hm, .inl rfl⟩, fun e he => by simp at he⟩, fun e he => by simp at he⟩
    · obtain ⟨b, off, spot⟩ := a
      have hspot : spot = none := by
        obtain ⟨e, hc, _⟩ := each 0 (by omega)
        simpa [Addr.add] using World.cell?_spot hc
      subst hspot
      have hat : ∀ j, (⟨b, off, none⟩ : Addr).add j = ⟨b, off + j, none⟩ := fun j => by unfold Addr.add; split <;> simp_all
      have each' : ∀ i, i < len → ∃ e : Ent, W.cell? ⟨b, off + i * 3, none⟩ = some (.string e.word) ∧ W.cell? ⟨b, off + i * 3 + 1, none⟩ = some (.int .u8 e.cat) ∧ W.cell? ⟨b, off + i * 3 + 2, none⟩ = some (.string e.sym) ∧ e.ok ∧ 0 ≤ e.cat ∧ e.cat ≤ 255 := by
        intro i hi
        obtain ⟨e, h0, h1, h2, h3⟩ := each i hi
        rw [hat] at h0 h1 h2
        exact ⟨e, h0, by rw [← Nat.add_assoc] at h1; exact h1, by rw [← Nat.add_assoc] at h2; exact h2, h3⟩
      let f : Nat → Ent := fun i => if h : i < len then (each' i h).choose else ⟨ByteArray.empty, 0, ByteArray.empty⟩
      have hfi : ∀ i (h : i < len), f i = (each' i h).choose := fun i h => by simp [f, h]
      have hlen : ((List.range len).map f).length = len := by simp
      have hok : ∀ e ∈ (List.range len).map f, e.ok ∧ 0 ≤ e.cat ∧ e.cat ≤ 255 := by
        intro e he
        obtain ⟨i, hi, rfl⟩ := List.mem_map.1 he
        have hi : i < len := by simpa using hi
        rw [hfi i hi]
        exact (each' i hi).choose_spec.2.2.2
      refine ⟨(List.range len).map f, ⟨⟨some ⟨b, off, none⟩, cap, by rw [hlen], by rw [hlen]; exact hl, hm, .inr ⟨b, off, rfl, ?_, ?_⟩⟩, fun e he => (hok e he).1⟩, fun e he => (hok e he).2⟩
      · obtain ⟨e, hc, _⟩ := each 0 (by omega)
        exact World.block_lt_of_cell? W _ hc
      · intro j hj
        rw [hlen] at hj
        have hg : ((List.range len).map f)[j]'(by rw [hlen]; exact hj) = f j := by simp
        rw [hg, hfi j hj]
        obtain ⟨h0, h1, h2, _⟩ := (each' j hj).choose_spec
        exact ⟨h0, h1, h2⟩

set_option maxRecDepth 100000 in
theorem ents_nilform {H : Type} {enc : TypeId × Value → H} {W : World} {b0 : Nat} {v : Value} {d : DataW H} {p : List MemPlace} (hv : Value.okWide Tryz.prog W .any b0 22 v) (h : DataW.Trod enc Tryz.prog W 0 (fun _ => true) true 22 v d p) :
    ∀ n cap, v = .slice none n cap → v = .slice none 0 0 := by
  obtain ⟨a0, len, cap, rfl⟩ := okWide_slice Tryz.underlying22 hv
  obtain ⟨fuel, hf⟩ := h
  rcases open_slice_fields Tryz.underlying22 Tryz.underlying63 (by kernel_rfl) (by kernel_rfl) hf with ⟨hcs, _⟩ | ⟨a, len', cap', hcs, _⟩
  · have hcs : [Value.slice a0 len cap] = [Value.slice none 0 0] := hcs
    simp at hcs
    obtain ⟨rfl, rfl, rfl⟩ := hcs
    exact fun _ _ _ => rfl
  · have hcs : [Value.slice a0 len cap] = [Value.slice (some a) len' cap'] := hcs
    simp at hcs
    obtain ⟨rfl, rfl, rfl⟩ := hcs
    intro n c h
    simp at h
set_option maxRecDepth 100000 in
/-- Texts. -/
theorem open_strs {H : Type} {enc : TypeId × Value → H} {W : World} {b0 : Nat} {v : Value} {d : DataW H} {p : List MemPlace} (hv : Value.okWide Tryz.prog W .any b0 41 v) (h : DataW.Trod enc Tryz.prog W 0 (fun _ => true) true 41 v d p) :
    ∃ l : List (List UInt8), StrSlice W v l ∧ (∀ n cap, v = .slice none n cap → v = .slice none 0 0) ∧ (l = [] ∨ ∃ elems spare, d = .slice elems spare ∧ elems.length = l.length) := by
  obtain ⟨a0, len, cap, rfl⟩ := okWide_slice Tryz.underlying41 hv
  obtain ⟨fuel, hf⟩ := h
  rcases open_strings Tryz.underlying41 Tryz.underlying9 (by kernel_rfl) hf with ⟨hcs, _⟩ | ⟨a, len', cap', ss, hcs, _, hl, hm, hz, hx, hcell, _⟩
  · have hcs : [Value.slice a0 len cap] = [Value.slice none 0 0] := hcs
    simp at hcs
    obtain ⟨rfl, rfl, rfl⟩ := hcs
    exact ⟨[], ⟨none, 0, rfl, Nat.le_refl _, Nat.zero_le _, .inl rfl⟩, fun _ _ _ => rfl, .inl rfl⟩
  · have hcs : [Value.slice a0 len cap] = [Value.slice (some a) len' cap'] := hcs
    simp at hcs
    obtain ⟨rfl, rfl, rfl⟩ := hcs
    simp only [if_true] at hz
    have hlen : ((ss.take len).map fun s => s.data.toList).length = len := by simp; omega
    refine ⟨(ss.take len).map fun s => s.data.toList, ?_, fun n c h => by simp at h, .inr ⟨_, _, (Prod.mk.inj hx).1, by simp [strs]⟩⟩
    by_cases h0 : len = 0
    · subst h0
      exact ⟨some a, cap, by simp, by simp, hm, .inl (by simp)⟩
    · obtain ⟨b, off, spot⟩ := a
      have hspot : spot = none := by simpa [Addr.add] using World.cell?_spot (hcell 0 (by omega))
      subst hspot
      have hat : ∀ j, (⟨b, off, none⟩ : Addr).add j = ⟨b, off + j, none⟩ := fun j => by unfold Addr.add; split <;> simp_all
      refine ⟨_, cap, by rw [hlen], by rw [hlen]; exact hl, hm, .inr ⟨b, off, rfl, fun j hj => ?_⟩⟩
      rw [hlen] at hj
      have hc := hcell j (by omega)
      rw [hat] at hc
      rw [hc]
      simp [List.getD_eq_getElem?_getD, List.getElem?_eq_getElem (show j < ss.length by omega)]
set_option maxRecDepth 100000 in
theorem strs_reach {H : Type} {ts : List TypeId} {ds : List (DataW H)} (h : (DataW.weightsEach Tryz.prog ts ds).all (· ≤ reachBytes) = true) {j : Nat} (ht : ts[j]? = some 41) {d : DataW H} (hd : ds[j]? = some d) {l : List (List UInt8)}
    (hf : l = [] ∨ ∃ elems spare, d = .slice elems spare ∧ elems.length = l.length) : l.length * 16 ≤ 140737488351232 := by
  rcases hf with rfl | ⟨elems, spare, rfl, hl⟩
  · simp
  · have := sized_slice h ht hd Tryz.underlying41
    have hb : Tryz.prog.bytesOf 9 = 16 := by kernel_rfl
    rw [hb, hl] at this
    have hr : reachBytes = 140737488351232 := rfl
    rw [hr] at this
    omega
end Go.Proofs.YthmnffgjckpkiaaGreatDoor
namespace Go.Proofs.YthmnffgjckpkiaaGreatDoor
open Go Go.RowKit Go.Lib

theorem laidMet_perm {P : Program} {l l' : List (String × DataW Unit)} {w : World} (h : l.Perm l') (hm : laidMet P l w) : laidMet P l' w := by
  obtain ⟨ps, h1, h2, h3⟩ := hm
  obtain ⟨ps', h4, h5⟩ := Go.Lay.LaidVars_perm h h1
  exact ⟨ps', h4, h5.nodup_iff.1 h2, fun b off hb => h3 b off (h5.symm.mem_iff.1 hb)⟩

/-- The list that every row of this seat bears. -/
def lst : List (String × DataW Unit) := [("unicode/utf8.acceptRanges", Rows.laid_unicode_utf8_acceptRanges), ("unicode.White_Space", Rows.laid_unicode_White_Space), ("strings.asciiSpace", Rows.laid_strings_asciiSpace), ("unicode.CaseRanges", Rows.laid_unicode_CaseRanges), ("unicode/utf8.first", Rows.laid_unicode_utf8_first)]
theorem acc_eq : (Rows.laid_unicode_utf8_acceptRanges : DataW Unit) = acceptData := by kernel_rfl
theorem space_eq : (Rows.laid_strings_asciiSpace : DataW Unit) = tabData .u8 asciiSpaceTab := by kernel_rfl
theorem white_eq : (Rows.laid_unicode_White_Space : DataW Unit) = whiteData := by kernel_rfl
theorem case_eq : Rows.laid_unicode_CaseRanges = caseData := Pinned.caseRanges_eq
theorem first_eq : Rows.laid_unicode_utf8_first = firstData := Pinned.utf8First_eq

/-- The layings of this seat, with the global that the table of cases lies in. -/
def renC : Go.Shelf.Ren := ⟨Tryz.lays274_ren.f, Tryz.lays274_ren.t, fun | 13 => 1 | n => n⟩
theorem laysC : Go.Proofs.Lays.n274 Tryz.prog renC := { Tryz.lays274 with }
theorem laysC_t206 : Tryz.prog.underlying (renC.t 206) = some (.array 3 (renC.t 21)) := by kernel_rfl
theorem gSpaceType : (Tryz.prog.globals[0]?).map (·.type) = some 211 := by kernel_rfl
theorem cells256 : Tryz.prog.cellsOf 211 = 256 := by kernel_rfl
theorem cellsU8 : Tryz.prog.cellsOf 5 = 1 := by kernel_rfl

theorem tabs0_of_laid {W : World} (hL : laidMet Tryz.prog lst W) (hsh : W.ShapedOpen Tryz.prog) : Tabs0 W := by
  have hp : lst.Perm [("strings.asciiSpace", tabData .u8 asciiSpaceTab), ("unicode/utf8.acceptRanges", acceptData), ("unicode.White_Space", whiteData), ("unicode.CaseRanges", caseData), ("unicode/utf8.first", firstData)] := by
    unfold lst
    rw [acc_eq, space_eq, white_eq, case_eq, first_eq]
    exact (List.Perm.cons _ (List.Perm.swap _ _ _)).trans (List.Perm.swap _ _ _)
  have h2 := laidMet_perm hp hL
  refine ⟨Tryz.laysM144.s1_3 W hsh, tabIs_of_head gSpace gSpaceType Tryz.underlying211 Tryz.underlying5 cellsU8 cells256 h2, ?_, ?_⟩
  · exact caseVar_of_reads laysC laysC_t206 ⟨by kernel_rfl, by kernel_rfl, by kernel_rfl, by kernel_rfl, by kernel_rfl, by kernel_rfl⟩ (Lib.laidMet.reads h2 (.tail _ (.tail _ (.tail _ (.head _)))))
  · exact utf8Tabs_of_reads Tryz.lays260 ⟨by kernel_rfl, by kernel_rfl, by kernel_rfl, by kernel_rfl, by kernel_rfl, by kernel_rfl, by kernel_rfl⟩ (Lib.laidMet.reads h2 (.tail _ (.tail _ (.tail _ (.tail _ (.head _)))))) (Lib.laidMet.reads h2 (.tail _ (.head _)))
end Go.Proofs.YthmnffgjckpkiaaGreatDoor
namespace Go.Proofs.YthmnffgjckpkiaaGreatDoor
open Go Go.RowKit Go.Lib

/-- The settled world with three blocks more (the ranges of unicode.White_Space; its table; the rows of unicode.CaseRanges), the five variables holding what their initialisers lay. -/
noncomputable def laidWorld (os : Os) : World :=
  let N := (World.settled Tryz.prog os).heap.size
  let w0 := World.holding Tryz.prog os ⟨#[.cells (Lib.whiteT.map fun (z : Nat) => Value.int .u16 (z : Int)).toArray 242, .cells #[.slice (some ⟨N, 0, none⟩) 7 7, .slice none 0 0, .int .i64 2] 239,
    .cells Lib.caseCells5 250], #[], []⟩
  let put (h : Array Obj) (g : Nat) (cs : Array Value) : Array Obj := h.modify g fun
    | .cells _ t frozen => .cells cs t frozen
    | o => o
  let h1 := put w0.heap 0 (Lib.asciiSpaceTab.map fun z => Value.int .u8 z).toArray
  let h2 := put h1 4 (Lib.firstTab.map fun z => Value.int .u8 z).toArray
  let h3 := put h2 5 ((List.range 16).flatMap fun i => [Value.int .u8 (Lib.accLo i), Value.int .u8 (Lib.accHi i)]).toArray
  let h4 := put h3 2 #[.pointer (some ⟨N + 1, 0, none⟩)]
  let h5 := put h4 1 #[.slice (some ⟨N + 2, 0, none⟩) 336 336]
  { w0 with heap := h5 }
theorem laid_met (os : Os) (args : Array Value) : laidMet Tryz.prog lst ((laidWorld os).forCall (fun _ _ => 0) ⟨#[], args, []⟩).memory := by
  have h := laidMet_with_case (ρ := renC) (w := ((laidWorld os).forCall (fun _ _ => 0) ⟨#[], args, []⟩).memory) laysC laysC_t206 ⟨by kernel_rfl, by kernel_rfl, by kernel_rfl, by kernel_rfl, by kernel_rfl, by kernel_rfl⟩
    (l := [("unicode/utf8.acceptRanges", acceptData), ("unicode.White_Space", whiteData), ("strings.asciiSpace", tabData .u8 asciiSpaceTab), ("unicode/utf8.first", firstData)])
    10 (by kernel_rfl) (by kernel_rfl) (by kernel_rfl) ((World.settled Tryz.prog default).heap.size + 2) 250 (of_decide_eq_true (by kernel_rfl)) (by kernel_rfl) (by kernel_rfl) (by kernel_rfl)
  refine laidMet_perm ?_ h
  unfold lst
  rw [acc_eq, space_eq, white_eq, case_eq, first_eq]
  exact List.Perm.cons _ (List.Perm.cons _ (List.Perm.cons _ (List.Perm.swap _ _ _)))
end Go.Proofs.YthmnffgjckpkiaaGreatDoor
