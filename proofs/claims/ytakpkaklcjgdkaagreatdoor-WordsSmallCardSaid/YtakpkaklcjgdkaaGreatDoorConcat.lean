/-
  Contracts of slices.Grow (of a nil slice) and slices.Concat at entries.
-/
import Derived.Test.YtakpkaklcjgdkaaGreatDoorSmall
import Derived.Lib.AppendZerosOnto
import Derived.Laws.AppendOwnNone
namespace Go.Proofs.YtakpkaklcjgdkaaGreatDoor
open Go Go.RowKit

theorem info_ent : (Tryz.prog.info? 26).map (fun i => (i.zero, i.size, i.bytes)) = some (some (.agg #[.string ByteArray.empty, .int .u8 0, .string ByteArray.empty]), 3, 40) := by kernel_rfl

set_option maxRecDepth 100000 in
set_option maxHeartbeats 2000000 in
theorem Grow_new (w : World) (n : Nat) (hn : n ≤ 1000000) :
    Calls Tryz.prog 95 #[.slice none 0 0, .int .i64 n] w fun e w' => ∃ v, e = .returned v ∧ w'.ownsRow w.heap.size 26 3 v 0 [] ∧ Below w.heap.size w w' := by
  obtain ⟨i0, hi, hz0, hz1, hz2⟩ := info_parts info_ent
  by_cases h0 : n = 0
  · subst h0
    go_enter Tryz.func95, Tryz.ntmps95
    go_wp2
    go_ret
    exact ⟨_, rfl, World.ownsRow_nil _ _ _ _, Below.refl _ _⟩
  · have hrz : ∀ ty, (Builtin.append_ #[24, 3] ty #[.slice none 0 0, .int .i64 n]).run Tryz.prog w =
        .ok (.slice (some ⟨w.heap.size, 0, none⟩) n (grownCap w n 0 26)) (w.drew.alloc (.cells (#[] ++ Builtin.zeroCells (Value.agg #[.string ByteArray.empty, .int .u8 0, .string ByteArray.empty]).cells n ++ Builtin.zeroCells (Value.agg #[.string ByteArray.empty, .int .u8 0, .string ByteArray.empty]).cells (grownCap w n 0 26 - n)) 26)) := fun ty => by
      have h := Lib.run_append_grow_zeros (P := Tryz.prog) w 24 3 ty 26 i0 (.agg #[.string ByteArray.empty, .int .u8 0, .string ByteArray.empty]) .i64 .i64 Tryz.underlying24 Tryz.underlying3 hi hz0 none 0 0 [] (run_firstCells_none w.drew i0.size 0 0 0) n (by omega) (by rw [hz1]; omega) (by omega) (by omega) (by rw [hz2]; omega) (by rw [hz2, Nat.zero_add]; exact growslice_fits (by omega) (by omega))
      rw [Nat.zero_add] at h
      exact h
    have hG := grownCap_ge w n 0 26
    have hG2 := grownCap_le_maxLen w n 0 26 (by unfold maxLen; omega)
    obtain ⟨G, hGe⟩ : ∃ G, G = grownCap w n 0 26 := ⟨_, rfl⟩
    rw [← hGe] at hG hG2 hrz
    have hG63 : G ≤ 9223372036854775807 := by unfold maxLen at hG2; omega
    obtain ⟨C, hC⟩ : ∃ C : Array Value, C = #[] ++ Builtin.zeroCells (Value.agg #[.string ByteArray.empty, .int .u8 0, .string ByteArray.empty]).cells n ++ Builtin.zeroCells (Value.agg #[.string ByteArray.empty, .int .u8 0, .string ByteArray.empty]).cells (G - n) := ⟨_, rfl⟩
    have hCs : C.size = G * 3 := by
      rw [hC, Array.size_append, Array.size_append, size_zeroCells, size_zeroCells]
      have h3 : (Value.agg #[.string ByteArray.empty, .int .u8 0, .string ByteArray.empty]).cells.size = 3 := rfl
      rw [h3]
      simp
      omega
    rw [← hC] at hrz
    have HC := Lib.hid hCs
    have h1 : ¬ ((n : Int) ≤ 0) := by omega
    have h2 : (0 : Int) < n := by omega
    clear hGe hC hCs h0
    go_enter Tryz.func95, Tryz.ntmps95
    go_wp2_with (at_builtin; refine Lib.wpList_append_run _ rfl _ _ _ _ rfl _ _ rfl rfl _ _ (hrz _) ?_)
    go_ret
    refine ⟨_, rfl, ⟨rfl, .inr ⟨w.heap.size, G, C, rfl, Nat.le_refl _, heap_alloc_new _ _, Nat.zero_le _, hG2, HC.out, rfl⟩⟩, (Below.refl _ _).drew.alloc (Nat.le_refl _) _⟩

theorem ents_len (l : List Ent) : (l.flatMap entCells).length = l.length * 3 := by
  induction l with
  | nil => rfl
  | cons e l ih => rw [List.flatMap_cons, List.length_append, ih]; simp [entCells]; omega
theorem ents_at {w : World} {b off : Nat} {l : List Ent} (hc : ∀ j (h : j < l.length), w.cell? ⟨b, off + j * 3, none⟩ = some (.string l[j].word) ∧ w.cell? ⟨b, off + j * 3 + 1, none⟩ = some (.int .u8 l[j].cat) ∧ w.cell? ⟨b, off + j * 3 + 2, none⟩ = some (.string l[j].sym)) :
    ∀ j u, (l.flatMap entCells)[j]? = some u → w.cell? ((⟨b, off, none⟩ : Addr).add j) = some u := by
  intro j u hu
  have hj : j < l.length * 3 := by
    rw [← ents_len]
    exact (List.getElem?_eq_some_iff.1 hu).1
  have hq : j / 3 < l.length := by omega
  obtain ⟨h0, h1, h2⟩ := flat3 l (j / 3) hq
  obtain ⟨c0, c1, c2⟩ := hc (j / 3) hq
  have hadd : (⟨b, off, none⟩ : Addr).add j = ⟨b, off + j, none⟩ := by unfold Addr.add; split <;> simp_all
  rw [hadd]
  have hm : j % 3 = 0 ∨ j % 3 = 1 ∨ j % 3 = 2 := by omega
  rcases hm with hm | hm | hm
  · have e : j = j / 3 * 3 := by omega
    rw [← e] at h0 c0
    rw [h0] at hu; rw [c0]; exact hu
  · have e : j = j / 3 * 3 + 1 := by omega
    rw [Nat.add_assoc, ← e] at c1
    rw [← e] at h1
    rw [h1] at hu; rw [c1]; exact hu
  · have e : j = j / 3 * 3 + 2 := by omega
    rw [Nat.add_assoc, ← e] at c2
    rw [← e] at h2
    rw [h2] at hu; rw [c2]; exact hu
theorem ents_one (l : List Ent) : ∀ u ∈ l.flatMap entCells, u.oneCell' = true := by
  intro u hu
  obtain ⟨e, _, he⟩ := List.mem_flatMap.1 hu
  simp only [entCells, List.mem_cons, List.not_mem_nil, or_false] at he
  rcases he with rfl | rfl | rfl <;> rfl
/-- A row of slices of entries. -/
def RowsOf (w : World) (B : Nat) (ls : List (List Ent)) : Prop := ∀ j (h : j < ls.length), ∃ v, w.cell? ⟨B, j, none⟩ = some v ∧ EntSlice w v ls[j] ∧ (∀ n cap, v = .slice none n cap → v = .slice none 0 0)
theorem RowsOf.below {w w' : World} {B : Nat} {ls : List (List Ent)} (h : RowsOf w B ls) (hb : Below w.heap.size w w') : RowsOf w' B ls := fun j hj => by
  obtain ⟨v, h1, h2, h3⟩ := h j hj
  exact ⟨v, cell_kept' hb h1, h2.below hb, h3⟩
def catTo (ls : List (List Ent)) (k : Nat) : List Ent := (ls.take k).flatten
theorem catTo_succ {ls : List (List Ent)} {k : Nat} (h : k < ls.length) : catTo ls (k + 1) = catTo ls k ++ ls[k] := by
  unfold catTo
  rw [List.take_succ_eq_append_getElem h, List.flatten_append, List.flatten_cons, List.flatten_nil, List.append_nil]
theorem catTo_le (ls : List (List Ent)) : ∀ k j, (catTo ls k).length ≤ (catTo ls (k + j)).length
  | k, 0 => Nat.le_refl _
  | k, j + 1 => by
    have ih := catTo_le ls k j
    rw [← Nat.add_assoc]
    by_cases h : k + j < ls.length
    · rw [catTo_succ h, List.length_append]; omega
    · have e : catTo ls (k + j + 1) = catTo ls (k + j) := by
        unfold catTo
        rw [List.take_of_length_le (by omega), List.take_of_length_le (by omega)]
      rw [e]; exact ih
theorem catTo_all (ls : List (List Ent)) : catTo ls ls.length = ls.flatten := by unfold catTo; rw [List.take_length]
theorem catTo_bound {ls : List (List Ent)} {k : Nat} (hk : k ≤ ls.length) : (catTo ls k).length ≤ ls.flatten.length := by
  have := catTo_le ls k (ls.length - k)
  rw [show k + (ls.length - k) = ls.length by omega, catTo_all] at this
  exact this

set_option maxRecDepth 100000 in
set_option maxHeartbeats 8000000 in
theorem Concat_any (w : World) (B m : Nat) (ls : List (List Ent)) (hm : m = ls.length) (hrows : RowsOf w B ls) (hn : ls.flatten.length ≤ 100000) (hm2 : m ≤ 1000) :
    Calls Tryz.prog 67 #[.slice (some ⟨B, 0, none⟩) m m] w fun e w' => ∃ v, e = .returned v ∧ w'.ownsRow w.heap.size 26 3 v ls.flatten.length (ls.flatten.flatMap entCells) ∧ Below w.heap.size w w' := by
  obtain ⟨i0, hi, hz0, hz1, hz2⟩ := info_parts info_ent
  have HR := Lib.hid hrows
  have HM := Lib.hid hm
  have hmle : m ≤ ls.length := by omega
  have hmge : ls.length ≤ m := by omega
  clear hm
  have HB := Lib.hid (fun k (h : k ≤ ls.length) => catTo_bound (ls := ls) h)
  clear hrows
  go_enter Tryz.func67, Tryz.ntmps67
  go_wp2
  go_loop [3, 11] (fun z i => ∃ k : Nat, k ≤ m ∧ i = .int .i64 k ∧ z = .int .i64 (catTo ls k).length) (fun _ i => m - (intOf i).toNat)
  case atStart => exact ⟨0, Nat.zero_le _, rfl, rfl⟩
  case round =>
    obtain ⟨k, hk, rfl, rfl⟩ := hrel
    have hzb := HB.out k (by omega)
    by_cases hlt : k < m
    · obtain ⟨v, hc, ⟨⟨a, cap, rfl, hcap, hcm, _⟩, _⟩, _⟩ := HR.out k (by omega)
      have hs := catTo_succ (ls := ls) (k := k) (by omega)
      have hzb2 := HB.out (k + 1) (by omega)
      rw [hs, List.length_append] at hzb2
      have HS := Lib.hid hs
      obtain ⟨n, hne⟩ : ∃ n, n = (ls[k]'(by omega)).length := ⟨_, rfl⟩
      rw [← hne] at hc hzb2
      have HN := Lib.hid hne
      obtain ⟨z, hze⟩ : ∃ z, z = (catTo ls k).length := ⟨_, rfl⟩
      rw [← hze] at hzb hzb2 ⊢
      have HZ := Lib.hid hze
      clear hs hne hze hcap hcm
      go_wp2
      go_round
      case rel => exact ⟨k + 1, by omega, by go_num, by rw [HS.out, List.length_append, ← HN.out, ← HZ.out]; go_num⟩
      case measure => simp [intOf]; omega
    · obtain rfl : k = m := by omega
      have hall : (catTo ls k).length = ls.flatten.length := by rw [HM.out, catTo_all]
      rw [hall]
      obtain ⟨N, hNe⟩ : ∃ N, N = ls.flatten.length := ⟨_, rfl⟩
      have hn0 := hn
      rw [← hNe] at hn ⊢
      have HNe := Lib.hid hNe
      clear hall hNe
      go_wp2_with fail
      refine (Grow_new w N (by omega)).mono ?_
      rintro e w1 ⟨v1, rfl, hown1, hb1⟩
      have HO1 := Lib.hid hown1
      clear hown1
      go_wp2
      go_loopw [6, 27] (fun o i wr => ∃ j : Nat, j ≤ k ∧ i = .int .i64 j ∧ wr.ownsRow w.heap.size 26 3 o (catTo ls j).length ((catTo ls j).flatMap entCells) ∧ Below w.heap.size w wr) (fun _ i _ => k - (intOf i).toNat)
      case atStart => exact ⟨0, Nat.zero_le _, rfl, HO1.out, hb1⟩
      case round =>
        obtain ⟨j, hj, rfl, hown, hb⟩ := hrel
        have HO := Lib.hid hown
        by_cases hjt : j < k
        · have hjl : j < ls.length := by omega
          obtain ⟨v, hc, hes, hnil⟩ := (HR.out.below hb) j hjl
          have hs := catTo_succ hjl
          have hzb2 := HB.out (j + 1) (by omega)
          rw [hs, List.length_append] at hzb2
          have HS := Lib.hid hs
          obtain ⟨q, hq⟩ : ∃ q, q = ls[j] := ⟨_, rfl⟩
          rw [← hq] at hes hzb2
          have HQ := Lib.hid hq
          obtain ⟨⟨a, cap, rfl, hcap, hcm, hform⟩, hok⟩ := hes
          obtain ⟨b, d, rfl⟩ := owns_form hown
          clear hs hq hown
          cases a with
          | none =>
            have e := hnil _ _ rfl
            have hq0 : q = [] := by rcases hform with h | ⟨b, off, h, _⟩; exact h; cases h
            subst hq0
            obtain rfl : cap = 0 := by simpa using e
            clear hnil e hform hok hcap hcm
            go_wp2_with (at_builtin; refine wpList_append_own_none rfl _ _ 24 rfl w.heap.size 26 i0 3 Tryz.underlying24 hi _ _ _ rfl HO.out rfl ?_)
            go_roundw
            case rel => exact ⟨j + 1, by omega, by go_num, by rw [HS.out, ← HQ.out, List.append_nil]; exact HO.out, hb⟩
            case measure => simp [intOf]; omega
          | some ad =>
            have hnews : ∀ i u, (q.flatMap entCells)[i]? = some u → wr.cell? (ad.add i) = some u := by
              rcases hform with rfl | ⟨g, off, hg, _, hcells⟩
              · intro i u hu; simp at hu
              · cases hg; exact ents_at hcells
            have HNw := Lib.hid hnews
            clear hnews hnil hform hok
            go_wp2_with (at_builtin; refine wpList_append_own _ rfl _ _ 24 rfl w.heap.size 26 i0 _ 3 40 Tryz.underlying24 hi hz0 hz1 hz2 rfl (by decide) _ _ _ rfl HO.out ad q.length cap (q.flatMap entCells) rfl (ents_len _) HNw.out (ents_one _) (by unfold maxLen; omega) (by omega) hb.size ?_)
            intro v' w2 hown2 hgrow _
            have hb2 : Below w.heap.size w w2 := hb.grown hgrow hb.size (fun i hi => (HO.out.lt i hi).1)
            have HO2 := Lib.hid hown2
            clear hown2 hgrow
            go_wp2
            go_roundw
            case rel => exact ⟨j + 1, by omega, by go_num, by rw [HS.out, ← HQ.out, List.length_append, List.flatMap_append]; exact HO2.out, hb2⟩
            case measure => simp [intOf]; omega
        · obtain rfl : j = k := by omega
          go_wp2
          go_ret
          refine ⟨_, rfl, ?_, hb⟩
          have e : catTo ls j = ls.flatten := by rw [HM.out, catTo_all]
          rw [← e]
          exact HO.out
end Go.Proofs.YtakpkaklcjgdkaaGreatDoor
