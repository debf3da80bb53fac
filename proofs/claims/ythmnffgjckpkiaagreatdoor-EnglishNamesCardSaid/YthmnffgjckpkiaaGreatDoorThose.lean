/-
  Contract of the generic 'those' of package words at entries, for any function value that is as a predicate.
-/
import Derived.Test.YthmnffgjckpkiaaGreatDoorCmp
import Derived.Laws.EntriesVeiled
import Derived.Maps.AppendAt
namespace Go.Proofs.YthmnffgjckpkiaaGreatDoor
open Go Go.RowKit

/-- The slice value v denotes the list l of entries in the world w. -/
structure EntSlice (w : World) (v : Value) (l : List Ent) : Prop where
  form : ∃ a cap, v = .slice a l.length cap ∧ l.length ≤ cap ∧ cap ≤ maxLen ∧ (l = [] ∨ ∃ b off, a = some ⟨b, off, none⟩ ∧ b < w.heap.size ∧
    ∀ j (h : j < l.length), w.cell? ⟨b, off + j * 3, none⟩ = some (.string l[j].word) ∧ w.cell? ⟨b, off + j * 3 + 1, none⟩ = some (.int .u8 l[j].cat) ∧ w.cell? ⟨b, off + j * 3 + 2, none⟩ = some (.string l[j].sym))
  ok : ∀ e ∈ l, e.ok

theorem EntSlice.below {w w' : World} {v : Value} {l : List Ent} (h : EntSlice w v l) (hb : Below w.heap.size w w') : EntSlice w' v l := by
  obtain ⟨⟨a, cap, hv, h1, h2, h3⟩, h4⟩ := h
  refine ⟨⟨a, cap, hv, h1, h2, ?_⟩, h4⟩
  rcases h3 with h3 | ⟨b, off, ha, hlt, hc⟩
  · exact .inl h3
  · refine .inr ⟨b, off, ha, Nat.lt_of_lt_of_le hlt hb.size, fun j hj => ?_⟩
    obtain ⟨c0, c1, c2⟩ := hc j hj
    exact ⟨cell_kept' hb c0, cell_kept' hb c1, cell_kept' hb c2⟩

/-- The slice value v denotes the list of numbers in the world w. -/
def IdxSlice (w : World) (v : Value) (idx : List Nat) : Prop :=
  ∃ a cap, v = .slice a idx.length cap ∧ (idx = [] ∨ ∃ g, a = some ⟨g, 0, none⟩ ∧ ∀ j (h : j < idx.length), w.cell? ⟨g, j, none⟩ = some (.int .i64 idx[j]))

theorem idxSlice_of_owns {w : World} {base : Nat} {v : Value} {idx : List Nat} {t : TypeId} (h : w.ownsRow base t 1 v idx.length (idx.map fun i : Nat => Value.int .i64 i)) : IdxSlice w v idx := by
  rcases h.2 with ⟨rfl, h0⟩ | ⟨g, cap, cur, rfl, hbg, hg, hnc, hcm, hcs, htake⟩
  · have : idx = [] := List.eq_nil_of_length_eq_zero h0
    subst this
    exact ⟨none, 0, rfl, .inl rfl⟩
  · refine ⟨_, cap, rfl, .inr ⟨g, rfl, fun j hj => ?_⟩⟩
    have hc := h.cells (g := g) rfl j (.int .i64 idx[j]) (by simp [hj])
    have hadd : (⟨g, 0, none⟩ : Addr).add j = ⟨g, j, none⟩ := by unfold Addr.add; split <;> simp_all
    rwa [hadd] at hc
theorem IdxSlice.below {w w' : World} {v : Value} {idx : List Nat} (h : IdxSlice w v idx) (hb : Below w.heap.size w w') : IdxSlice w' v idx := by
  obtain ⟨a, cap, hv, h⟩ := h
  refine ⟨a, cap, hv, ?_⟩
  rcases h with h | ⟨g, ha, hc⟩
  · exact .inl h
  · exact .inr ⟨g, ha, fun j hj => cell_kept' hb (hc j hj)⟩

theorem grownBy_of_below {w w' : World} (h : Below w.heap.size w w') {row : Option Nat} : w.grownBy w' row := ⟨h.os, h.tape, h.output, h.size, fun k hk _ => h.block k hk⟩
theorem ownsRow_below {w w' : World} {base : Nat} {e : TypeId} {size : Nat} {v : Value} {n : Nat} {xs : List Value} (h : w.ownsRow base e size v n xs) (hb : Below w.heap.size w w') : w'.ownsRow base e size v n xs :=
  h.kept (row := none) (grownBy_of_below hb) (by cases v.ownBlock <;> simp)
/-- The places of the entries that are as p says, among the first k. -/
def thoseTo (p : Ent → Bool) (l : List Ent) (k : Nat) : List Nat := (List.range k).filter fun i => match l[i]? with | some e => p e | none => false
def thoseS (p : Ent → Bool) (l : List Ent) : List Nat := thoseTo p l l.length
theorem thoseTo_yes {p : Ent → Bool} {l : List Ent} {k : Nat} (h : k < l.length) (hp : p l[k] = true) : thoseTo p l (k + 1) = thoseTo p l k ++ [k] := by
  simp [thoseTo, List.range_succ, List.filter_append, List.getElem?_eq_getElem h, hp]
theorem thoseTo_no {p : Ent → Bool} {l : List Ent} {k : Nat} (h : k < l.length) (hp : p l[k] = false) : thoseTo p l (k + 1) = thoseTo p l k := by
  simp [thoseTo, List.range_succ, List.filter_append, List.getElem?_eq_getElem h, hp]
theorem thoseTo_len (p : Ent → Bool) (l : List Ent) (k : Nat) : (thoseTo p l k).length ≤ k := by
  have := List.length_filter_le (fun i => match l[i]? with | some e => p e | none => false) (List.range k)
  simpa [thoseTo] using this

theorem info_int : (Tryz.prog.info? 3).map (fun i => (i.zero, i.size, i.bytes)) = some (some (.int .i64 0), 1, 8) := by kernel_rfl

set_option maxRecDepth 100000 in
set_option maxHeartbeats 2000000 in
theorem those_any (w : World) (v : Value) (l : List Ent) (hl : EntSlice w v l) (h100 : l.length ≤ 1000000) (g : Nat) (caps : Array Value) (p : Ent → Bool)
    (eg : ∀ args w, (callFunc g args).run Tryz.prog w = .ok (.enter g args) w)
    (hF : ∀ (w' : World) (e : Ent), Below w.heap.size w w' → e ∈ l → Calls Tryz.prog g (#[.agg #[.string e.word, .int .u8 e.cat, .string e.sym]] ++ caps) w' fun r w'' => r = .returned (.bool (p e)) ∧ Below w'.heap.size w' w'') :
    Calls Tryz.prog 60 #[v, .func (.func g) #[] caps] w fun r w' => ∃ r', r = .returned r' ∧ IdxSlice w' r' (thoseS p l) ∧ Below w.heap.size w w' := by
  obtain ⟨i0, hi, hz0, hz1, hz2⟩ := info_parts info_int
  obtain ⟨⟨a, cap, rfl, hcap, hcm, hform⟩, hok⟩ := hl
  have HF := Lib.hid hF
  have HO := Lib.hid hok
  have HFo := Lib.hid hform
  clear hF hok hform
  go_enter Tryz.func60, Tryz.ntmps60
  go_wp2
  go_loopw [5, 10] (fun r i wr => ∃ k : Nat, k ≤ l.length ∧ i = .int .i64 k ∧ wr.ownsRow w.heap.size 3 1 r (thoseTo p l k).length ((thoseTo p l k).map fun i : Nat => Value.int .i64 i) ∧ Below w.heap.size w wr) (fun _ i _ => l.length - (intOf i).toNat)
  case atStart => exact ⟨0, Nat.zero_le _, rfl, World.ownsRow_nil _ _ _ _, Below.refl _ _⟩
  case round =>
    obtain ⟨k, hk, rfl, hown, hb⟩ := hrel
    have HOwn := Lib.hid hown
    clear hown
    by_cases hlt : k < l.length
    · rcases HFo.out with h0 | ⟨b, off, rfl, hbl, hc⟩
      · rw [h0] at hlt; exact absurd hlt (by simp)
      · obtain ⟨c0, c1, c2⟩ := hc k hlt
        have c0' := cell_kept' hb c0
        have c1' := cell_kept' hb c1
        have c2' := cell_kept' hb c2
        clear c0 c1 c2 hc
        have HE : Hid (l[k] ∈ l) := List.getElem_mem hlt
        obtain ⟨e, he⟩ : ∃ e, e = l[k] := ⟨_, rfl⟩
        rw [← he] at c0' c1' c2'
        have HEq := Lib.hid he
        clear he
        go_wp2
        refine (HF.out _ e (hb.alloc hb.size _) (HEq.out ▸ HE.out)).mono ?_
        rintro r w1 ⟨rfl, hb1⟩
        have hw1 : Below w.heap.size w w1 := (hb.alloc hb.size _).trans (hb1.mono (by have := hb.size; simp; omega))
        have hsz1 : wr.heap.size + 1 ≤ w1.heap.size := by have := hb1.size; simpa using this
        have hown1 := ownsRow_below (HOwn.out.alloc (.cells #[.string e.word, .int .u8 e.cat, .string e.sym] 63)) hb1
        have hlen := thoseTo_len p l k
        cases hp : p e
        · have hstep := thoseTo_no hlt (HEq.out ▸ hp)
          have HS := Lib.hid hstep
          have HO1 := Lib.hid hown1
          clear hstep hown1 hp
          go_wp2
          go_roundw
          case rel => exact ⟨k + 1, by omega, by go_num, by rw [HS.out]; exact HO1.out, hw1⟩
          case measure => simp [intOf]; omega
        · have hstep := thoseTo_yes hlt (HEq.out ▸ hp)
          have HS := Lib.hid hstep
          have HO1 := Lib.hid hown1
          clear hstep hown1 hp
          go_wp2_with (at_builtin; refine wpList_append_own _ rfl _ _ 96 rfl w.heap.size 3 i0 (.int .i64 0) 1 8 Tryz.underlying96 hi hz0 hz1 hz2 rfl (by decide) _ _ _ rfl (HO1.out.alloc _) ⟨w1.heap.size, 0, none⟩ 1 1 [.int .i64 k] rfl rfl (cell_one_new _ _ _) (by simp [Value.oneCell']) (by unfold maxLen; omega) (by omega) (by have := hw1.size; simp; omega) ?_)
          intro v' w2 hown2 hgrow _
          have hb2 : Below w.heap.size w w2 := (hw1.alloc hw1.size _).grown hgrow (by have := hw1.size; simp; omega) (fun k hk => (HO1.out.lt k hk).1)
          have HO2 := Lib.hid hown2
          clear hown2 hgrow
          go_wp2
          go_roundw
          case rel => exact ⟨k + 1, by omega, by go_num, by rw [HS.out, List.length_append, List.map_append]; exact HO2.out, hb2⟩
          case measure => simp [intOf]; omega
    · obtain rfl : k = l.length := by omega
      go_wp2
      go_ret
      exact ⟨_, rfl, idxSlice_of_owns HOwn.out, hb⟩
end Go.Proofs.YthmnffgjckpkiaaGreatDoor
