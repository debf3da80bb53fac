/-
  Contracts of 'functions' and 'Function' of package words: the map of the function words; whether a text is one.
-/
import Derived.Test.YthmnffgjckpkiaaGreatDoorBase
import Derived.Maps.OwnOps
import Derived.Maps.OwnSet
import Derived.Maps.StringElems
import Derived.ProofKit
namespace Go.Proofs.YthmnffgjckpkiaaGreatDoor
open Go Go.RowKit Go.Maps Go.WideMaps

/-- The text that lists the function words, and the words. -/
def fnText : List UInt8 := [97, 32, 97, 110, 32, 97, 110, 100, 32, 100, 111, 101, 115, 32, 101, 97, 99, 104, 32, 101, 118, 101, 114, 121, 32, 104, 101, 32, 105, 102, 32, 105, 102, 102, 32, 105, 115, 32, 105, 116, 32, 110, 111, 32, 110, 111, 116, 32, 111, 114, 32, 115, 104, 101, 32, 115, 111, 109, 101, 32, 116, 104, 97, 116, 32, 116, 104, 101, 32, 116, 104, 101, 110, 32, 119, 104, 111]
def fnWords : List (List UInt8) := [[97], [97, 110], [97, 110, 100], [100, 111, 101, 115], [101, 97, 99, 104], [101, 118, 101, 114, 121], [104, 101], [105, 102], [105, 102, 102], [105, 115], [105, 116], [110, 111], [110, 111, 116], [111, 114], [115, 104, 101], [115, 111, 109, 101], [116, 104, 97, 116], [116, 104, 101], [116, 104, 101, 110], [119, 104, 111]]
theorem fields_fnText : Lib.fields fnText = fnWords := by decide +kernel
/-- Whether a text is a function word. -/
def isFn (l : List UInt8) : Bool := fnWords.contains l

/-- The map behind k rounds. -/
def fnMap (k : Nat) : DataW Unit := (List.range k).foldl (fun m i => m.put (.string (fnWords.getD i [])) (.lit (.int .i64 i))) (.map [])
theorem fnMap_step (k : Nat) : fnMap (k + 1) = (fnMap k).put (.string (fnWords.getD k [])) (.lit (.int .i64 k)) := by
  simp [fnMap, List.range_succ, List.foldl_append]
theorem fnMap_isMap : ∀ k, IsMap (fnMap k)
  | 0 => isMap_empty
  | k + 1 => by rw [fnMap_step]; exact (fnMap_isMap k).put _ _
theorem has_fnMap (l : List UInt8) : ∀ k, k ≤ 20 → Maps.has (fnMap k) (.string l) = (fnWords.take k).contains l
  | 0, _ => by simp [fnMap, Maps.has]
  | k + 1, h => by
    have hk : k < fnWords.length := by simp [fnWords]; omega
    rw [fnMap_step, List.take_succ_eq_append_getElem hk]
    have hg : fnWords.getD k [] = fnWords[k] := by simp [List.getD, List.getElem?_eq_getElem hk]
    rw [hg]; clear hg
    by_cases e : l = fnWords[k]
    · rw [e, has_put_same (fnMap_isMap k) (by simp [WideAt.IsKeyLit]), List.contains_append]; simp
    · rw [has_put_other (by intro e'; exact e (by injection e')), has_fnMap l k (by omega)]
      rw [List.contains_append]; simp [e]
theorem has_fnMap_all (l : List UInt8) : Maps.has (fnMap 20) (.string l) = isFn l := by
  rw [has_fnMap l 20 (Nat.le_refl _)]; rfl

theorem keyed_string : Keyed Tryz.prog 9 := string_keyed Tryz.underlying9
theorem zero_int (w : World) : (zeroValue 3).run Tryz.prog w = .ok (.int .i64 0) w := by kernel_rfl
theorem key_string {s : ByteArray} (hs : s.size ≤ maxLen) : keyOf Tryz.prog 9 (.string s) = some (.string s.data.toList) := keyOf_string_mk Tryz.underlying9 hs

theorem fnCells (w : World) (k : Nat) (h : k < 20) :
    ((w.alloc (.map #[] 0)).alloc (.cells (fnWords.map fun l => Value.string ⟨l.toArray⟩).toArray 9)).cell? ⟨w.heap.size + 1, k, none⟩ = some (.string ⟨(fnWords.getD k []).toArray⟩) := by
  rw [World.cell?_alloc_at _ _ _ _ (by simp)]
  have hk : k < fnWords.length := by simp [fnWords]; omega
  simp [List.getD, List.getElem?_eq_getElem hk]

theorem fnText_ascii (j : Nat) (b : UInt8) (h : (⟨fnText.toArray⟩ : ByteArray).data.toList[j]? = some b) : b.toNat < 128 := by
  have hall : ∀ x ∈ fnText, x.toNat < 128 := by decide
  exact hall b (List.mem_of_getElem? (i := j) h)

theorem fnWord_size (k : Nat) : (⟨(fnWords.getD k []).toArray⟩ : ByteArray).size ≤ maxLen := by
  have h : (fnWords.getD k []).length ≤ 5 := by
    by_cases hk : k < fnWords.length
    · have : ∀ l ∈ fnWords, l.length ≤ 5 := by decide
      simp only [List.getD, List.getElem?_eq_getElem hk, Option.getD_some]
      exact this _ (List.getElem_mem hk)
    · simp [List.getD, List.getElem?_eq_none (by omega : fnWords.length ≤ k)]
  unfold maxLen
  have e : (⟨(fnWords.getD k []).toArray⟩ : ByteArray).size = (fnWords.getD k []).length := by show (fnWords.getD k []).toArray.size = _; exact List.size_toArray
  rw [e]; omega

set_option maxRecDepth 100000 in
set_option maxHeartbeats 1000000 in
theorem functions_any (W0 w : World) (ht : Tabs W0 w) :
    Calls Tryz.prog 137 #[] w fun e w' => e = .returned (.map (some w.heap.size)) ∧ w'.ownsMap Tryz.prog 9 (plainElem Tryz.prog 3) w.heap.size 20 (fnMap 20) ∧ Below w.heap.size w w' := by
  have hmm := @run_makeMap Tryz.prog
  have hsp := (ht.alloc (.map #[] 0)).t0.space
  have hFs := Tryz.strings_Fields ⟨fnText.toArray⟩ (w.alloc (.map #[] 0)) (by decide) fnText_ascii hsp
  have hFs' : Calls Tryz.prog 167 #[.string ⟨fnText.toArray⟩] (w.alloc (.map #[] 0)) fun e w' => e = .returned (.slice (some ⟨w.heap.size + 1, 0, none⟩) 20 20) ∧ (w.alloc (.map #[] 0)).alloc (.cells (fnWords.map fun l => Value.string ⟨l.toArray⟩).toArray 9) = w' := by
    refine hFs.mono ?_
    rintro e w' ⟨rfl, rfl⟩
    have e : Lib.fields (⟨fnText.toArray⟩ : ByteArray).data.toList = fnWords := fields_fnText
    rw [e]
    exact ⟨by simp [fnWords], rfl⟩
  have HFs := Lib.hid hFs'
  clear hFs hFs' hsp
  go_enter Tryz.func137, Tryz.ntmps137
  go_wp2_with (go_at_call 167; refine (HFs.out).mono ?_; rintro e w' ⟨rfl, rfl⟩)
  go_loopw [7] (fun i wr => ∃ k : Nat, k ≤ 20 ∧ i = .int .i64 k ∧ wr.ownsMap Tryz.prog 9 (plainElem Tryz.prog 3) w.heap.size k (fnMap k) ∧ Below w.heap.size w wr ∧
      (∀ j, j < 20 → wr.cell? ⟨w.heap.size + 1, j, none⟩ = some (.string ⟨(fnWords.getD j []).toArray⟩)))
    (fun i _ => 20 - (intOf i).toNat)
  case atStart => exact ⟨0, Nat.zero_le _, rfl, (World.ownsMap_made _ _ _ _).alloc _, ((Below.refl _ _).alloc (Nat.le_refl _) _).alloc (by simp) _, fun j hj => fnCells w j hj⟩
  case round =>
    obtain ⟨k, hk, rfl, hown, hnx, hcells⟩ := hrel
    have HC := Lib.hid hcells
    clear hcells
    obtain ⟨s, hs⟩ : ∃ s : ByteArray, s = ⟨(fnWords.getD k []).toArray⟩ := ⟨_, rfl⟩
    have hcx : k < 20 → wr.cell? ⟨w.heap.size + 1, k, none⟩ = some (.string s) := fun h => by rw [hs]; exact HC.out k h
    have hkey : keyOf Tryz.prog 9 (.string s) = some (.string (fnWords.getD k [])) := by rw [hs]; exact key_string (fnWord_size k)
    clear hs
    by_cases hlt : k < 20
    · have hcy := hcx hlt
      clear hcx
      go_wp2_with (at_mapUpdate; refine wpList_mapUpdate_own _ rfl _ _ _ 172 rfl 9 3 keyed_string Tryz.underlying172 _ w.heap.size k _ rfl hown (by unfold maxLen; omega) _ _ _ rfl rfl hkey _ [] (plainElem_int Tryz.underlying3 (WalkArith.wf_i64 (by omega))) ?_)
      intro w1 hown1 hgrow1
      have R1 := (fnMap_step k).symm ▸ hown1
      have R2 := hnx.grown hgrow1 hnx.size (fun j hj => by cases hj; exact Nat.le_refl _)
      have R3 : ∀ j, j < 20 → w1.cell? ⟨w.heap.size + 1, j, none⟩ = some (.string ⟨(fnWords.getD j []).toArray⟩) := fun j hj => hgrow1.cell (HC.out j hj) (by simp)
      have HR := Lib.hid R3
      clear hown1 hgrow1 hown hcy R3
      go_wp2
      go_roundw
      case rel => exact ⟨k + 1, by omega, by go_num, R1, R2, HR.out⟩
      case measure => simp [intOf]; omega
    · obtain rfl : k = 20 := by omega
      clear hcx
      go_wp2
      go_ret
      exact ⟨rfl, hown, hnx⟩

set_option maxHeartbeats 400000 in
theorem Function_any (W0 w : World) (ht : Tabs W0 w) (s : ByteArray) (hs : s.size ≤ maxLen) :
    Calls Tryz.prog 97 #[.string s] w fun e w' => e = .returned (.bool (isFn s.data.toList)) ∧ Below w.heap.size w w' := by
  have hkey := key_string hs
  go_enter Tryz.func97, Tryz.ntmps97
  go_wp2_with fail
  refine (functions_any W0 _ ht).mono ?_
  rintro e w' ⟨rfl, hown, hb⟩
  have HO := Lib.hid hown
  have HK := Lib.hid hkey
  clear hown hkey
  go_wp2_with (at_lookup; refine wpList_lookup_own_ok_int _ rfl _ _ 172 rfl 9 3 .i64 keyed_string Tryz.underlying172 Tryz.underlying3 (zero_int _) w.heap.size 20 (fnMap 20) rfl HO.out _ _ rfl HK.out ?_; intro c _ _; rw [has_fnMap_all])
  go_ret
  exact ⟨rfl, hb⟩
end Go.Proofs.YthmnffgjckpkiaaGreatDoor
