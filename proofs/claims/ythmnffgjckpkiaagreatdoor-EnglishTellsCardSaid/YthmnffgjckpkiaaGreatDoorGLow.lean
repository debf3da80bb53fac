/-
  Contracts of the byte tests and of 'made', 'plain', 'proper' of package words, over the seat's translation.
  What every contract of this seat asks of the world: the library's tables lie as they lay when the law was entered, and nothing that was there then has changed.
  Contracts of 'functions' and 'Function' of package words: the map of the function words; whether a text is one.
  Contracts of 'Article', 'endings' and 'Third' of package words.
  Contracts of 'endings' of package words.
  Contract of 'Third' of package words.
  Contracts of the names of package syntax: 'Function', 'Predicate', and what they call.
  Contracts of 'Function' and 'Predicate' of package syntax, 'proper' and 'Right' of package words.
  Contracts of cmp.Compare at strings and bytes, of cmp.Or at two ints, of 'compare' and 'clash' of package words.
  Contract of the generic 'those' of package words at entries, for any function value that is as a predicate.
  A region that draws its order, whose operations read what was there before it and call functions that keep all that was there:
  one walk in the order of the text serves every order (the kit's quiet walk over the class of the worlds that keep a given one).
  Contract of 'Valid' of package words.
  Contract of 'Look' of package words.
-/
import Derived.Test.YthmnffgjckpkiaaGreatDoorProg
import Derived.WalkKit
import Derived.WalkLawsBesides
import Derived.WalkSpells
import Derived.Lib.Hide
import Derived.Test.YthmnffgjckpkiaaGreatDoorShelf
import Derived.WalkSmall
import Derived.Lib.LaidTab
import Derived.Shelf.Unicode.CaseTo
import Derived.Shelf.Unicode.DecodeSlow
import Derived.Maps.OwnOps
import Derived.Maps.OwnSet
import Derived.Maps.StringElems
import Derived.ProofKit
import Derived.Laws.EntriesVeiled
import Derived.Deep.WholeRow
import Derived.BigQuiet
import Derived.Deep.QuietTactic
import Derived.StillTailTactics
import Derived.Maps.AppendAt
import Derived.Deep.RegionHeld3
import Derived.Deep.AppendLies
namespace Go.Proofs.YthmnffgjckpkiaaGreatDoor
open Go Go.RowKit

/-- A small letter. -/
def smallI (c : Int) : Bool := decide (97 ≤ c ∧ c ≤ 122)
/-- A letter. -/
def letterI (c : Int) : Bool := decide ((97 ≤ c ∧ c ≤ 122) ∨ (65 ≤ c ∧ c ≤ 90))

theorem small_any (c : Int) (w : World) :
    Calls Tryz.prog 103 #[.int .u8 c] w fun e w' => e = .returned (.bool (smallI c)) ∧ w = w' := by
  by_cases h1 : 97 ≤ c <;> by_cases h2 : c ≤ 122
  all_goals
    have hs : smallI c = (decide (97 ≤ c) && decide (c ≤ 122)) := by simp [smallI]
    rw [hs]; clear hs
    go_enter Tryz.func103, Tryz.ntmps103
    go_wp2
    go_ret
    simp [h1, h2]

theorem letter_any (c : Int) (w : World) :
    Calls Tryz.prog 64 #[.int .u8 c] w fun e w' => e = .returned (.bool (letterI c)) ∧ w = w' := by
  have hl : letterI c = (smallI c || (decide (65 ≤ c) && decide (c ≤ 90))) := by simp [letterI, smallI]
  rw [hl]; clear hl
  by_cases h1 : 65 ≤ c <;> by_cases h2 : c ≤ 90
  all_goals
    go_enter Tryz.func64, Tryz.ntmps64
    go_wp2_with (go_at_call 103; refine (small_any _ _).mono ?_; rintro e w' ⟨rfl, rfl⟩)
    all_goals (go_ret; simp_all)


theorem ret_bool {a b : Bool} (h : a = b) : Ending.returned (.bool a) = .returned (.bool b) := by rw [h]
theorem ret_int {k : IntKind} {a b : Int} (h : a = b) : Ending.returned (.int k a) = .returned (.int k b) := by rw [h]
theorem ret_str {a b : ByteArray} (h : a = b) : Ending.returned (.string a) = .returned (.string b) := by rw [h]
/-- Whether all bytes of a text are small letters, or letters. -/
def allSmall (l : List UInt8) : Bool := l.all fun c => smallI c.toNat
def allLetter (l : List UInt8) : Bool := l.all fun c => letterI c.toNat

theorem all_take_succ (p : UInt8 → Bool) (s : ByteArray) (k : Nat) (h : k < s.size) :
    (s.data.toList.take (k + 1)).all p = ((s.data.toList.take k).all p && p s[k]) := by
  rw [List.take_succ_eq_append_getElem (by simpa using h)]
  simp; rfl
theorem all_false_at (p : UInt8 → Bool) (s : ByteArray) (k : Nat) (h : k < s.size) (hp : p s[k] = false) : s.data.toList.all p = false := by
  rw [List.all_eq_false]
  exact ⟨s[k], by simp [ByteArray.getElem_eq_getElem_data], by simp [hp]⟩

set_option maxHeartbeats 400000 in
theorem made_small (s : ByteArray) (w : World) (hs : s.size ≤ 9223372036854775807) :
    Calls Tryz.prog 133 #[.string s, .func (.func 103) #[] #[]] w fun e w' => e = .returned (.bool (allSmall s.data.toList)) ∧ w = w' := by
  go_enter Tryz.func133, Tryz.ntmps133
  go_wp2
  go_loop [5] (fun i => ∃ k : Nat, k ≤ s.size ∧ i = .int .i64 k ∧ allSmall (s.data.toList.take k) = true) (fun i => s.size - (intOf i).toNat)
  case atStart => exact ⟨0, Nat.zero_le _, rfl, by simp [allSmall]⟩
  case round =>
    obtain ⟨k, hk, rfl, ha⟩ := hrel
    have HA := Lib.hid ha
    clear ha
    by_cases hlt : k < s.size
    · go_wp2_with (go_at_call 103; refine (small_any _ _).mono ?_; rintro e w' ⟨rfl, rfl⟩)
      · have hp : (!smallI ↑s[k].toNat) = true := by assumption
        go_ret
        exact ⟨ret_bool (all_false_at (fun c => smallI c.toNat) s k hlt (by simpa using hp)).symm, rfl⟩
      · have hp : (!smallI ↑s[k].toNat) = false := by assumption
        go_round
        case rel => exact ⟨k + 1, by omega, by go_num, by unfold allSmall; rw [all_take_succ _ _ _ hlt]; have := HA.out; unfold allSmall at this; rw [this]; simpa using hp⟩
        case measure => simp [intOf]; omega
    · go_wp2
      go_ret
      exact ⟨ret_bool (by rw [← HA.out, List.take_of_length_le (by simp; omega)]), rfl⟩

set_option maxHeartbeats 400000 in
theorem made_letter (s : ByteArray) (w : World) (hs : s.size ≤ 9223372036854775807) :
    Calls Tryz.prog 133 #[.string s, .func (.func 64) #[] #[]] w fun e w' => e = .returned (.bool (allLetter s.data.toList)) ∧ w = w' := by
  go_enter Tryz.func133, Tryz.ntmps133
  go_wp2
  go_loop [5] (fun i => ∃ k : Nat, k ≤ s.size ∧ i = .int .i64 k ∧ allLetter (s.data.toList.take k) = true) (fun i => s.size - (intOf i).toNat)
  case atStart => exact ⟨0, Nat.zero_le _, rfl, by simp [allLetter]⟩
  case round =>
    obtain ⟨k, hk, rfl, ha⟩ := hrel
    have HA := Lib.hid ha
    clear ha
    by_cases hlt : k < s.size
    · go_wp2_with (go_at_call 64; refine (letter_any _ _).mono ?_; rintro e w' ⟨rfl, rfl⟩)
      · have hp : (!letterI ↑s[k].toNat) = true := by assumption
        go_ret
        exact ⟨ret_bool (all_false_at (fun c => letterI c.toNat) s k hlt (by simpa using hp)).symm, rfl⟩
      · have hp : (!letterI ↑s[k].toNat) = false := by assumption
        go_round
        case rel => exact ⟨k + 1, by omega, by go_num, by unfold allLetter; rw [all_take_succ _ _ _ hlt]; have := HA.out; unfold allLetter at this; rw [this]; simpa using hp⟩
        case measure => simp [intOf]; omega
    · go_wp2
      go_ret
      exact ⟨ret_bool (by rw [← HA.out, List.take_of_length_le (by simp; omega)]), rfl⟩

/-- A plain word, a proper word. -/
def plainS (l : List UInt8) : Bool := decide (1 ≤ l.length ∧ l.length ≤ 16) && allSmall l
def properS (l : List UInt8) : Bool := decide (1 ≤ l.length ∧ l.length ≤ 16) && (letterI (l.headD 0).toNat && (!smallI (l.headD 0).toNat && allSmall l.tail))

theorem plain_any (s : ByteArray) (w : World) (hs : s.size ≤ 9223372036854775807) :
    Calls Tryz.prog 96 #[.string s] w fun e w' => e = .returned (.bool (plainS s.data.toList)) ∧ w = w' := by
  have hp : plainS s.data.toList = (decide (1 ≤ s.size) && (decide (s.size ≤ 16) && allSmall s.data.toList)) := by
    unfold plainS; rw [Bool.decide_and, Bool.and_assoc]; rfl
  rw [hp]; clear hp
  by_cases h1 : 1 ≤ s.size <;> by_cases h2 : s.size ≤ 16
  all_goals
    go_enter Tryz.func96, Tryz.ntmps96
    go_wp2_with (go_at_call 133; refine (made_small _ _ hs).mono ?_; rintro e w' ⟨rfl, rfl⟩)
    all_goals (go_ret; simp [h1, h2])
end Go.Proofs.YthmnffgjckpkiaaGreatDoor
namespace Go.Proofs.YthmnffgjckpkiaaGreatDoor
open Go Go.RowKit

/-- The library's tables in a world. -/
structure Tabs0 (w : World) : Prop where
  maxLen : ∃ m, w.cell? ⟨3, 0, none⟩ = some (.int .i64 m)
  space : Lib.TabIs Tryz.prog w "strings.asciiSpace" .u8 Lib.asciiSpaceTab
  case : Lib.CaseVar 1 Lib.caseA w
  utf8 : Lib.Utf8Tabs 4 5 w

theorem gSpace : Tryz.prog.globalNamed "strings.asciiSpace" = some 0 := by kernel_rfl

theorem _root_.Go.RowKit.Below.drewsN {B : Nat} {a w : World} (h : Below B a w) (n : Nat) : Below B a (w.drewN n) := h.trans ⟨rfl, rfl, rfl, Nat.le_refl _, fun _ _ => rfl⟩
theorem bcell {W w1 : World} (hb : Below W.heap.size W w1) : (∀ b o, b < W.heap.size → w1.cell? ⟨b, o, none⟩ = W.cell? ⟨b, o, none⟩) ∧ (∀ b o, b < W.heap.size → w1.frozen? ⟨b, o, none⟩ = W.frozen? ⟨b, o, none⟩) :=
  ⟨fun b o h => hb.cell (p := ⟨b, o, none⟩) h, fun b o h => hb.frozen (p := ⟨b, o, none⟩) h⟩
theorem cell_lt {w : World} {a : Addr} {v : Value} (h : w.cell? a = some v) : a.block < w.heap.size := World.block_lt_of_cell? w a h
theorem cell_kept' {W w : World} (hb : Below W.heap.size W w) {a : Addr} {v : Value} (h : W.cell? a = some v) : w.cell? a = some v := (hb.cell (cell_lt h)).trans h

theorem caseTab_kept {W w : World} (hb : Below W.heap.size W w) {R oR : Nat} {T : Array Lib.CaseRow} (h : Lib.CaseTab R oR T W) : Lib.CaseTab R oR T w := by
  intro j hj
  obtain ⟨h1, h2, h3, h4, h5⟩ := h j hj
  exact ⟨cell_kept' hb h1, cell_kept' hb h2, cell_kept' hb h3, cell_kept' hb h4, cell_kept' hb h5⟩

/-- The world w: the tables' blocks are as they were in W0, where the tables lay. -/
structure Tabs (W0 w : World) : Prop where
  at0 : Tabs0 W0
  below : Below W0.heap.size W0 w
  some : 0 < W0.heap.size

theorem Tabs.refl {W0 : World} (h : Tabs0 W0) : Tabs W0 W0 := ⟨h, Below.refl _ _, by obtain ⟨m, hm⟩ := h.maxLen; exact Nat.lt_of_le_of_lt (Nat.zero_le _) (cell_lt hm)⟩
theorem Tabs.size {W0 w : World} (h : Tabs W0 w) : W0.heap.size ≤ w.heap.size := h.below.size
/-- What keeps all that is there keeps the tables. -/
theorem Tabs.next {W0 w w' : World} (h : Tabs W0 w) (hb : Below w.heap.size w w') : Tabs W0 w' := ⟨h.at0, h.below.trans (hb.mono h.size), h.some⟩
theorem Tabs.from {W0 w w' : World} (h : Tabs W0 w) (hb : Below W0.heap.size w w') : Tabs W0 w' := ⟨h.at0, h.below.trans hb, h.some⟩
theorem Tabs.alloc {W0 w : World} (h : Tabs W0 w) (o : Obj) : Tabs W0 (w.alloc o) := h.from ((Below.refl _ _).alloc h.size _)
theorem Tabs.drew {W0 w : World} (h : Tabs W0 w) : Tabs W0 w.drew := h.from (Below.refl _ _).drew
theorem Tabs.drewN {W0 w : World} (h : Tabs W0 w) (n : Nat) : Tabs W0 (w.drewN n) := h.from ⟨rfl, rfl, rfl, Nat.le_refl _, fun _ _ => rfl⟩
theorem Tabs.setCell {W0 w : World} (h : Tabs W0 w) {a : Addr} (ha : W0.heap.size ≤ a.block) (v : Value) : Tabs W0 (w.setCell a v) := h.from ((Below.refl _ _).setCell ha _)
theorem Tabs.t0 {W0 w : World} (h : Tabs W0 w) : Tabs0 w := by
  obtain ⟨m, hm⟩ := h.at0.maxLen
  refine ⟨⟨m, cell_kept' h.below hm⟩, ?_, ?_, Utf8Tabs_below h.at0.utf8 h.below⟩
  · have hs := h.at0.space
    refine var?_below h.below gSpace ?_ hs
    have := hs
    unfold Lib.TabIs World.var? at this
    rw [gSpace] at this
    simp only [Option.bind_some] at this
    exact Nat.lt_of_not_le fun hle => by rw [Array.getElem?_eq_none hle] at this; cases this
  · obtain ⟨R, oR, cap, hv, ht⟩ := h.at0.case
    exact ⟨R, oR, cap, cell_kept' h.below hv, caseTab_kept h.below ht⟩
end Go.Proofs.YthmnffgjckpkiaaGreatDoor
namespace Go.Proofs.YthmnffgjckpkiaaGreatDoor
open Go Go.RowKit Go.Maps Go.WideMaps

/-- The text that lists the function words, and the words. -/
def fnText : List UInt8 := [97, 32, 97, 110, 32, 97, 110, 100, 32, 100, 111, 101, 115, 32, 101, 97, 99, 104, 32, 101, 118, 101, 114, 121, 32, 104, 101, 32, 105, 102, 32, 105, 102, 102, 32, 105, 115, 32, 105, 116, 32, 110, 111, 32, 110, 111, 116, 32, 111, 114, 32, 115, 104, 101, 32, 115, 111, 109, 101, 32, 116, 104, 97, 116, 32, 116, 104, 101, 32, 116, 104, 101, 110, 32, 119, 104, 111]
def fnWords : List (List UInt8) := [[97], [97, 110], [97, 110, 100], [100, 111, 101, 115], [101, 97, 99, 104], [101, 118, 101, 114, 121], [104, 101], [105, 102], [105, 102, 102], [105, 115], [105, 116], [110, 111], [110, 111, 116], [111, 114], [115, 104, 101], [115, 111, 109, 101], [116, 104, 97, 116], [116, 104, 101], [116, 104, 101, 110], [119, 104, 111]]
theorem fields_fnText : Lib.fields fnText = fnWords := by decide +kernel
/-- Whether a text is a function word. -/
def isFn (l : List UInt8) : Bool := fnWords.contains l

/-- The map behind k rounds. -/
def fnMap (k : Nat) : DataW Unit := (List.range k).foldl (fun m i => m.put (.string (fnWords.getD i [])) (.lit (.int .i64 i))) (.map [])
theorem fnMap_step (k : Nat) : fnMap (k + 1) = (fnMap k).put (.string (fnWords.getD k [])) (.lit (.int .i64 k)) := by
  simp [fnMap, List.range_succ, List.foldl_append]
theorem fnMap_isMap : ∀ k, IsMap (fnMap k)
  | 0 => isMap_empty
  | k + 1 => by rw [fnMap_step]; exact (fnMap_isMap k).put _ _
theorem has_fnMap (l : List UInt8) : ∀ k, k ≤ 20 → Maps.has (fnMap k) (.string l) = (fnWords.take k).contains l
  | 0, _ => by simp [fnMap, Maps.has]
  | k + 1, h => by
    have hk : k < fnWords.length := by simp [fnWords]; omega
    rw [fnMap_step, List.take_succ_eq_append_getElem hk]
    have hg : fnWords.getD k [] = fnWords[k] := by simp [List.getD, List.getElem?_eq_getElem hk]
    rw [hg]; clear hg
    by_cases e : l = fnWords[k]
    · rw [e, has_put_same (fnMap_isMap k) (by simp [WideAt.IsKeyLit]), List.contains_append]; simp
    · rw [has_put_other (by intro e'; exact e (by injection e')), has_fnMap l k (by omega)]
      rw [List.contains_append]; simp [e]
theorem has_fnMap_all (l : List UInt8) : Maps.has (fnMap 20) (.string l) = isFn l := by
  rw [has_fnMap l 20 (Nat.le_refl _)]; rfl

theorem keyed_string : Keyed Tryz.prog 9 := string_keyed Tryz.underlying9
theorem zero_int (w : World) : (zeroValue 3).run Tryz.prog w = .ok (.int .i64 0) w := by kernel_rfl
theorem key_string {s : ByteArray} (hs : s.size ≤ maxLen) : keyOf Tryz.prog 9 (.string s) = some (.string s.data.toList) := keyOf_string_mk Tryz.underlying9 hs

theorem fnCells (w : World) (k : Nat) (h : k < 20) :
    ((w.alloc (.map #[] 0)).alloc (.cells (fnWords.map fun l => Value.string ⟨l.toArray⟩).toArray 9)).cell? ⟨w.heap.size + 1, k, none⟩ = some (.string ⟨(fnWords.getD k []).toArray⟩) := by
  rw [World.cell?_alloc_at _ _ _ _ (by simp)]
  have hk : k < fnWords.length := by simp [fnWords]; omega
  simp [List.getD, List.getElem?_eq_getElem hk]

theorem fnText_ascii (j : Nat) (b : UInt8) (h : (⟨fnText.toArray⟩ : ByteArray).data.toList[j]? = some b) : b.toNat < 128 := by
  have hall : ∀ x ∈ fnText, x.toNat < 128 := by decide
  exact hall b (List.mem_of_getElem? (i := j) h)

theorem fnWord_size (k : Nat) : (⟨(fnWords.getD k []).toArray⟩ : ByteArray).size ≤ maxLen := by
  have h : (fnWords.getD k []).length ≤ 5 := by
    by_cases hk : k < fnWords.length
    · have : ∀ l ∈ fnWords, l.length ≤ 5 := by decide
      simp only [List.getD, List.getElem?_eq_getElem hk, Option.getD_some]
      exact this _ (List.getElem_mem hk)
    · simp [List.getD, List.getElem?_eq_none (by omega : fnWords.length ≤ k)]
  unfold maxLen
  have e : (⟨(fnWords.getD k []).toArray⟩ : ByteArray).size = (fnWords.getD k []).length := by show (fnWords.getD k []).toArray.size = _; exact List.size_toArray
  rw [e]; omega

set_option maxRecDepth 100000 in
set_option maxHeartbeats 1000000 in
theorem functions_any (W0 w : World) (ht : Tabs W0 w) :
    Calls Tryz.prog 137 #[] w fun e w' => e = .returned (.map (some w.heap.size)) ∧ w'.ownsMap Tryz.prog 9 (plainElem Tryz.prog 3) w.heap.size 20 (fnMap 20) ∧ Below w.heap.size w w' := by
  have hmm := @run_makeMap Tryz.prog
  have hsp := (ht.alloc (.map #[] 0)).t0.space
  have hFs := Tryz.strings_Fields ⟨fnText.toArray⟩ (w.alloc (.map #[] 0)) (by decide) fnText_ascii hsp
  have hFs' : Calls Tryz.prog 167 #[.string ⟨fnText.toArray⟩] (w.alloc (.map #[] 0)) fun e w' => e = .returned (.slice (some ⟨w.heap.size + 1, 0, none⟩) 20 20) ∧ (w.alloc (.map #[] 0)).alloc (.cells (fnWords.map fun l => Value.string ⟨l.toArray⟩).toArray 9) = w' := by
    refine hFs.mono ?_
    rintro e w' ⟨rfl, rfl⟩
    have e : Lib.fields (⟨fnText.toArray⟩ : ByteArray).data.toList = fnWords := fields_fnText
    rw [e]
    exact ⟨by simp [fnWords], rfl⟩
  have HFs := Lib.hid hFs'
  clear hFs hFs' hsp
  go_enter Tryz.func137, Tryz.ntmps137
  go_wp2_with (go_at_call 167; refine (HFs.out).mono ?_; rintro e w' ⟨rfl, rfl⟩)
  go_loopw [7] (fun i wr => ∃ k : Nat, k ≤ 20 ∧ i = .int .i64 k ∧ wr.ownsMap Tryz.prog 9 (plainElem Tryz.prog 3) w.heap.size k (fnMap k) ∧ Below w.heap.size w wr ∧
      (∀ j, j < 20 → wr.cell? ⟨w.heap.size + 1, j, none⟩ = some (.string ⟨(fnWords.getD j []).toArray⟩)))
    (fun i _ => 20 - (intOf i).toNat)
  case atStart => exact ⟨0, Nat.zero_le _, rfl, (World.ownsMap_made _ _ _ _).alloc _, ((Below.refl _ _).alloc (Nat.le_refl _) _).alloc (by simp) _, fun j hj => fnCells w j hj⟩
  case round =>
    obtain ⟨k, hk, rfl, hown, hnx, hcells⟩ := hrel
    have HC := Lib.hid hcells
    clear hcells
    obtain ⟨s, hs⟩ : ∃ s : ByteArray, s = ⟨(fnWords.getD k []).toArray⟩ := ⟨_, rfl⟩
    have hcx : k < 20 → wr.cell? ⟨w.heap.size + 1, k, none⟩ = some (.string s) := fun h => by rw [hs]; exact HC.out k h
    have hkey : keyOf Tryz.prog 9 (.string s) = some (.string (fnWords.getD k [])) := by rw [hs]; exact key_string (fnWord_size k)
    clear hs
    by_cases hlt : k < 20
    · have hcy := hcx hlt
      clear hcx
      go_wp2_with (at_mapUpdate; refine wpList_mapUpdate_own _ rfl _ _ _ 172 rfl 9 3 keyed_string Tryz.underlying172 _ w.heap.size k _ rfl hown (by unfold maxLen; omega) _ _ _ rfl rfl hkey _ [] (plainElem_int Tryz.underlying3 (WalkArith.wf_i64 (by omega))) ?_)
      intro w1 hown1 hgrow1
      have R1 := (fnMap_step k).symm ▸ hown1
      have R2 := hnx.grown hgrow1 hnx.size (fun j hj => by cases hj; exact Nat.le_refl _)
      have R3 : ∀ j, j < 20 → w1.cell? ⟨w.heap.size + 1, j, none⟩ = some (.string ⟨(fnWords.getD j []).toArray⟩) := fun j hj => hgrow1.cell (HC.out j hj) (by simp)
      have HR := Lib.hid R3
      clear hown1 hgrow1 hown hcy R3
      go_wp2
      go_roundw
      case rel => exact ⟨k + 1, by omega, by go_num, R1, R2, HR.out⟩
      case measure => simp [intOf]; omega
    · obtain rfl : k = 20 := by omega
      clear hcx
      go_wp2
      go_ret
      exact ⟨rfl, hown, hnx⟩

set_option maxHeartbeats 400000 in
theorem Function_any (W0 w : World) (ht : Tabs W0 w) (s : ByteArray) (hs : s.size ≤ maxLen) :
    Calls Tryz.prog 97 #[.string s] w fun e w' => e = .returned (.bool (isFn s.data.toList)) ∧ Below w.heap.size w w' := by
  have hkey := key_string hs
  go_enter Tryz.func97, Tryz.ntmps97
  go_wp2_with fail
  refine (functions_any W0 _ ht).mono ?_
  rintro e w' ⟨rfl, hown, hb⟩
  have HO := Lib.hid hown
  have HK := Lib.hid hkey
  clear hown hkey
  go_wp2_with (at_lookup; refine wpList_lookup_own_ok_int _ rfl _ _ 172 rfl 9 3 .i64 keyed_string Tryz.underlying172 Tryz.underlying3 (zero_int _) w.heap.size 20 (fnMap 20) rfl HO.out _ _ rfl HK.out ?_; intro c _ _; rw [has_fnMap_all])
  go_ret
  exact ⟨rfl, hb⟩
end Go.Proofs.YthmnffgjckpkiaaGreatDoor
namespace Go.Proofs.YthmnffgjckpkiaaGreatDoor
open Go Go.RowKit

def aeiou : List UInt8 := [97, 101, 105, 111, 117]
/-- What strings.Contains says of the five letters and a text. -/
def inVowels (l : List UInt8) : Bool := Lib.contains aeiou l

theorem inVowels_call (W0 w : World) (ht : Tabs W0 w) (sub : ByteArray) :
    Calls Tryz.prog 162 #[.string ⟨#[97, 101, 105, 111, 117]⟩, .string sub] w fun e w' => e = .returned (.bool (inVowels sub.data.toList)) ∧ w = w' := by
  obtain ⟨m, hm⟩ := ht.t0.maxLen
  refine (Tryz.strings_Contains ⟨#[97, 101, 105, 111, 117]⟩ sub m w (by decide) hm).mono ?_
  rintro e w' ⟨rfl, rfl⟩
  exact ⟨rfl, rfl⟩

/-- The empty text, as the walk asks for it. -/
theorem data_empty {s : ByteArray} (h : s.size = 0) : s.data.toList = [] := by
  have : s.data.toList.length = 0 := by simpa using h
  exact List.eq_nil_of_length_eq_zero this
theorem str_empty {s : ByteArray} (h : s.size = 0) : s.toList = [] := by rw [ByteArray.toList_eq]; exact data_empty h
theorem data_some {s : ByteArray} (h : 0 < s.size) : s.data.toList.isEmpty = false := by
  have : 0 < s.data.toList.length := by simpa using h
  cases hs : s.data.toList with
  | nil => rw [hs] at this; simp at this
  | cons a b => rfl
theorem str_some {s : ByteArray} (h : 0 < s.size) : s.toList.isEmpty = false := by rw [ByteArray.toList_eq]; exact data_some h

def articleS (l : List UInt8) : List UInt8 := if !l.isEmpty && inVowels (l.take 1) then [97, 110] else [97]

theorem Article_any (W0 w : World) (ht : Tabs W0 w) (s : ByteArray) :
    Calls Tryz.prog 132 #[.string s] w fun e w' => e = .returned (.string ⟨(articleS s.data.toList).toArray⟩) ∧ w = w' := by
  by_cases h : s.size = 0
  · have h1 := str_empty h
    have h2 : s.toList.isEmpty = true := by rw [h1]; rfl
    go_enter Tryz.func132, Tryz.ntmps132
    go_wp2
    go_ret
    exact ⟨ret_str (by rw [data_empty h]; rfl), rfl⟩
  · have h1 := str_some (Nat.pos_of_ne_zero h)
    have h3 := data_some (Nat.pos_of_ne_zero h)
    go_enter Tryz.func132, Tryz.ntmps132
    go_wp2_with (go_at_call 162; refine (inVowels_call W0 _ ht _).mono ?_; rintro e w' ⟨rfl, rfl⟩)
    · have hv : inVowels (List.take 1 s.data.toList) = true := by assumption
      go_ret
      exact ⟨ret_str (by unfold articleS; rw [h3, hv]; rfl), rfl⟩
    · have hv : inVowels (List.take 1 s.data.toList) = false := by assumption
      go_ret
      exact ⟨ret_str (by unfold articleS; rw [h3, hv]; rfl), rfl⟩

/-- Whether what stands ahead of 'o' or 'y' is a letter other than the five. -/
def hardS (l : List UInt8) : Bool := !l.isEmpty && !inVowels (l.drop (l.length - 1))

theorem always_any (w : World) (s : ByteArray) :
    Calls Tryz.prog 176 #[.string s] w fun e w' => e = .returned (.bool true) ∧ w = w' := by
  go_enter Tryz.func176, Tryz.ntmps176
  go_wp2
  go_ret
  exact ⟨rfl, rfl⟩

theorem hard_any (W0 w : World) (ht : Tabs W0 w) (s : ByteArray) (hs : s.size ≤ 9223372036854775807) :
    Calls Tryz.prog 177 #[.string s] w fun e w' => e = .returned (.bool (hardS s.data.toList)) ∧ w = w' := by
  by_cases h : s.size = 0
  · have h1 := str_empty h
    have h2 : s.toList.isEmpty = true := by rw [h1]; rfl
    go_enter Tryz.func177, Tryz.ntmps177
    go_wp2
    go_ret
    exact ⟨ret_bool (by rw [data_empty h]; rfl), rfl⟩
  · have h1 := str_some (Nat.pos_of_ne_zero h)
    have h3 := data_some (Nat.pos_of_ne_zero h)
    have h4 : 1 ≤ s.size := Nat.pos_of_ne_zero h
    go_enter Tryz.func177, Tryz.ntmps177
    go_wp2_with (go_at_call 162; refine (inVowels_call W0 _ ht _).mono ?_; rintro e w' ⟨rfl, rfl⟩)
    go_ret
    refine ⟨ret_bool ?_, rfl⟩
    have e : List.take (s.size - (s.size - 1)) (List.drop (s.size - 1) s.data.toList) = List.drop (s.size - 1) s.data.toList := List.take_of_length_le (by simp)
    simp [hardS, h3, e]

end Go.Proofs.YthmnffgjckpkiaaGreatDoor
namespace Go.Proofs.YthmnffgjckpkiaaGreatDoor
open Go Go.RowKit

/-- The eight endings: the end, whether a hard letter is asked for, how many letters go, what comes. -/
def endV (e : List UInt8) (f : Nat) (cut : Int) (add : List UInt8) : List Value := [.string ⟨e.toArray⟩, .func (.func f) #[] #[], .int .i64 cut, .string ⟨add.toArray⟩]
def endingsV : Value := .agg (
  endV [115] 176 0 [101, 115] ++ endV [120] 176 0 [101, 115] ++ endV [122] 176 0 [101, 115] ++
  endV [99, 104] 176 0 [101, 115] ++ endV [115, 104] 176 0 [101, 115] ++
  endV [111] 177 0 [101, 115] ++ endV [121] 177 1 [105, 101, 115] ++ endV [] 176 0 [115]).toArray

theorem info_endings : (Tryz.prog.info? 194).map (·.size) = some 32 := by kernel_rfl
set_option maxRecDepth 100000 in
theorem endings_any (w : World) :
    Calls Tryz.prog 153 #[] w fun e w' => e = .returned endingsV ∧ Below w.heap.size w w' := by
  have hi := info_endings
  go_enter Tryz.func153, Tryz.ntmps153
  go_wp2_with (refine wpList_store_row rfl 194 (.tmp 0) (.tmp 19) rfl w.heap.size _ rfl rfl 194 _ (heap_alloc_new w _) hi ?h1 ?h2 ?_)
  case h1 => rfl
  case h2 => simp [Value.oneCell']
  rw [World.setRow_alloc_new]
  go_wp2
  refine bodyPost_ret (v := endingsV) (results_cell_row rfl _ _ w.heap.size 194 _ (0, 0) _ rfl (heap_alloc_new _ _) Tryz.underlying194 rfl hi) rfl ⟨rfl, ?_⟩
  exact (Below.refl _ _).alloc (Nat.le_refl _) _
end Go.Proofs.YthmnffgjckpkiaaGreatDoor
namespace Go.Proofs.YthmnffgjckpkiaaGreatDoor
open Go Go.RowKit

/-- The endings: the end, whether a hard letter is asked for ahead of it, how many letters go, what comes. -/
def endsS : List (List UInt8 × Bool × Nat × List UInt8) :=
  [([115], false, 0, [101, 115]), ([120], false, 0, [101, 115]), ([122], false, 0, [101, 115]), ([99, 104], false, 0, [101, 115]), ([115, 104], false, 0, [101, 115]),
   ([111], true, 0, [101, 115]), ([121], true, 1, [105, 101, 115]), ([], false, 0, [115])]
def fitsS (l : List UInt8) (e : List UInt8 × Bool × Nat × List UInt8) : Bool := Lib.hasSuffix l e.1 && (!e.2.1 || hardS (Lib.trimSuffix l e.1))
def putS (l : List UInt8) (e : List UInt8 × Bool × Nat × List UInt8) : List UInt8 := l.take (l.length - e.2.2.1) ++ e.2.2.2
def thirdS (l : List UInt8) : List UInt8 := match endsS.find? (fitsS l) with | some e => putS l e | none => []

theorem find_at (l : List UInt8) (k : Nat) (hk : k < endsS.length) (hno : ∀ j, j < k → fitsS l (endsS.getD j ([], false, 0, [])) = false) (hy : fitsS l endsS[k] = true) :
    thirdS l = putS l endsS[k] := by
  have : endsS.find? (fitsS l) = some endsS[k] := by
    rw [List.find?_eq_some_iff_getElem]
    refine ⟨hy, k, hk, rfl, fun j hj => ?_⟩
    have := hno j hj
    simp only [List.getD, List.getElem?_eq_getElem (Nat.lt_trans hj hk), Option.getD_some] at this
    simp [this]
  simp [thirdS, this]

theorem Third_bad (w : World) (s : ByteArray) (hs : s.size ≤ 9223372036854775807) (hp : plainS s.data.toList = false) :
    Calls Tryz.prog 114 #[.string s] w fun e w' => e = .returned (.tuple #[.string ⟨#[]⟩, .int .i64 2]) ∧ w = w' := by
  go_enter Tryz.func114, Tryz.ntmps114
  go_wp2_with (go_at_call 96; refine (plain_any _ _ hs).mono ?_; rintro e w' ⟨rfl, rfl⟩)
  go_ret2
  exact ⟨rfl, rfl⟩

theorem take_all (s : ByteArray) : List.take s.size s.data.toList = s.data.toList := List.take_of_length_le (by simp)
theorem cat_str (s : ByteArray) (l : List UInt8) : s ++ ⟨l.toArray⟩ = ⟨(s.data.toList ++ l).toArray⟩ := by
  apply ByteArray.ext
  simp [ByteArray.data_append]
theorem cut_str (s : ByteArray) (n : Nat) (l : List UInt8) : s.extract 0 n ++ ⟨l.toArray⟩ = ⟨(s.data.toList.take n ++ l).toArray⟩ := by
  rw [cat_str]
  congr 3
  simp

theorem no_more {l : List UInt8} {k : Nat} (h : ∀ j, j < k → fitsS l (endsS.getD j ([], false, 0, [])) = false) (h1 : fitsS l (endsS.getD k ([], false, 0, [])) = false) :
    ∀ j, j < k + 1 → fitsS l (endsS.getD j ([], false, 0, [])) = false := fun j hj => by
  rcases Nat.lt_succ_iff_lt_or_eq.1 hj with h' | rfl
  · exact h j h'
  · exact h1
theorem trim_size (s : ByteArray) (e : List UInt8) (h : s.size ≤ 16) : (⟨(Lib.trimSuffix s.data.toList e).toArray⟩ : ByteArray).size ≤ 9223372036854775807 := by
  have e1 : (⟨(Lib.trimSuffix s.data.toList e).toArray⟩ : ByteArray).size = (Lib.trimSuffix s.data.toList e).length := by show Array.size _ = _; exact List.size_toArray
  rw [e1]
  have : (Lib.trimSuffix s.data.toList e).length ≤ s.data.toList.length := by
    unfold Lib.trimSuffix; split
    · simp
    · exact Nat.le_refl _
  have h2 : s.data.toList.length = s.size := by simp
  omega

set_option maxHeartbeats 4000000 in
theorem Third_good (W0 w : World) (ht : Tabs W0 w) (s : ByteArray) (hp : plainS s.data.toList = true) (h1 : 1 ≤ s.size) (h16 : s.size ≤ 16) :
    Calls Tryz.prog 114 #[.string s] w fun e w' => e = .returned (.tuple #[.string ⟨(thirdS s.data.toList).toArray⟩, .int .i64 0]) ∧ Below w.heap.size w w' := by
  have hs : s.size ≤ 9223372036854775807 := by omega
  go_enter Tryz.func114, Tryz.ntmps114
  go_wp2_with (first
    | (go_at_call 96; refine (plain_any _ _ hs).mono ?_; rintro e w' ⟨rfl, rfl⟩)
    | (go_at_call 153; refine (endings_any _).mono ?_; rintro e w' ⟨rfl, hb0⟩))
  clear hp
  go_loopw [12] (fun i wr => ∃ k : Nat, k ≤ 8 ∧ i = .int .i64 k ∧ (∀ j, j < k → fitsS s.data.toList (endsS.getD j ([], false, 0, [])) = false) ∧ Below w.heap.size w wr) (fun i _ => 8 - (intOf i).toNat)
  case atStart => exact ⟨0, Nat.zero_le _, rfl, fun j hj => absurd hj (Nat.not_lt_zero j), hb0⟩
  case round =>
    obtain ⟨k, hk, rfl, hno, hb⟩ := hrel
    have HN := Lib.hid hno
    have htr := ht.next hb
    clear hno hb0
    have hk8 : k = 0 ∨ k = 1 ∨ k = 2 ∨ k = 3 ∨ k = 4 ∨ k = 5 ∨ k = 6 ∨ k = 7 ∨ k = 8 := by omega
    rcases hk8 with rfl | rfl | rfl | rfl | rfl | rfl | rfl | rfl | rfl
    · have hi0 : ∀ w, (Instr.index 194 endingsV (.int .i64 0)).run Tryz.prog w = .ok (.agg (endV [115] 176 0 [101, 115]).toArray) w := fun w => by kernel_rfl
      have hadd : ∀ w, (Op.stringOp .add s ⟨#[101, 115]⟩).run Tryz.prog w = .ok (.string (s ++ ⟨#[101, 115]⟩)) w := fun w => run_string_add w _ _ (by omega) (by decide)
      simp only [endV] at hi0
      go_wp2_with (first
        | (go_at_call 154; refine (Tryz.strings_CutSuffix _ _ _ hs).mono ?_; rintro e w' ⟨rfl, rfl⟩)
        | (go_at_call 176; refine (always_any _ _).mono ?_; rintro e w' ⟨rfl, rfl⟩))
      · have hf : Lib.hasSuffix s.data.toList [115] = true := by assumption
        have e1 : IntKind.i64.wrap (↑s.size) = (s.size : Int) := IntWalk.i64_in _ (by omega)
        go_quiet (fail)
        go_wp2
        go_ret2
        have hfit : fitsS s.data.toList (endsS[0]'(by decide)) = true := by simp [fitsS, endsS, hf]
        refine ⟨?_, (hb.alloc hb.size _).drewsN _⟩
        rw [find_at s.data.toList 0 (by decide) HN.out hfit, cat_str]
        simp [putS, endsS, take_all]
      · have hf : ¬ Lib.hasSuffix s.data.toList [115] = true := by assumption
        go_roundw
        case rel => exact ⟨1, by omega, rfl, no_more HN.out (by simp [fitsS, endsS, hf]), hb.alloc hb.size _⟩
        case measure => simp [intOf]
    · have hi0 : ∀ w, (Instr.index 194 endingsV (.int .i64 1)).run Tryz.prog w = .ok (.agg (endV [120] 176 0 [101, 115]).toArray) w := fun w => by kernel_rfl
      have hadd : ∀ w, (Op.stringOp .add s ⟨#[101, 115]⟩).run Tryz.prog w = .ok (.string (s ++ ⟨#[101, 115]⟩)) w := fun w => run_string_add w _ _ (by omega) (by decide)
      simp only [endV] at hi0
      go_wp2_with (first
        | (go_at_call 154; refine (Tryz.strings_CutSuffix _ _ _ hs).mono ?_; rintro e w' ⟨rfl, rfl⟩)
        | (go_at_call 176; refine (always_any _ _).mono ?_; rintro e w' ⟨rfl, rfl⟩))
      · have hf : Lib.hasSuffix s.data.toList [120] = true := by assumption
        have e1 : IntKind.i64.wrap (↑s.size) = (s.size : Int) := IntWalk.i64_in _ (by omega)
        go_quiet (fail)
        go_wp2
        go_ret2
        have hfit : fitsS s.data.toList (endsS[1]'(by decide)) = true := by simp [fitsS, endsS, hf]
        refine ⟨?_, (hb.alloc hb.size _).drewsN _⟩
        rw [find_at s.data.toList 1 (by decide) HN.out hfit, cat_str]
        simp [putS, endsS, take_all]
      · have hf : ¬ Lib.hasSuffix s.data.toList [120] = true := by assumption
        go_roundw
        case rel => exact ⟨2, by omega, rfl, no_more HN.out (by simp [fitsS, endsS, hf]), hb.alloc hb.size _⟩
        case measure => simp [intOf]
    · have hi0 : ∀ w, (Instr.index 194 endingsV (.int .i64 2)).run Tryz.prog w = .ok (.agg (endV [122] 176 0 [101, 115]).toArray) w := fun w => by kernel_rfl
      have hadd : ∀ w, (Op.stringOp .add s ⟨#[101, 115]⟩).run Tryz.prog w = .ok (.string (s ++ ⟨#[101, 115]⟩)) w := fun w => run_string_add w _ _ (by omega) (by decide)
      simp only [endV] at hi0
      go_wp2_with (first
        | (go_at_call 154; refine (Tryz.strings_CutSuffix _ _ _ hs).mono ?_; rintro e w' ⟨rfl, rfl⟩)
        | (go_at_call 176; refine (always_any _ _).mono ?_; rintro e w' ⟨rfl, rfl⟩))
      · have hf : Lib.hasSuffix s.data.toList [122] = true := by assumption
        have e1 : IntKind.i64.wrap (↑s.size) = (s.size : Int) := IntWalk.i64_in _ (by omega)
        go_quiet (fail)
        go_wp2
        go_ret2
        have hfit : fitsS s.data.toList (endsS[2]'(by decide)) = true := by simp [fitsS, endsS, hf]
        refine ⟨?_, (hb.alloc hb.size _).drewsN _⟩
        rw [find_at s.data.toList 2 (by decide) HN.out hfit, cat_str]
        simp [putS, endsS, take_all]
      · have hf : ¬ Lib.hasSuffix s.data.toList [122] = true := by assumption
        go_roundw
        case rel => exact ⟨3, by omega, rfl, no_more HN.out (by simp [fitsS, endsS, hf]), hb.alloc hb.size _⟩
        case measure => simp [intOf]
    · have hi0 : ∀ w, (Instr.index 194 endingsV (.int .i64 3)).run Tryz.prog w = .ok (.agg (endV [99, 104] 176 0 [101, 115]).toArray) w := fun w => by kernel_rfl
      have hadd : ∀ w, (Op.stringOp .add s ⟨#[101, 115]⟩).run Tryz.prog w = .ok (.string (s ++ ⟨#[101, 115]⟩)) w := fun w => run_string_add w _ _ (by omega) (by decide)
      simp only [endV] at hi0
      go_wp2_with (first
        | (go_at_call 154; refine (Tryz.strings_CutSuffix _ _ _ hs).mono ?_; rintro e w' ⟨rfl, rfl⟩)
        | (go_at_call 176; refine (always_any _ _).mono ?_; rintro e w' ⟨rfl, rfl⟩))
      · have hf : Lib.hasSuffix s.data.toList [99, 104] = true := by assumption
        have e1 : IntKind.i64.wrap (↑s.size) = (s.size : Int) := IntWalk.i64_in _ (by omega)
        go_quiet (fail)
        go_wp2
        go_ret2
        have hfit : fitsS s.data.toList (endsS[3]'(by decide)) = true := by simp [fitsS, endsS, hf]
        refine ⟨?_, (hb.alloc hb.size _).drewsN _⟩
        rw [find_at s.data.toList 3 (by decide) HN.out hfit, cat_str]
        simp [putS, endsS, take_all]
      · have hf : ¬ Lib.hasSuffix s.data.toList [99, 104] = true := by assumption
        go_roundw
        case rel => exact ⟨4, by omega, rfl, no_more HN.out (by simp [fitsS, endsS, hf]), hb.alloc hb.size _⟩
        case measure => simp [intOf]
    · have hi0 : ∀ w, (Instr.index 194 endingsV (.int .i64 4)).run Tryz.prog w = .ok (.agg (endV [115, 104] 176 0 [101, 115]).toArray) w := fun w => by kernel_rfl
      have hadd : ∀ w, (Op.stringOp .add s ⟨#[101, 115]⟩).run Tryz.prog w = .ok (.string (s ++ ⟨#[101, 115]⟩)) w := fun w => run_string_add w _ _ (by omega) (by decide)
      simp only [endV] at hi0
      go_wp2_with (first
        | (go_at_call 154; refine (Tryz.strings_CutSuffix _ _ _ hs).mono ?_; rintro e w' ⟨rfl, rfl⟩)
        | (go_at_call 176; refine (always_any _ _).mono ?_; rintro e w' ⟨rfl, rfl⟩))
      · have hf : Lib.hasSuffix s.data.toList [115, 104] = true := by assumption
        have e1 : IntKind.i64.wrap (↑s.size) = (s.size : Int) := IntWalk.i64_in _ (by omega)
        go_quiet (fail)
        go_wp2
        go_ret2
        have hfit : fitsS s.data.toList (endsS[4]'(by decide)) = true := by simp [fitsS, endsS, hf]
        refine ⟨?_, (hb.alloc hb.size _).drewsN _⟩
        rw [find_at s.data.toList 4 (by decide) HN.out hfit, cat_str]
        simp [putS, endsS, take_all]
      · have hf : ¬ Lib.hasSuffix s.data.toList [115, 104] = true := by assumption
        go_roundw
        case rel => exact ⟨5, by omega, rfl, no_more HN.out (by simp [fitsS, endsS, hf]), hb.alloc hb.size _⟩
        case measure => simp [intOf]
    · have hi0 : ∀ w, (Instr.index 194 endingsV (.int .i64 5)).run Tryz.prog w = .ok (.agg (endV [111] 177 0 [101, 115]).toArray) w := fun w => by kernel_rfl
      have hadd : ∀ w, (Op.stringOp .add s ⟨#[101, 115]⟩).run Tryz.prog w = .ok (.string (s ++ ⟨#[101, 115]⟩)) w := fun w => run_string_add w _ _ (by omega) (by decide)
      simp only [endV] at hi0
      go_wp2_with (first
        | (go_at_call 154; refine (Tryz.strings_CutSuffix _ _ _ hs).mono ?_; rintro e w' ⟨rfl, rfl⟩)
        | (go_at_call 177; refine (hard_any W0 _ (htr.alloc _) _ (trim_size _ _ h16)).mono ?_; rintro e w' ⟨rfl, rfl⟩))
      · have hf : Lib.hasSuffix s.data.toList [111] = true := by assumption
        have hh : hardS (Lib.trimSuffix s.data.toList [111]) = true := by assumption
        have e1 : IntKind.i64.wrap (↑s.size) = (s.size : Int) := IntWalk.i64_in _ (by omega)
        go_quiet (fail)
        go_wp2
        go_ret2
        have hfit : fitsS s.data.toList (endsS[5]'(by decide)) = true := by simp [fitsS, endsS, hf, hh]
        refine ⟨?_, (hb.alloc hb.size _).drewsN _⟩
        rw [find_at s.data.toList 5 (by decide) HN.out hfit, cat_str]
        simp [putS, endsS, take_all]
      · have hf : Lib.hasSuffix s.data.toList [111] = true := by assumption
        have hh : hardS (Lib.trimSuffix s.data.toList [111]) = false := by assumption
        go_roundw
        case rel => exact ⟨6, by omega, rfl, no_more HN.out (by simp [fitsS, endsS, hf, hh]), hb.alloc hb.size _⟩
        case measure => simp [intOf]
      · have hf : ¬ Lib.hasSuffix s.data.toList [111] = true := by assumption
        go_roundw
        case rel => exact ⟨6, by omega, rfl, no_more HN.out (by simp [fitsS, endsS, hf]), hb.alloc hb.size _⟩
        case measure => simp [intOf]
    · have hi0 : ∀ w, (Instr.index 194 endingsV (.int .i64 6)).run Tryz.prog w = .ok (.agg (endV [121] 177 1 [105, 101, 115]).toArray) w := fun w => by kernel_rfl
      have hadd : ∀ w, (Op.stringOp .add (s.extract 0 (s.size - 1)) ⟨#[105, 101, 115]⟩).run Tryz.prog w = .ok (.string ((s.extract 0 (s.size - 1)) ++ ⟨#[105, 101, 115]⟩)) w := fun w => run_string_add w _ _ (by simp; omega) (by decide)
      simp only [endV] at hi0
      go_wp2_with (first
        | (go_at_call 154; refine (Tryz.strings_CutSuffix _ _ _ hs).mono ?_; rintro e w' ⟨rfl, rfl⟩)
        | (go_at_call 177; refine (hard_any W0 _ (htr.alloc _) _ (trim_size _ _ h16)).mono ?_; rintro e w' ⟨rfl, rfl⟩))
      · have hf : Lib.hasSuffix s.data.toList [121] = true := by assumption
        have hh : hardS (Lib.trimSuffix s.data.toList [121]) = true := by assumption
        have e1 : IntKind.i64.wrap (↑s.size) = (s.size : Int) := IntWalk.i64_in _ (by omega)
        have e2 : IntKind.i64.wrap (↑s.size - 1) = (s.size : Int) - 1 := IntWalk.i64_in _ (by omega)
        have e3 : ((s.size : Int) - 1).toNat = s.size - 1 := by omega
        have e4 : (0 : Int) ≤ (s.size : Int) - 1 := by omega
        have e5 : ((s.size : Int) - 1) ≤ (s.size : Int) := by omega
        go_quiet (fail)
        go_wp2
        go_ret2
        have hfit : fitsS s.data.toList (endsS[6]'(by decide)) = true := by simp [fitsS, endsS, hf, hh]
        refine ⟨?_, (hb.alloc hb.size _).drewsN _⟩
        rw [find_at s.data.toList 6 (by decide) HN.out hfit, cut_str]
        simp [putS, endsS]
      · have hf : Lib.hasSuffix s.data.toList [121] = true := by assumption
        have hh : hardS (Lib.trimSuffix s.data.toList [121]) = false := by assumption
        go_roundw
        case rel => exact ⟨7, by omega, rfl, no_more HN.out (by simp [fitsS, endsS, hf, hh]), hb.alloc hb.size _⟩
        case measure => simp [intOf]
      · have hf : ¬ Lib.hasSuffix s.data.toList [121] = true := by assumption
        go_roundw
        case rel => exact ⟨7, by omega, rfl, no_more HN.out (by simp [fitsS, endsS, hf]), hb.alloc hb.size _⟩
        case measure => simp [intOf]
    · have hi0 : ∀ w, (Instr.index 194 endingsV (.int .i64 7)).run Tryz.prog w = .ok (.agg (endV [] 176 0 [115]).toArray) w := fun w => by kernel_rfl
      have hadd : ∀ w, (Op.stringOp .add s ⟨#[115]⟩).run Tryz.prog w = .ok (.string (s ++ ⟨#[115]⟩)) w := fun w => run_string_add w _ _ (by omega) (by decide)
      simp only [endV] at hi0
      have hsuf : Lib.hasSuffix s.data.toList [] = true := by simp [Lib.hasSuffix]
      go_wp2_with (first
        | (go_at_call 154; refine (Tryz.strings_CutSuffix _ _ _ hs).mono ?_; rintro e w' ⟨rfl, rfl⟩)
        | (go_at_call 176; refine (always_any _ _).mono ?_; rintro e w' ⟨rfl, rfl⟩))
      · have hf := hsuf
        have e1 : IntKind.i64.wrap (↑s.size) = (s.size : Int) := IntWalk.i64_in _ (by omega)
        go_quiet (fail)
        go_wp2
        go_ret2
        have hfit : fitsS s.data.toList (endsS[7]'(by decide)) = true := by simp [fitsS, endsS, hf]
        refine ⟨?_, (hb.alloc hb.size _).drewsN _⟩
        rw [find_at s.data.toList 7 (by decide) HN.out hfit, cat_str]
        simp [putS, endsS, take_all]
    · have h7 := HN.out 7 (by decide)
      simp [fitsS, endsS, Lib.hasSuffix] at h7
end Go.Proofs.YthmnffgjckpkiaaGreatDoor
namespace Go.Proofs.YthmnffgjckpkiaaGreatDoor
open Go Go.RowKit

theorem quietE {P : Program} {f : FuncId} {args : Array Value} {w : World} {n : Nat} {v : Value}
    (h : Calls P f args (w.drewN n) fun e w' => e = .returned v ∧ w.drewN n = w') : Calls P f args (w.drewN n) fun e w'' => e = .returned v ∧ ∃ m, w'' = w.drewN m :=
  h.mono fun _ _ ⟨he, hm⟩ => ⟨he, n, hm.symm⟩

def capI (c : Int) : Bool := decide (65 ≤ c ∧ c ≤ 90)
def digI (c : Int) : Bool := decide (48 ≤ c ∧ c ≤ 57)
def alnumI (c : Int) : Bool := smallI c || capI c || digI c
def fnI (c : Int) : Bool := decide (97 ≤ c ∧ c ≤ 116)

theorem sfn_any (c : Int) (w : World) :
    Calls Tryz.prog 135 #[.int .u8 c] w fun e w' => e = .returned (.bool (fnI c)) ∧ w = w' := by
  by_cases h1 : 97 ≤ c <;> by_cases h2 : c ≤ 116
  all_goals
    have hs : fnI c = (decide (97 ≤ c) && decide (c ≤ 116)) := by simp [fnI]
    rw [hs]; clear hs
    go_enter Tryz.func135, Tryz.ntmps135
    go_wp2
    go_ret
    simp [h1, h2]
theorem ssmall_any (c : Int) (w : World) :
    Calls Tryz.prog 165 #[.int .u8 c] w fun e w' => e = .returned (.bool (smallI c)) ∧ w = w' := by
  by_cases h1 : 97 ≤ c <;> by_cases h2 : c ≤ 122
  all_goals
    have hs : smallI c = (decide (97 ≤ c) && decide (c ≤ 122)) := by simp [smallI]
    rw [hs]; clear hs
    go_enter Tryz.func165, Tryz.ntmps165
    go_wp2
    go_ret
    simp [h1, h2]
theorem scap_any (c : Int) (w : World) :
    Calls Tryz.prog 138 #[.int .u8 c] w fun e w' => e = .returned (.bool (capI c)) ∧ w = w' := by
  by_cases h1 : 65 ≤ c <;> by_cases h2 : c ≤ 90
  all_goals
    have hs : capI c = (decide (65 ≤ c) && decide (c ≤ 90)) := by simp [capI]
    rw [hs]; clear hs
    go_enter Tryz.func138, Tryz.ntmps138
    go_wp2
    go_ret
    simp [h1, h2]
theorem sdig_any (c : Int) (w : World) :
    Calls Tryz.prog 166 #[.int .u8 c] w fun e w' => e = .returned (.bool (digI c)) ∧ w = w' := by
  by_cases h1 : 48 ≤ c <;> by_cases h2 : c ≤ 57
  all_goals
    have hs : digI c = (decide (48 ≤ c) && decide (c ≤ 57)) := by simp [digI]
    rw [hs]; clear hs
    go_enter Tryz.func166, Tryz.ntmps166
    go_wp2
    go_ret
    simp [h1, h2]
theorem salnum_any (c : Int) (w : World) :
    Calls Tryz.prog 136 #[.int .u8 c] w fun e w' => e = .returned (.bool (alnumI c)) ∧ w = w' := by
  unfold alnumI
  go_enter Tryz.func136, Tryz.ntmps136
  go_wp2_with (first
    | (go_at_call 165; refine (ssmall_any _ _).mono ?_; rintro e w' ⟨rfl, rfl⟩)
    | (go_at_call 138; refine (scap_any _ _).mono ?_; rintro e w' ⟨rfl, rfl⟩)
    | (go_at_call 166; refine (sdig_any _ _).mono ?_; rintro e w' ⟨rfl, rfl⟩))
  all_goals (go_ret; simp_all)

def reservedL : List (List UInt8) := [[97, 108, 108], [115, 111, 109, 101], [102, 97, 108, 115, 101], [110, 101, 120, 116], [97, 108, 119, 97, 121, 115], [117, 110, 116, 105, 108]]
def reservedS (l : List UInt8) : Bool := reservedL.contains l

theorem reserved_any (s : ByteArray) (w : World) :
    Calls Tryz.prog 164 #[.string s] w fun e w' => e = .returned (.bool (reservedS s.data.toList)) ∧ w = w' := by
  go_enter Tryz.func164, Tryz.ntmps164
  go_wp2
  all_goals
    go_ret
    refine ⟨ret_bool ?_, rfl⟩
    rw [← ByteArray.toList_eq]
    simp_all [reservedS, reservedL]

/-- A name: its first byte, its other bytes, its length; no reserved word. -/
def allOf (p : Int → Bool) (l : List UInt8) : Bool := l.all fun c => p c.toNat
def nameS (first : Int → Bool) (l : List UInt8) : Bool := decide (1 ≤ l.length ∧ l.length ≤ 16) && (!reservedS l && (first (l.headD 0).toNat && allOf alnumI l.tail))

theorem head_get {s : ByteArray} (h : 1 ≤ s.size) : s.data.toList.headD 0 = s[0] := by
  have h' : 0 < s.data.toList.length := by simp; omega
  cases hs : s.data.toList with
  | nil => rw [hs] at h'; simp at h'
  | cons a b => 
    have : s[0] = s.data.toList[0] := by simp [ByteArray.getElem_eq_getElem_data]
    rw [this]; simp [hs]
theorem tail_take (s : ByteArray) (k : Nat) (h1 : 1 ≤ k) (h : k < s.size) (p : Int → Bool) :
    allOf p (s.data.toList.take (k + 1)).tail = (allOf p (s.data.toList.take k).tail && p s[k].toNat) := by
  rw [List.take_succ_eq_append_getElem (by simpa using h)]
  have h0 : (s.data.toList.take k) ≠ [] := by
    intro e
    have : (s.data.toList.take k).length = 0 := by rw [e]; rfl
    have hl : s.data.toList.length = s.size := by simp
    rw [List.length_take, hl] at this
    omega
  rw [List.tail_append_of_ne_nil h0]
  simp [allOf, ByteArray.getElem_eq_getElem_data]
theorem tail_false (s : ByteArray) (k : Nat) (h1 : 1 ≤ k) (h : k < s.size) (p : Int → Bool) (hp : p s[k].toNat = false) : allOf p s.data.toList.tail = false := by
  unfold allOf
  rw [List.all_eq_false]
  refine ⟨s[k], ?_, by simp [hp]⟩
  rw [List.mem_iff_getElem]
  refine ⟨k - 1, by simp; omega, ?_⟩
  simp only [List.getElem_tail]
  simp [ByteArray.getElem_eq_getElem_data, show k - 1 + 1 = k by omega]

theorem nameS_len {p : Int → Bool} {l : List UInt8} (h : ¬ (1 ≤ l.length ∧ l.length ≤ 16)) : nameS p l = false := by simp [nameS, h]
theorem nameS_res {p : Int → Bool} {l : List UInt8} (h : reservedS l = true) : nameS p l = false := by simp [nameS, h]
theorem nameS_first {p : Int → Bool} {l : List UInt8} (h : p (l.headD 0).toNat = false) : nameS p l = false := by unfold nameS; rw [h]; simp
theorem nameS_tail {p : Int → Bool} {l : List UInt8} (h : allOf alnumI l.tail = false) : nameS p l = false := by simp [nameS, h]
theorem nameS_yes {p : Int → Bool} {l : List UInt8} (h1 : 1 ≤ l.length ∧ l.length ≤ 16) (h2 : reservedS l = false) (h3 : p (l.headD 0).toNat = true) (h4 : allOf alnumI l.tail = true) : nameS p l = true := by unfold nameS; rw [h3, h2, h4]; simp [h1]
theorem drews {w wr : World} (h : ∃ n, wr = w.drewN n) (m : Nat) : ∃ n, wr.drewN m = w.drewN n := by
  obtain ⟨n, rfl⟩ := h; exact ⟨_, by rw [World.drewN_drewN]⟩
theorem len_size (s : ByteArray) : s.data.toList.length = s.size := by simp

set_option maxHeartbeats 1000000 in
theorem checker_fn (b1 b2 : Nat) (s : ByteArray) (w : World) (hs : s.size ≤ 9223372036854775807) (hc1 : w.cell? ⟨b1, 0, none⟩ = some (.func (.func 135) #[] #[])) (hc2 : w.cell? ⟨b2, 0, none⟩ = some (.func (.func 136) #[] #[])) :
    Calls Tryz.prog 163 #[.string s, .pointer (some ⟨b1, 0, none⟩), .pointer (some ⟨b2, 0, none⟩)] w fun e w' => e = .returned (.bool (nameS fnI s.data.toList)) ∧ ∃ n, w' = w.drewN n := by
  by_cases h1 : 1 ≤ s.size
  · have d1 : decide ((s.size : Int) < 1) = false := by simp; omega
    have h0 : 0 < s.size := h1
    by_cases h2 : s.size ≤ 16
    · have d2 : decide (16 < (s.size : Int)) = false := by simp; omega
      cases hr : reservedS s.data.toList
      · cases hf : fnI s[0].toNat
        · have HR := Lib.hid hr
          have HF := Lib.hid hf
          have CR := Lib.hid (fun w : World => hr ▸ reserved_any s w)
          have CF := Lib.hid (fun w : World => hf ▸ sfn_any s[0].toNat w)
          clear hr hf
          go_enter Tryz.func163, Tryz.ntmps163
          go_wp2
          go_quiet ((first | (go_at_call 164; exact quietE (CR.out _)) | (go_at_call 135; exact quietE (CF.out _))))
          go_wp2
          go_ret
          exact ⟨ret_bool (nameS_first (by rw [head_get h1]; exact HF.out)).symm, ⟨_, rfl⟩⟩
        · have HR := Lib.hid hr
          have HF := Lib.hid hf
          have CR := Lib.hid (fun w : World => hr ▸ reserved_any s w)
          have CF := Lib.hid (fun w : World => hf ▸ sfn_any s[0].toNat w)
          clear hr hf
          go_enter Tryz.func163, Tryz.ntmps163
          go_wp2
          go_quiet ((first | (go_at_call 164; exact quietE (CR.out _)) | (go_at_call 135; exact quietE (CF.out _))))
          go_wp2
          go_loopw [5] (fun i wr => ∃ k : Nat, 1 ≤ k ∧ k ≤ s.size ∧ i = .int .i64 k ∧ allOf alnumI (s.data.toList.take k).tail = true ∧ ∃ n, wr = w.drewN n) (fun i _ => s.size - (intOf i).toNat)
          case atStart => exact ⟨1, Nat.le_refl _, h1, rfl, by rw [List.take_one]; cases s.data.toList <;> simp [allOf], ⟨_, rfl⟩⟩
          case round =>
            obtain ⟨k, hk1, hk, rfl, ha, hw⟩ := hrel
            have hc3 : wr.cell? ⟨b2, 0, none⟩ = some (.func (.func 136) #[] #[]) := by obtain ⟨n, rfl⟩ := hw; exact hc2
            have HA := Lib.hid ha
            have HW := Lib.hid hw
            clear ha d1 d2 hw hc1 hc2
            by_cases hlt : k < s.size
            · cases hp : alnumI s[k].toNat
              · have HP := Lib.hid hp
                have CP := Lib.hid (fun w : World => hp ▸ salnum_any s[k].toNat w)
                clear hp
                go_wp2
                go_quiet ((go_at_call 136; exact quietE (CP.out _)))
                go_wp2
                go_ret
                exact ⟨ret_bool (nameS_tail (tail_false s k hk1 hlt _ HP.out)).symm, drews HW.out _⟩
              · have HP := Lib.hid hp
                have CP := Lib.hid (fun w : World => hp ▸ salnum_any s[k].toNat w)
                clear hp
                go_wp2
                go_quiet ((go_at_call 136; exact quietE (CP.out _)))
                go_wp2
                go_roundw
                case rel => exact ⟨k + 1, by omega, by omega, by go_num, by rw [tail_take s k hk1 hlt, HA.out, HP.out]; rfl, drews HW.out _⟩
                case measure => simp [intOf]; omega
            · obtain rfl : k = s.size := by omega
              go_wp2
              go_ret
              exact ⟨ret_bool (nameS_yes (by rw [len_size]; omega) HR.out (by rw [head_get h1]; exact HF.out) (by have := HA.out; rwa [take_all] at this)).symm, HW.out⟩
      · have HR := Lib.hid hr
        have CR := Lib.hid (fun w : World => hr ▸ reserved_any s w)
        clear hr
        go_enter Tryz.func163, Tryz.ntmps163
        go_wp2
        go_quiet ((go_at_call 164; exact quietE (CR.out _)))
        go_wp2
        go_ret
        exact ⟨ret_bool (nameS_res HR.out).symm, ⟨_, rfl⟩⟩
    · have d2 : decide (16 < (s.size : Int)) = true := by simp; omega
      go_enter Tryz.func163, Tryz.ntmps163
      go_wp2
      go_quiet (fail)
      go_wp2
      go_ret
      exact ⟨ret_bool (nameS_len (by rw [len_size]; omega)).symm, ⟨_, rfl⟩⟩
  · have d1 : decide ((s.size : Int) < 1) = true := by simp; omega
    go_enter Tryz.func163, Tryz.ntmps163
    go_wp2
    go_quiet (fail)
    go_wp2
    go_ret
    exact ⟨ret_bool (nameS_len (by rw [len_size]; omega)).symm, ⟨_, rfl⟩⟩

set_option maxHeartbeats 1000000 in
theorem checker_cap (b1 b2 : Nat) (s : ByteArray) (w : World) (hs : s.size ≤ 9223372036854775807) (hc1 : w.cell? ⟨b1, 0, none⟩ = some (.func (.func 138) #[] #[])) (hc2 : w.cell? ⟨b2, 0, none⟩ = some (.func (.func 136) #[] #[])) :
    Calls Tryz.prog 163 #[.string s, .pointer (some ⟨b1, 0, none⟩), .pointer (some ⟨b2, 0, none⟩)] w fun e w' => e = .returned (.bool (nameS capI s.data.toList)) ∧ ∃ n, w' = w.drewN n := by
  by_cases h1 : 1 ≤ s.size
  · have d1 : decide ((s.size : Int) < 1) = false := by simp; omega
    have h0 : 0 < s.size := h1
    by_cases h2 : s.size ≤ 16
    · have d2 : decide (16 < (s.size : Int)) = false := by simp; omega
      cases hr : reservedS s.data.toList
      · cases hf : capI s[0].toNat
        · have HR := Lib.hid hr
          have HF := Lib.hid hf
          have CR := Lib.hid (fun w : World => hr ▸ reserved_any s w)
          have CF := Lib.hid (fun w : World => hf ▸ scap_any s[0].toNat w)
          clear hr hf
          go_enter Tryz.func163, Tryz.ntmps163
          go_wp2
          go_quiet ((first | (go_at_call 164; exact quietE (CR.out _)) | (go_at_call 138; exact quietE (CF.out _))))
          go_wp2
          go_ret
          exact ⟨ret_bool (nameS_first (by rw [head_get h1]; exact HF.out)).symm, ⟨_, rfl⟩⟩
        · have HR := Lib.hid hr
          have HF := Lib.hid hf
          have CR := Lib.hid (fun w : World => hr ▸ reserved_any s w)
          have CF := Lib.hid (fun w : World => hf ▸ scap_any s[0].toNat w)
          clear hr hf
          go_enter Tryz.func163, Tryz.ntmps163
          go_wp2
          go_quiet ((first | (go_at_call 164; exact quietE (CR.out _)) | (go_at_call 138; exact quietE (CF.out _))))
          go_wp2
          go_loopw [5] (fun i wr => ∃ k : Nat, 1 ≤ k ∧ k ≤ s.size ∧ i = .int .i64 k ∧ allOf alnumI (s.data.toList.take k).tail = true ∧ ∃ n, wr = w.drewN n) (fun i _ => s.size - (intOf i).toNat)
          case atStart => exact ⟨1, Nat.le_refl _, h1, rfl, by rw [List.take_one]; cases s.data.toList <;> simp [allOf], ⟨_, rfl⟩⟩
          case round =>
            obtain ⟨k, hk1, hk, rfl, ha, hw⟩ := hrel
            have hc3 : wr.cell? ⟨b2, 0, none⟩ = some (.func (.func 136) #[] #[]) := by obtain ⟨n, rfl⟩ := hw; exact hc2
            have HA := Lib.hid ha
            have HW := Lib.hid hw
            clear ha d1 d2 hw hc1 hc2
            by_cases hlt : k < s.size
            · cases hp : alnumI s[k].toNat
              · have HP := Lib.hid hp
                have CP := Lib.hid (fun w : World => hp ▸ salnum_any s[k].toNat w)
                clear hp
                go_wp2
                go_quiet ((go_at_call 136; exact quietE (CP.out _)))
                go_wp2
                go_ret
                exact ⟨ret_bool (nameS_tail (tail_false s k hk1 hlt _ HP.out)).symm, drews HW.out _⟩
              · have HP := Lib.hid hp
                have CP := Lib.hid (fun w : World => hp ▸ salnum_any s[k].toNat w)
                clear hp
                go_wp2
                go_quiet ((go_at_call 136; exact quietE (CP.out _)))
                go_wp2
                go_roundw
                case rel => exact ⟨k + 1, by omega, by omega, by go_num, by rw [tail_take s k hk1 hlt, HA.out, HP.out]; rfl, drews HW.out _⟩
                case measure => simp [intOf]; omega
            · obtain rfl : k = s.size := by omega
              go_wp2
              go_ret
              exact ⟨ret_bool (nameS_yes (by rw [len_size]; omega) HR.out (by rw [head_get h1]; exact HF.out) (by have := HA.out; rwa [take_all] at this)).symm, HW.out⟩
      · have HR := Lib.hid hr
        have CR := Lib.hid (fun w : World => hr ▸ reserved_any s w)
        clear hr
        go_enter Tryz.func163, Tryz.ntmps163
        go_wp2
        go_quiet ((go_at_call 164; exact quietE (CR.out _)))
        go_wp2
        go_ret
        exact ⟨ret_bool (nameS_res HR.out).symm, ⟨_, rfl⟩⟩
    · have d2 : decide (16 < (s.size : Int)) = true := by simp; omega
      go_enter Tryz.func163, Tryz.ntmps163
      go_wp2
      go_quiet (fail)
      go_wp2
      go_ret
      exact ⟨ret_bool (nameS_len (by rw [len_size]; omega)).symm, ⟨_, rfl⟩⟩
  · have d1 : decide ((s.size : Int) < 1) = true := by simp; omega
    go_enter Tryz.func163, Tryz.ntmps163
    go_wp2
    go_quiet (fail)
    go_wp2
    go_ret
    exact ⟨ret_bool (nameS_len (by rw [len_size]; omega)).symm, ⟨_, rfl⟩⟩
end Go.Proofs.YthmnffgjckpkiaaGreatDoor
namespace Go.Proofs.YthmnffgjckpkiaaGreatDoor
open Go Go.RowKit

theorem SynFunction_any (w : World) (s : ByteArray) (hs : s.size ≤ 9223372036854775807) :
    Calls Tryz.prog 95 #[.string s] w fun e w' => e = .returned (.bool (nameS fnI s.data.toList)) ∧ Below w.heap.size w w' := by
  go_enter Tryz.func95, Tryz.ntmps95
  go_wp2_with (first
    | (go_at_call 163; refine (checker_fn _ _ _ _ hs ?_ ?_).mono ?_)
    | go_in)
  case refine_1 => simp
  case refine_2 => simp
  rintro e w' ⟨rfl, n, rfl⟩
  go_wp2
  go_ret
  exact ⟨rfl, (((Below.refl _ _).alloc (Nat.le_refl _) _).alloc (by simp) _).drewsN _⟩

theorem SynPredicate_any (w : World) (s : ByteArray) (hs : s.size ≤ 9223372036854775807) :
    Calls Tryz.prog 98 #[.string s] w fun e w' => e = .returned (.bool (nameS capI s.data.toList)) ∧ Below w.heap.size w w' := by
  go_enter Tryz.func98, Tryz.ntmps98
  go_wp2_with (first
    | (go_at_call 163; refine (checker_cap _ _ _ _ hs ?_ ?_).mono ?_)
    | go_in)
  case refine_1 => simp
  case refine_2 => simp
  rintro e w' ⟨rfl, n, rfl⟩
  go_wp2
  go_ret
  exact ⟨rfl, (((Below.refl _ _).alloc (Nat.le_refl _) _).alloc (by simp) _).drewsN _⟩

theorem tail_str (s : ByteArray) : (s.extract 1 s.size).data.toList = s.data.toList.tail := by
  rw [Lib.extract_to_end]; simp

theorem proper_any (w : World) (s : ByteArray) (hs : s.size ≤ 9223372036854775807) :
    Calls Tryz.prog 94 #[.string s] w fun e w' => e = .returned (.bool (properS s.data.toList)) ∧ w = w' := by
  by_cases h1 : 1 ≤ s.size
  · have h0 : 0 < s.size := h1
    by_cases h2 : s.size ≤ 16
    · have hp : properS s.data.toList = (letterI s[0].toNat && (!smallI s[0].toNat && allSmall s.data.toList.tail)) := by
        unfold properS; rw [head_get h1]; simp [h1, h2]
      rw [hp]; clear hp
      go_enter Tryz.func94, Tryz.ntmps94
      go_wp2_with (first
        | (go_at_call 64; refine (letter_any _ _).mono ?_; rintro e w' ⟨rfl, rfl⟩)
        | (go_at_call 103; refine (small_any _ _).mono ?_; rintro e w' ⟨rfl, rfl⟩)
        | (go_at_call 133; refine (made_small _ _ ?_).mono ?_))
      · have ha : letterI ↑s[0].toNat = true := by assumption
        have hb : smallI ↑s[0].toNat = true := by assumption
        go_ret
        exact ⟨ret_bool (by rw [ha, hb]; rfl), rfl⟩
      · simp; omega
      · have ha : letterI ↑s[0].toNat = true := by assumption
        have hb : ¬ smallI ↑s[0].toNat = true := by assumption
        rintro e w' ⟨rfl, rfl⟩
        rw [tail_str]
        go_wp2
        go_ret
        exact ⟨ret_bool (by rw [ha, eq_false_of_ne_true hb]; rfl), rfl⟩
      · have ha : ¬ letterI ↑s[0].toNat = true := by assumption
        go_ret
        exact ⟨ret_bool (by rw [eq_false_of_ne_true ha]; rfl), rfl⟩
    · have hp : properS s.data.toList = false := by unfold properS; simp [h2]
      rw [hp]; clear hp
      go_enter Tryz.func94, Tryz.ntmps94
      go_wp2
      go_ret
      exact ⟨rfl, rfl⟩
  · have hp : properS s.data.toList = false := by unfold properS; simp [show s.size = 0 by omega]
    rw [hp]; clear hp
    go_enter Tryz.func94, Tryz.ntmps94
    go_wp2
    go_ret
    exact ⟨rfl, rfl⟩

/-- An entry. -/
structure Ent where
  word : ByteArray
  cat : Int
  sym : ByteArray
def Ent.cells (e : Ent) : List Value := [.string e.word, .int .u8 e.cat, .string e.sym]
def Ent.ok (e : Ent) : Prop := e.word.size ≤ maxLen ∧ e.sym.size ≤ maxLen
def Ent.w (e : Ent) : List UInt8 := e.word.data.toList
def Ent.s (e : Ent) : List UInt8 := e.sym.data.toList
/-- Whether an entry is right. -/
def rightS (e : Ent) : Bool :=
  if e.cat = 3 then properS e.w && nameS fnI e.s
  else if e.cat = 1 ∨ e.cat = 2 ∨ e.cat = 4 ∨ e.cat = 5 then plainS e.w && (!isFn e.w && nameS capI e.s) else false

set_option maxHeartbeats 1000000 in
theorem Right_any (W0 w : World) (ht : Tabs W0 w) (e : Ent) (he : e.ok) :
    Calls Tryz.prog 58 #[.agg #[.string e.word, .int .u8 e.cat, .string e.sym]] w fun r w' => r = .returned (.bool (rightS e)) ∧ Below w.heap.size w w' := by
  obtain ⟨hw, hsy⟩ := he
  have hw' : e.word.size ≤ 9223372036854775807 := by unfold maxLen at hw; omega
  have hs' : e.sym.size ≤ 9223372036854775807 := by unfold maxLen at hsy; omega
  obtain ⟨word, c, sym⟩ := e
  simp only at hw hsy hw' hs' ⊢
  by_cases h3 : c = 3
  · subst h3
    have hr : rightS ⟨word, 3, sym⟩ = (properS word.data.toList && nameS fnI sym.data.toList) := by simp [rightS, Ent.w, Ent.s]
    rw [hr]; clear hr
    go_enter Tryz.func58, Tryz.ntmps58
    go_wp2_with (first
      | (go_at_call 94; refine (proper_any _ _ hw').mono ?_; rintro e w' ⟨rfl, rfl⟩)
      | (go_at_call 95; refine (SynFunction_any _ _ hs').mono ?_; rintro e w' ⟨rfl, hb⟩))
    · have hp : properS word.data.toList = true := by assumption
      go_ret
      exact ⟨ret_bool (by rw [hp]; rfl), ((Below.refl _ _).alloc (Nat.le_refl _) _).trans (hb.mono (by simp))⟩
    · have hp : ¬ properS word.data.toList = true := by assumption
      go_ret
      exact ⟨ret_bool (by rw [eq_false_of_ne_true hp]; rfl), (Below.refl _ _).alloc (Nat.le_refl _) _⟩
  · by_cases h4 : c = 1 ∨ c = 2 ∨ c = 4 ∨ c = 5
    · have hr : rightS ⟨word, c, sym⟩ = (plainS word.data.toList && (!isFn word.data.toList && nameS capI sym.data.toList)) := by simp [rightS, Ent.w, Ent.s, h3, h4]
      rw [hr]; clear hr h3
      rcases h4 with rfl | rfl | rfl | rfl
      all_goals
        go_enter Tryz.func58, Tryz.ntmps58
        go_wp2_with (first
          | (go_at_call 96; refine (plain_any _ _ hw').mono ?_; rintro e w' ⟨rfl, rfl⟩)
          | (go_at_call 97; refine (Function_any W0 _ (ht.alloc _) _ hw).mono ?_; rintro e w1 ⟨rfl, hb1⟩; obtain ⟨hc1, hf1⟩ := bcell hb1)
          | (go_at_call 98; refine (SynPredicate_any _ _ hs').mono ?_; rintro e w2 ⟨rfl, hb2⟩))
        · have hp : plainS word.data.toList = true := by assumption
          have hq : isFn word.data.toList = true := by assumption
          go_ret
          exact ⟨ret_bool (by rw [hp, hq]; rfl), ((Below.refl _ _).alloc (Nat.le_refl _) _).trans (hb1.mono (by simp))⟩
        · have hp : plainS word.data.toList = true := by assumption
          have hq : ¬ isFn word.data.toList = true := by assumption
          go_ret
          exact ⟨ret_bool (by rw [hp, eq_false_of_ne_true hq]; rfl), (((Below.refl _ _).alloc (Nat.le_refl _) _).trans (hb1.mono (by simp))).trans (hb2.mono (by have := hb1.size; simp at this; omega))⟩
        · have hp : ¬ plainS word.data.toList = true := by assumption
          go_ret
          exact ⟨ret_bool (by rw [eq_false_of_ne_true hp]; rfl), (Below.refl _ _).alloc (Nat.le_refl _) _⟩
    · have hr : rightS ⟨word, c, sym⟩ = false := by simp [rightS, h3, h4]
      rw [hr]; clear hr
      have k3 : (c == 3) = false := by simp; omega
      have k1 : (c == 1) = false := by simp; omega
      have k2 : (c == 2) = false := by simp; omega
      have k4 : (c == 4) = false := by simp; omega
      have k5 : (c == 5) = false := by simp; omega
      clear h3 h4
      go_enter Tryz.func58, Tryz.ntmps58
      go_wp2
      go_ret
      exact ⟨rfl, (Below.refl _ _).alloc (Nat.le_refl _) _⟩
end Go.Proofs.YthmnffgjckpkiaaGreatDoor
namespace Go.Proofs.YthmnffgjckpkiaaGreatDoor
open Go Go.RowKit

theorem sameE {P : Program} {f : FuncId} {args : Array Value} {w : World} {v : Value}
    (h : Calls P f args w fun e w' => e = .returned v ∧ w = w') : Calls P f args w fun e w' => e = .returned v ∧ w' = w :=
  h.mono fun _ _ ⟨he, hm⟩ => ⟨he, hm.symm⟩

theorem still_tail {P : Program} {id : Nat} {Q : Exit → Act → World → Prop} {a : Act} {w : World} {l : List Oper} (n : Nat) (hm : P.follows .mixedOrders = true) (hB : Region.lexTailB .any l.toArray n = true)
    (h : wpStill P l.toArray w.drew (fun a' => wpList P l.toArray Q (l.drop n) a' w.drew) (l.take n) a) : (Code.region id l.toArray true).wp P Q a w :=
  wp_region_still_tail n hm hB h

def cmpStr (a b : List UInt8) : Int := if Op.bytesLess a b then -1 else if a == b then 0 else 1
def cmpInt (a b : Int) : Int := if a < b then -1 else if b < a then 1 else 0

theorem isNaN_str (s : ByteArray) (w : World) :
    Calls Tryz.prog 139 #[.string s] w fun e w' => e = .returned (.bool false) ∧ w = w' := by
  go_enter Tryz.func139, Tryz.ntmps139
  go_wp2
  go_ret
  simp
theorem isNaN_u8 (c : Int) (w : World) :
    Calls Tryz.prog 140 #[.int .u8 c] w fun e w' => e = .returned (.bool false) ∧ w = w' := by
  go_enter Tryz.func140, Tryz.ntmps140
  go_wp2
  go_ret
  simp

theorem Compare_str (a b : ByteArray) (w : World) :
    Calls Tryz.prog 100 #[.string a, .string b] w fun e w' => e = .returned (.int .i64 (cmpStr a.data.toList b.data.toList)) ∧ w = w' := by
  go_enter Tryz.func100, Tryz.ntmps100
  go_wp2_with (go_at_call 139; refine (isNaN_str _ _).mono ?_; rintro e w' ⟨rfl, rfl⟩)
  all_goals
    go_ret
    refine ⟨ret_int ?_, rfl⟩
    rw [← ByteArray.toList_eq, ← ByteArray.toList_eq]
    unfold cmpStr
    simp_all
theorem Compare_u8 (a b : Int) (w : World) :
    Calls Tryz.prog 101 #[.int .u8 a, .int .u8 b] w fun e w' => e = .returned (.int .i64 (cmpInt a b)) ∧ w = w' := by
  go_enter Tryz.func101, Tryz.ntmps101
  go_wp2_with (go_at_call 140; refine (isNaN_u8 _ _).mono ?_; rintro e w' ⟨rfl, rfl⟩)
  all_goals
    go_ret
    refine ⟨ret_int ?_, rfl⟩
    unfold cmpInt
    repeat' split
    all_goals omega

def orInt (x y : Int) : Int := if x = 0 then y else x
theorem Or_two (b : Nat) (x y : Int) (w : World) (h0 : w.cell? ⟨b, 0, none⟩ = some (.int .i64 x)) (h1 : w.cell? ⟨b, 1, none⟩ = some (.int .i64 y)) :
    Calls Tryz.prog 99 #[.slice (some ⟨b, 0, none⟩) 2 2] w fun e w' => e = .returned (.int .i64 (orInt x y)) ∧ w = w' := by
  go_enter Tryz.func99, Tryz.ntmps99
  go_wp2
  go_loop [8] (fun i => ∃ k : Nat, k ≤ 2 ∧ i = .int .i64 k ∧ (1 ≤ k → x = 0) ∧ (2 ≤ k → y = 0)) (fun i => 2 - (intOf i).toNat)
  case atStart => exact ⟨0, by omega, rfl, by omega, by omega⟩
  case round =>
    obtain ⟨k, hk, rfl, hx, hy⟩ := hrel
    have HX := Lib.hid hx
    have HY := Lib.hid hy
    clear hx hy
    have hk3 : k = 0 ∨ k = 1 ∨ k = 2 := by omega
    rcases hk3 with rfl | rfl | rfl
    · by_cases e : x = 0
      · have e' : (x != 0) = false := by simp [e]
        have E := Lib.hid e
        clear e h1
        go_wp2
        go_round
        case rel => exact ⟨1, by omega, rfl, fun _ => E.out, fun h => absurd h (by omega)⟩
        case measure => simp [intOf]
      · have e' : (x != 0) = true := by simp [e]
        have E := Lib.hid e
        clear e h1
        go_wp2
        go_ret
        exact ⟨ret_int (by unfold orInt; rw [if_neg E.out]), rfl⟩
    · have X0 := Lib.hid (HX.out (by omega))
      by_cases e : y = 0
      · have e' : (y != 0) = false := by simp [e]
        have E := Lib.hid e
        clear e h0
        go_wp2
        go_round
        case rel => exact ⟨2, by omega, rfl, fun _ => X0.out, fun _ => E.out⟩
        case measure => simp [intOf]
      · have e' : (y != 0) = true := by simp [e]
        have E := Lib.hid e
        clear e h0
        go_wp2
        go_ret
        exact ⟨ret_int (by unfold orInt; rw [if_pos X0.out]), rfl⟩
    · have X0 := Lib.hid (HX.out (by omega))
      have Y0 := Lib.hid (HY.out (by omega))
      go_wp2
      go_ret
      exact ⟨ret_int (by unfold orInt; rw [if_pos X0.out, Y0.out]), rfl⟩

/-- The order of entries. -/
def compareS (a b : Ent) : Int := orInt (cmpStr a.w b.w) (cmpInt a.cat b.cat)

set_option maxHeartbeats 1000000 in
set_option maxRecDepth 100000 in
theorem compare_any (w : World) (a b : Ent) :
    Calls Tryz.prog 59 #[.agg #[.string a.word, .int .u8 a.cat, .string a.sym], .agg #[.string b.word, .int .u8 b.cat, .string b.sym]] w fun e w' => e = .returned (.int .i64 (compareS a b)) ∧ Below w.heap.size w w' := by
  obtain ⟨aw, ac, as'⟩ := a
  obtain ⟨bw, bc, bs⟩ := b
  simp only [compareS, Ent.w]
  go_enter Tryz.func59, Tryz.ntmps59
  go_wp2
  refine still_tail 10 (by kernel_rfl) (by kernel_rfl) ?_
  simp only [List.take_succ_cons, List.take_zero, List.drop_succ_cons, List.drop_zero]
  repeat still_step
  still_call (sameE (Compare_str _ _ _))
  repeat still_step
  still_call (sameE (Compare_u8 _ _ _))
  repeat still_step
  refine wpStill_nil ?_
  go_wp2_with (go_at_call 99; refine (Or_two _ (cmpStr aw.data.toList bw.data.toList) (cmpInt ac bc) _ ?_ ?_).mono ?_)
  case refine_1 => show World.cell? (World.alloc _ _) _ = _; rw [World.cell?_alloc_at _ _ _ _ (by simp)]; rfl
  case refine_2 => show World.cell? (World.alloc _ _) _ = _; rw [World.cell?_alloc_at _ _ _ _ (by simp)]; rfl
  rintro e w' ⟨rfl, rfl⟩
  go_wp2
  go_ret
  exact ⟨rfl, ((((Below.refl _ _).alloc (Nat.le_refl _) _).alloc (by simp) _).alloc (by simp; omega) _).drew⟩

/-- Two entries whose symbols cannot be the same. -/
def clashS (a b : Ent) : Bool := (a.s == b.s) && ((a.cat != 3) && ((b.cat != 3) && ((a.cat == 5) != (b.cat == 5))))

set_option maxHeartbeats 1000000 in
theorem clash_any (w : World) (a b : Ent) :
    Calls Tryz.prog 62 #[.agg #[.string a.word, .int .u8 a.cat, .string a.sym], .agg #[.string b.word, .int .u8 b.cat, .string b.sym]] w fun e w' => e = .returned (.bool (clashS a b)) ∧ Below w.heap.size w w' := by
  obtain ⟨aw, ac, as'⟩ := a
  obtain ⟨bw, bc, bs⟩ := b
  simp only [clashS, Ent.s]
  go_enter Tryz.func62, Tryz.ntmps62
  go_wp2
  all_goals
    go_ret
    refine ⟨ret_bool ?_, ((Below.refl _ _).alloc (Nat.le_refl _) _).alloc (by simp) _⟩
    rw [← ByteArray.toList_eq, ← ByteArray.toList_eq]
    simp_all
  all_goals (rw [Bool.and_assoc]; rfl)
end Go.Proofs.YthmnffgjckpkiaaGreatDoor
namespace Go.Proofs.YthmnffgjckpkiaaGreatDoor
open Go Go.RowKit

/-- The slice value v denotes the list l of entries in the world w. -/
structure EntSlice (w : World) (v : Value) (l : List Ent) : Prop where
  form : ∃ a cap, v = .slice a l.length cap ∧ l.length ≤ cap ∧ cap ≤ maxLen ∧ (l = [] ∨ ∃ b off, a = some ⟨b, off, none⟩ ∧ b < w.heap.size ∧
    ∀ j (h : j < l.length), w.cell? ⟨b, off + j * 3, none⟩ = some (.string l[j].word) ∧ w.cell? ⟨b, off + j * 3 + 1, none⟩ = some (.int .u8 l[j].cat) ∧ w.cell? ⟨b, off + j * 3 + 2, none⟩ = some (.string l[j].sym))
  ok : ∀ e ∈ l, e.ok

theorem EntSlice.below {w w' : World} {v : Value} {l : List Ent} (h : EntSlice w v l) (hb : Below w.heap.size w w') : EntSlice w' v l := by
  obtain ⟨⟨a, cap, hv, h1, h2, h3⟩, h4⟩ := h
  refine ⟨⟨a, cap, hv, h1, h2, ?_⟩, h4⟩
  rcases h3 with h3 | ⟨b, off, ha, hlt, hc⟩
  · exact .inl h3
  · refine .inr ⟨b, off, ha, Nat.lt_of_lt_of_le hlt hb.size, fun j hj => ?_⟩
    obtain ⟨c0, c1, c2⟩ := hc j hj
    exact ⟨cell_kept' hb c0, cell_kept' hb c1, cell_kept' hb c2⟩

/-- The slice value v denotes the list of numbers in the world w. -/
def IdxSlice (w : World) (v : Value) (idx : List Nat) : Prop :=
  ∃ a cap, v = .slice a idx.length cap ∧ (idx = [] ∨ ∃ g, a = some ⟨g, 0, none⟩ ∧ ∀ j (h : j < idx.length), w.cell? ⟨g, j, none⟩ = some (.int .i64 idx[j]))

theorem idxSlice_of_owns {w : World} {base : Nat} {v : Value} {idx : List Nat} {t : TypeId} (h : w.ownsRow base t 1 v idx.length (idx.map fun i : Nat => Value.int .i64 i)) : IdxSlice w v idx := by
  rcases h.2 with ⟨rfl, h0⟩ | ⟨g, cap, cur, rfl, hbg, hg, hnc, hcm, hcs, htake⟩
  · have : idx = [] := List.eq_nil_of_length_eq_zero h0
    subst this
    exact ⟨none, 0, rfl, .inl rfl⟩
  · refine ⟨_, cap, rfl, .inr ⟨g, rfl, fun j hj => ?_⟩⟩
    have hc := h.cells (g := g) rfl j (.int .i64 idx[j]) (by simp [hj])
    have hadd : (⟨g, 0, none⟩ : Addr).add j = ⟨g, j, none⟩ := by unfold Addr.add; split <;> simp_all
    rwa [hadd] at hc
theorem IdxSlice.below {w w' : World} {v : Value} {idx : List Nat} (h : IdxSlice w v idx) (hb : Below w.heap.size w w') : IdxSlice w' v idx := by
  obtain ⟨a, cap, hv, h⟩ := h
  refine ⟨a, cap, hv, ?_⟩
  rcases h with h | ⟨g, ha, hc⟩
  · exact .inl h
  · exact .inr ⟨g, ha, fun j hj => cell_kept' hb (hc j hj)⟩

theorem grownBy_of_below {w w' : World} (h : Below w.heap.size w w') {row : Option Nat} : w.grownBy w' row := ⟨h.os, h.tape, h.output, h.size, fun k hk _ => h.block k hk⟩
theorem ownsRow_below {w w' : World} {base : Nat} {e : TypeId} {size : Nat} {v : Value} {n : Nat} {xs : List Value} (h : w.ownsRow base e size v n xs) (hb : Below w.heap.size w w') : w'.ownsRow base e size v n xs :=
  h.kept (row := none) (grownBy_of_below hb) (by cases v.ownBlock <;> simp)
/-- The places of the entries that are as p says, among the first k. -/
def thoseTo (p : Ent → Bool) (l : List Ent) (k : Nat) : List Nat := (List.range k).filter fun i => match l[i]? with | some e => p e | none => false
def thoseS (p : Ent → Bool) (l : List Ent) : List Nat := thoseTo p l l.length
theorem thoseTo_yes {p : Ent → Bool} {l : List Ent} {k : Nat} (h : k < l.length) (hp : p l[k] = true) : thoseTo p l (k + 1) = thoseTo p l k ++ [k] := by
  simp [thoseTo, List.range_succ, List.filter_append, List.getElem?_eq_getElem h, hp]
theorem thoseTo_no {p : Ent → Bool} {l : List Ent} {k : Nat} (h : k < l.length) (hp : p l[k] = false) : thoseTo p l (k + 1) = thoseTo p l k := by
  simp [thoseTo, List.range_succ, List.filter_append, List.getElem?_eq_getElem h, hp]
theorem thoseTo_len (p : Ent → Bool) (l : List Ent) (k : Nat) : (thoseTo p l k).length ≤ k := by
  have := List.length_filter_le (fun i => match l[i]? with | some e => p e | none => false) (List.range k)
  simpa [thoseTo] using this

theorem info_int : (Tryz.prog.info? 3).map (fun i => (i.zero, i.size, i.bytes)) = some (some (.int .i64 0), 1, 8) := by kernel_rfl

set_option maxRecDepth 100000 in
set_option maxHeartbeats 2000000 in
theorem those_any (w : World) (v : Value) (l : List Ent) (hl : EntSlice w v l) (h100 : l.length ≤ 1000000) (g : Nat) (caps : Array Value) (p : Ent → Bool)
    (eg : ∀ args w, (callFunc g args).run Tryz.prog w = .ok (.enter g args) w)
    (hF : ∀ (w' : World) (e : Ent), Below w.heap.size w w' → e ∈ l → Calls Tryz.prog g (#[.agg #[.string e.word, .int .u8 e.cat, .string e.sym]] ++ caps) w' fun r w'' => r = .returned (.bool (p e)) ∧ Below w'.heap.size w' w'') :
    Calls Tryz.prog 60 #[v, .func (.func g) #[] caps] w fun r w' => ∃ r', r = .returned r' ∧ IdxSlice w' r' (thoseS p l) ∧ Below w.heap.size w w' := by
  obtain ⟨i0, hi, hz0, hz1, hz2⟩ := info_parts info_int
  obtain ⟨⟨a, cap, rfl, hcap, hcm, hform⟩, hok⟩ := hl
  have HF := Lib.hid hF
  have HO := Lib.hid hok
  have HFo := Lib.hid hform
  clear hF hok hform
  go_enter Tryz.func60, Tryz.ntmps60
  go_wp2
  go_loopw [5, 10] (fun r i wr => ∃ k : Nat, k ≤ l.length ∧ i = .int .i64 k ∧ wr.ownsRow w.heap.size 3 1 r (thoseTo p l k).length ((thoseTo p l k).map fun i : Nat => Value.int .i64 i) ∧ Below w.heap.size w wr) (fun _ i _ => l.length - (intOf i).toNat)
  case atStart => exact ⟨0, Nat.zero_le _, rfl, World.ownsRow_nil _ _ _ _, Below.refl _ _⟩
  case round =>
    obtain ⟨k, hk, rfl, hown, hb⟩ := hrel
    have HOwn := Lib.hid hown
    clear hown
    by_cases hlt : k < l.length
    · rcases HFo.out with h0 | ⟨b, off, rfl, hbl, hc⟩
      · rw [h0] at hlt; exact absurd hlt (by simp)
      · obtain ⟨c0, c1, c2⟩ := hc k hlt
        have c0' := cell_kept' hb c0
        have c1' := cell_kept' hb c1
        have c2' := cell_kept' hb c2
        clear c0 c1 c2 hc
        have HE : Hid (l[k] ∈ l) := List.getElem_mem hlt
        obtain ⟨e, he⟩ : ∃ e, e = l[k] := ⟨_, rfl⟩
        rw [← he] at c0' c1' c2'
        have HEq := Lib.hid he
        clear he
        go_wp2
        refine (HF.out _ e (hb.alloc hb.size _) (HEq.out ▸ HE.out)).mono ?_
        rintro r w1 ⟨rfl, hb1⟩
        have hw1 : Below w.heap.size w w1 := (hb.alloc hb.size _).trans (hb1.mono (by have := hb.size; simp; omega))
        have hsz1 : wr.heap.size + 1 ≤ w1.heap.size := by have := hb1.size; simpa using this
        have hown1 := ownsRow_below (HOwn.out.alloc (.cells #[.string e.word, .int .u8 e.cat, .string e.sym] 63)) hb1
        have hlen := thoseTo_len p l k
        cases hp : p e
        · have hstep := thoseTo_no hlt (HEq.out ▸ hp)
          have HS := Lib.hid hstep
          have HO1 := Lib.hid hown1
          clear hstep hown1 hp
          go_wp2
          go_roundw
          case rel => exact ⟨k + 1, by omega, by go_num, by rw [HS.out]; exact HO1.out, hw1⟩
          case measure => simp [intOf]; omega
        · have hstep := thoseTo_yes hlt (HEq.out ▸ hp)
          have HS := Lib.hid hstep
          have HO1 := Lib.hid hown1
          clear hstep hown1 hp
          go_wp2_with (at_builtin; refine wpList_append_own _ rfl _ _ 96 rfl w.heap.size 3 i0 (.int .i64 0) 1 8 Tryz.underlying96 hi hz0 hz1 hz2 rfl (by decide) _ _ _ rfl (HO1.out.alloc _) ⟨w1.heap.size, 0, none⟩ 1 1 [.int .i64 k] rfl rfl (cell_one_new _ _ _) (by simp [Value.oneCell']) (by unfold maxLen; omega) (by omega) (by have := hw1.size; simp; omega) ?_)
          intro v' w2 hown2 hgrow _
          have hb2 : Below w.heap.size w w2 := (hw1.alloc hw1.size _).grown hgrow (by have := hw1.size; simp; omega) (fun k hk => (HO1.out.lt k hk).1)
          have HO2 := Lib.hid hown2
          clear hown2 hgrow
          go_wp2
          go_roundw
          case rel => exact ⟨k + 1, by omega, by go_num, by rw [HS.out, List.length_append, List.map_append]; exact HO2.out, hb2⟩
          case measure => simp [intOf]; omega
    · obtain rfl : k = l.length := by omega
      go_wp2
      go_ret
      exact ⟨_, rfl, idxSlice_of_owns HOwn.out, hb⟩
end Go.Proofs.YthmnffgjckpkiaaGreatDoor
namespace Go.Proofs.YthmnffgjckpkiaaGreatDoor
open Go Go.RowKit

/-- A world that keeps all that was there in W. -/
structure Later (W : World) where
  w : World
  below : Below W.heap.size W w

instance Later.inhab (W : World) : Nonempty (Later W) := ⟨⟨W, Below.refl _ _⟩⟩
theorem Later.cell {W : World} (x : Later W) {b o : Nat} (h : b < W.heap.size) : x.w.cell? ⟨b, o, none⟩ = W.cell? ⟨b, o, none⟩ := x.below.cell (p := ⟨b, o, none⟩) h
theorem Later.get {W : World} {a : Addr} {v : Value} (h : W.cell? a = some v) (x : Later W) : x.w.cell? a = some v := cell_kept' x.below h

/-- A contract that keeps all that was there, met in such a world. -/
theorem later_call {P : Program} {f : FuncId} {args : Array Value} {W : World} {x : Later W} {v : Value}
    (h : Calls P f args x.w fun e w' => e = .returned v ∧ Below x.w.heap.size x.w w') : Calls P f args x.w fun e w'' => e = .returned v ∧ ∃ y : Later W, w'' = y.w :=
  h.mono fun _ w'' ⟨he, hb⟩ => ⟨he, ⟨w'', x.below.trans (hb.mono x.below.size)⟩, rfl⟩
theorem later_same {P : Program} {f : FuncId} {args : Array Value} {W : World} {x : Later W} {v : Value}
    (h : Calls P f args x.w fun e w' => e = .returned v ∧ x.w = w') : Calls P f args x.w fun e w'' => e = .returned v ∧ ∃ y : Later W, w'' = y.w :=
  h.mono fun _ _ ⟨he, hb⟩ => ⟨he, x, hb.symm⟩

theorem wp_region_later {P : Program} {id : Nat} {Q : Exit → Act → World → Prop} {a : Act} {w : World} {l : List Oper} (hm : P.follows .mixedOrders = true) (hB : Region.lexB .any l.toArray = true)
    (h : wpQuiet P l.toArray (fun w' => ∃ x : Later w, w' = x.w) (fun a' => ∀ w', (∃ x : Later w, w' = x.w) → Q .normal a' w') l a) : (Code.region id l.toArray true).wp P Q a w :=
  wp_region_quiet (C := fun w' => ∃ x : Later w, w' = x.w) hm hB ⟨⟨{ w with drawn := w.drawn + 1 }, ⟨rfl, rfl, rfl, Nat.le_refl _, fun _ _ => rfl⟩⟩, rfl⟩ (by simpa using h)
end Go.Proofs.YthmnffgjckpkiaaGreatDoor
namespace Go.Proofs.YthmnffgjckpkiaaGreatDoor
open Go Go.RowKit

/-- What 'Valid' asks at the i-th entry. -/
def stepS (l : List Ent) (i : Nat) : Bool := match l[i]? with
  | some e => rightS e && ((i == 0 || (match l[i - 1]? with | some d => decide (compareS d e < 0) | none => true)) && decide (thoseTo (fun o => clashS o e) l i = []))
  | none => true
def validS (l : List Ent) : Bool := decide (l.length ≤ 100) && (List.range l.length).all (stepS l)

theorem validS_no {l : List Ent} {i : Nat} (h : i < l.length) (hs : stepS l i = false) : validS l = false := by
  have : (List.range l.length).all (stepS l) = false := by
    rw [List.all_eq_false]; exact ⟨i, by simpa using h, by simp [hs]⟩
  simp [validS, this]

theorem stepS_eq {l : List Ent} {i : Nat} (h : i < l.length) : stepS l i = (rightS l[i] && ((i == 0 || (match l[i - 1]? with | some d => decide (compareS d l[i] < 0) | none => true)) && decide (thoseTo (fun o => clashS o l[i]) l i = []))) := by
  simp [stepS, List.getElem?_eq_getElem h]
theorem stepS_lt {l : List Ent} {k : Nat} {e : Ent} (_hk : ¬ k = 0) (h : k - 1 < l.length) (hc : decide (0 ≤ compareS l[k - 1] e) = false) : (match l[k - 1]? with | some d => decide (compareS d e < 0) | none => true) = true := by
  rw [List.getElem?_eq_getElem h]; simp at hc ⊢; exact hc
theorem stepS_ge {l : List Ent} {k : Nat} {e : Ent} (hk : ¬ k = 0) (h : k - 1 < l.length) (hc : decide (0 ≤ compareS l[k - 1] e) = true) : (k == 0 || (match l[k - 1]? with | some d => decide (compareS d e < 0) | none => true)) = false := by
  rw [List.getElem?_eq_getElem h]; simp at hc ⊢; exact ⟨hk, by omega⟩
theorem step_more {l : List Ent} {k : Nat} (h : ∀ j, j < k → stepS l j = true) (h1 : stepS l k = true) : ∀ j, j < k + 1 → stepS l j = true := fun j hj => by
  rcases Nat.lt_succ_iff_lt_or_eq.1 hj with h' | rfl
  · exact h j h'
  · exact h1
theorem validS_yes {l : List Ent} (h : l.length ≤ 100) (hs : ∀ j, j < l.length → stepS l j = true) : validS l = true := by
  simp [validS, h]; exact hs
theorem thoseTo_take (p : Ent → Bool) (l : List Ent) (k : Nat) (h : k ≤ l.length) : thoseTo p l k = thoseS p (l.take k) := by
  have e : (l.take k).length = k := by rw [List.length_take]; omega
  unfold thoseS
  rw [e]
  unfold thoseTo
  refine List.filter_congr fun i hi => ?_
  have : i < k := by simpa using hi
  rw [List.getElem?_take_of_lt this]
theorem entSlice_take {w : World} {b off : Nat} {cap : Nat} {l : List Ent} (h : EntSlice w (.slice (some ⟨b, off, none⟩) l.length cap) l) (k : Nat) (hk : k ≤ l.length) : EntSlice w (.slice (some ⟨b, off, none⟩) k cap) (l.take k) := by
  obtain ⟨⟨a, cap', hv, h1, h2, h3⟩, h4⟩ := h
  injection hv with ha _ hcap
  subst ha hcap
  have e : (l.take k).length = k := by rw [List.length_take]; omega
  refine ⟨⟨_, cap, by rw [e], by omega, h2, ?_⟩, fun x hx => h4 x (List.mem_of_mem_take hx)⟩
  rcases h3 with h3 | ⟨b', off', hb, hlt, hc⟩
  · exact .inl (by rw [h3]; simp)
  · injection hb with hb
    injection hb with hb ho _
    subst hb ho
    refine .inr ⟨b, off, rfl, hlt, fun j hj => ?_⟩
    have hj' : j < l.length := by rw [e] at hj; omega
    have := hc j hj'
    simpa using this

/-- The closure of 'Valid': whether an entry clashes with the captured one. -/
theorem Valid1_any (w : World) (e o : Ent) (b : Nat) (h0 : w.cell? ⟨b, 0, none⟩ = some (.string e.word)) (h1 : w.cell? ⟨b, 1, none⟩ = some (.int .u8 e.cat)) (h2 : w.cell? ⟨b, 2, none⟩ = some (.string e.sym)) :
    Calls Tryz.prog 61 #[.agg #[.string o.word, .int .u8 o.cat, .string o.sym], .pointer (some ⟨b, 0, none⟩)] w fun r w' => r = .returned (.bool (clashS o e)) ∧ Below w.heap.size w w' := by
  have hlt := cell_lt h0
  simp only at hlt
  go_enter Tryz.func61, Tryz.ntmps61
  go_wp2_with (go_at_call 62; refine (clash_any _ o e).mono ?_; rintro r w1 ⟨rfl, hb⟩)
  go_ret
  exact ⟨rfl, ((Below.refl _ _).alloc (Nat.le_refl _) _).trans (hb.mono (by simp))⟩

theorem Valid_long (w : World) (a : Option Addr) (n cap : Nat) (h : 100 < n) (hn : n ≤ 9223372036854775807) :
    Calls Tryz.prog 37 #[.slice a n cap] w fun r w' => r = .returned (.bool false) ∧ w = w' := by
  go_enter Tryz.func37, Tryz.ntmps37
  go_wp2
  go_ret
  exact ⟨rfl, rfl⟩

set_option maxRecDepth 100000 in
set_option maxHeartbeats 4000000 in
theorem Valid_short (W0 w : World) (ht : Tabs W0 w) (v : Value) (l : List Ent) (hl : EntSlice w v l) (h100 : l.length ≤ 100) :
    Calls Tryz.prog 37 #[v] w fun r w' => r = .returned (.bool (validS l)) ∧ Below w.heap.size w w' := by
  have hl0 := Lib.hid hl
  obtain ⟨⟨a, cap, rfl, hcap, hcm, hform⟩, hok⟩ := hl
  have HO := Lib.hid hok
  have HFo := Lib.hid hform
  clear hok hform
  go_enter Tryz.func37, Tryz.ntmps37
  go_wp2
  go_loopw [10] (fun i wr => ∃ k : Nat, k ≤ l.length ∧ i = .int .i64 k ∧ (∀ j, j < k → stepS l j = true) ∧ Below w.heap.size w wr) (fun i _ => l.length - (intOf i).toNat)
  case atStart => exact ⟨0, Nat.zero_le _, rfl, fun j hj => absurd hj (Nat.not_lt_zero j), Below.refl _ _⟩
  case round =>
    obtain ⟨k, hk, rfl, hno, hb⟩ := hrel
    have HN := Lib.hid hno
    clear hno
    have htr := ht.next hb
    by_cases hlt : k < l.length
    · rcases HFo.out with h0 | ⟨b, off, rfl, hbl, hc⟩
      · rw [h0] at hlt; exact absurd hlt (by simp)
      · obtain ⟨c0, c1, c2⟩ := hc k hlt
        have c0' := cell_kept' hb c0
        have c1' := cell_kept' hb c1
        have c2' := cell_kept' hb c2
        have HC := Lib.hid hc
        clear c0 c1 c2 hc
        have hek : l[k].ok := HO.out _ (List.getElem_mem hlt)
        obtain ⟨e, he⟩ : ∃ e, e = l[k] := ⟨_, rfl⟩
        rw [← he] at c0' c1' c2' hek
        have HEq := Lib.hid he
        have HEk := Lib.hid hek
        clear he hek
        go_wp2_with fail
        have hz : wr.heap.size < (wr.alloc (.cells #[.string e.word, .int .u8 e.cat, .string e.sym] 63)).heap.size := by simp
        have d0 : (wr.alloc (.cells #[.string e.word, .int .u8 e.cat, .string e.sym] 63)).cell? ⟨wr.heap.size, 0, none⟩ = some (.string e.word) := by simp
        have d1 : (wr.alloc (.cells #[.string e.word, .int .u8 e.cat, .string e.sym] 63)).cell? ⟨wr.heap.size, 1, none⟩ = some (.int .u8 e.cat) := by simp
        have d2 : (wr.alloc (.cells #[.string e.word, .int .u8 e.cat, .string e.sym] 63)).cell? ⟨wr.heap.size, 2, none⟩ = some (.string e.sym) := by simp
        have ht1 := htr.alloc (.cells #[.string e.word, .int .u8 e.cat, .string e.sym] 63)
        have hb1 := hb.alloc hb.size (.cells #[.string e.word, .int .u8 e.cat, .string e.sym] 63)
        obtain ⟨W, hW⟩ : ∃ W, wr.alloc (.cells #[.string e.word, .int .u8 e.cat, .string e.sym] 63) = W := ⟨_, rfl⟩
        rw [hW] at hz d0 d1 d2 ht1 hb1 ⊢
        clear hW c0' c1' c2'
        have f0 := fun x : Later W => x.get d0
        have f1 := fun x : Later W => x.get d1
        have f2 := fun x : Later W => x.get d2
        cases hr : rightS e
        · have CR := Lib.hid (fun x : Later W => hr ▸ Right_any W0 x.w (ht1.next x.below) e HEk.out)
          have HR := Lib.hid hr
          clear hr
          refine wp_region_later (by kernel_rfl) (by kernel_rfl) ?_
          repeat (go_big_quiet_step ((go_at_call 58; exact later_call (CR.out _))))
          refine wpQuiet_nil ?_
          rintro _ ⟨x, rfl⟩
          go_wp2
          go_ret
          exact ⟨ret_bool (validS_no hlt (by simp [stepS, List.getElem?_eq_getElem hlt, ← HEq.out, HR.out])).symm, hb1.trans (x.below.mono hb1.size)⟩
        · have HR := Lib.hid hr
          have CR := Lib.hid (fun x : Later W => hr ▸ Right_any W0 x.w (ht1.next x.below) e HEk.out)
          clear hr
          by_cases hk0 : k = 0
          · subst hk0
            refine wp_region_later (by kernel_rfl) (by kernel_rfl) ?_
            repeat (go_big_quiet_step ((go_at_call 58; exact later_call (CR.out _))))
            refine wpQuiet_nil ?_
            rintro _ ⟨x, rfl⟩
            have hlk : (l.take 0).length = 0 := by rw [List.length_take]; omega
            have hes : EntSlice x.w (.slice (some ⟨b, off, none⟩) 0 cap) (l.take 0) := entSlice_take (EntSlice.below hl0.out (hb1.trans (x.below.mono hb1.size))) _ (by omega)
            have HT := those_any x.w _ (l.take 0) hes (by rw [hlk]; omega) 61 #[.pointer (some ⟨wr.heap.size, 0, none⟩)] (fun o => clashS o e) (fun _ _ => by kernel_rfl) (fun w' o hw' _ => Valid1_any w' e o wr.heap.size (cell_kept' hw' (f0 x)) (cell_kept' hw' (f1 x)) (cell_kept' hw' (f2 x)))
            clear hes f0 f1 f2
            go_wp2_with fail
            refine HT.mono ?_
            rintro r w3 ⟨r', rfl, ⟨a', cap', rfl, _⟩, hb3⟩
            have hbx : Below w.heap.size w w3 := (hb1.trans (x.below.mono hb1.size)).trans (hb3.mono (by have := hb1.size; have := x.below.size; omega))
            obtain ⟨q, hq⟩ : ∃ q, q = thoseS (fun o => clashS o e) (l.take 0) := ⟨_, rfl⟩
            rw [← hq]
            have HQ := Lib.hid hq
            clear hq HT
            cases q with
            | nil =>
              go_wp2
              go_roundw
              case rel => exact ⟨0 + 1, by omega, by go_num, step_more HN.out (by rw [stepS_eq hlt, ← HEq.out, HR.out, thoseTo_take _ _ _ hk, ← HQ.out]; simp), hbx⟩
              case measure => simp [intOf]; omega
            | cons q0 q1 =>
              go_wp2
              go_ret
              exact ⟨ret_bool (validS_no hlt (by rw [stepS_eq hlt, ← HEq.out, thoseTo_take _ _ _ hk, ← HQ.out]; simp)).symm, hbx⟩
          · have hk1 : k - 1 < l.length := by omega
            obtain ⟨p0, p1, p2⟩ := HC.out (k - 1) hk1
            have g0 := fun x : Later W => x.get (cell_kept' hb1 p0)
            have g1 := fun x : Later W => x.get (cell_kept' hb1 p1)
            have g2 := fun x : Later W => x.get (cell_kept' hb1 p2)
            obtain ⟨d, hd⟩ : ∃ d, d = l[k - 1] := ⟨_, rfl⟩
            rw [← hd] at g0 g1 g2
            have HD := Lib.hid hd
            clear hd p0 p1 p2
            have e1 : IntKind.i64.wrap (↑k - 1) = (k : Int) - 1 := IntWalk.i64_in _ (by omega)
            have e2 : ((k : Int) - 1).toNat = k - 1 := by omega
            have e3 : (0 : Int) ≤ (k : Int) - 1 := by omega
            have e4 : (k : Int) - 1 < (l.length : Int) := by omega
            have e5 : 0 < k := by omega
            cases hcm : decide (0 ≤ compareS d e)
            · have CC := Lib.hid (fun x : Later W => compare_any x.w d e)
              have HCm := Lib.hid hcm
              refine wp_region_later (by kernel_rfl) (by kernel_rfl) ?_
              repeat (go_big_quiet_step ((first | (go_at_call 58; exact later_call (CR.out _)) | (go_at_call 59; exact later_call (CC.out _)))))
              refine wpQuiet_nil ?_
              rintro _ ⟨x, rfl⟩
              clear e1 e2 e3 e4 e5 hcm g0 g1 g2
              have hlk : (l.take k).length = k := by rw [List.length_take]; omega
              have hes : EntSlice x.w (.slice (some ⟨b, off, none⟩) k cap) (l.take k) := entSlice_take (EntSlice.below hl0.out (hb1.trans (x.below.mono hb1.size))) _ (by omega)
              have HT := those_any x.w _ (l.take k) hes (by rw [hlk]; omega) 61 #[.pointer (some ⟨wr.heap.size, 0, none⟩)] (fun o => clashS o e) (fun _ _ => by kernel_rfl) (fun w' o hw' _ => Valid1_any w' e o wr.heap.size (cell_kept' hw' (f0 x)) (cell_kept' hw' (f1 x)) (cell_kept' hw' (f2 x)))
              clear hes f0 f1 f2
              go_wp2_with fail
              refine HT.mono ?_
              rintro r w3 ⟨r', rfl, ⟨a', cap', rfl, _⟩, hb3⟩
              have hbx : Below w.heap.size w w3 := (hb1.trans (x.below.mono hb1.size)).trans (hb3.mono (by have := hb1.size; have := x.below.size; omega))
              obtain ⟨q, hq⟩ : ∃ q, q = thoseS (fun o => clashS o e) (l.take k) := ⟨_, rfl⟩
              rw [← hq]
              have HQ := Lib.hid hq
              clear hq HT
              cases q with
              | nil =>
                go_wp2
                go_roundw
                case rel => exact ⟨k + 1, by omega, by go_num, step_more HN.out (by rw [stepS_eq hlt, ← HEq.out, HR.out, thoseTo_take _ _ _ hk, ← HQ.out]; simp [stepS_lt hk0 hk1 (HD.out ▸ HCm.out)]), hbx⟩
                case measure => simp [intOf]; omega
              | cons q0 q1 =>
                go_wp2
                go_ret
                exact ⟨ret_bool (validS_no hlt (by rw [stepS_eq hlt, ← HEq.out, thoseTo_take _ _ _ hk, ← HQ.out]; simp)).symm, hbx⟩
            · have CC := Lib.hid (fun x : Later W => compare_any x.w d e)
              have HCm := Lib.hid hcm
              refine wp_region_later (by kernel_rfl) (by kernel_rfl) ?_
              repeat (go_big_quiet_step ((first | (go_at_call 58; exact later_call (CR.out _)) | (go_at_call 59; exact later_call (CC.out _)))))
              refine wpQuiet_nil ?_
              rintro _ ⟨x, rfl⟩
              clear e1 e2 e3 e4 e5 hcm g0 g1 g2
              go_wp2
              go_ret
              exact ⟨ret_bool (validS_no hlt (by rw [stepS_eq hlt, ← HEq.out]; simp [stepS_ge hk0 hk1 (HD.out ▸ HCm.out)])).symm, hb1.trans (x.below.mono hb1.size)⟩
    · obtain rfl : k = l.length := by omega
      go_wp2
      go_ret
      exact ⟨ret_bool (validS_yes h100 HN.out).symm, hb⟩
end Go.Proofs.YthmnffgjckpkiaaGreatDoor
namespace Go.Proofs.YthmnffgjckpkiaaGreatDoor
open Go Go.RowKit

def thirdV (l : List UInt8) : List UInt8 := if plainS l then thirdS l else []
def thirdE (l : List UInt8) : Int := if plainS l then 0 else 2
theorem Third_any (W0 w : World) (ht : Tabs W0 w) (s : ByteArray) (hs : s.size ≤ 9223372036854775807) :
    Calls Tryz.prog 114 #[.string s] w fun e w' => e = .returned (.tuple #[.string ⟨(thirdV s.data.toList).toArray⟩, .int .i64 (thirdE s.data.toList)]) ∧ Below w.heap.size w w' := by
  cases hp : plainS s.data.toList
  · refine (Third_bad w s hs hp).mono ?_
    rintro e w' ⟨rfl, rfl⟩
    exact ⟨by simp [thirdV, thirdE, hp], Below.refl _ _⟩
  · have h := hp
    simp only [plainS, Bool.and_eq_true, decide_eq_true_eq] at h
    obtain ⟨⟨h1, h2⟩, _⟩ := h
    rw [len_size] at h1 h2
    refine (Third_good W0 w ht s hp h1 h2).mono ?_
    rintro e w' ⟨rfl, hb⟩
    exact ⟨by simp [thirdV, thirdE, hp], hb⟩

/-- Whether a token is the third form of a verb's entry; whether it is a form of an entry. -/
def isThird (tok : List UInt8) (e : Ent) : Bool := (e.cat == 4 || e.cat == 5) && (thirdE e.w == 0 && thirdV e.w == tok)
def formS (tok : List UInt8) (e : Ent) : Bool := e.w == tok || isThird tok e

set_option maxHeartbeats 1000000 in
theorem Look1_any (W0 w : World) (ht : Tabs W0 w) (e : Ent) (he : e.ok) (tok : ByteArray) (b : Nat) (hc : w.cell? ⟨b, 0, none⟩ = some (.string tok)) :
    Calls Tryz.prog 113 #[.agg #[.string e.word, .int .u8 e.cat, .string e.sym], .pointer (some ⟨b, 0, none⟩)] w fun r w' => r = .returned (.bool (isThird tok.data.toList e)) ∧ Below w.heap.size w w' := by
  obtain ⟨word, c, sym⟩ := e
  have hw : word.size ≤ 9223372036854775807 := by have := he.1; unfold maxLen at this; exact Nat.le_trans this (by omega)
  have hlt := cell_lt hc
  simp only [isThird, Ent.w] at hlt ⊢
  by_cases h4 : c = 4 ∨ c = 5
  · have hc1 : (c == 4 || c == 5) = true := by simpa using h4
    rw [hc1, Bool.true_and]
    clear hc1 he
    rcases h4 with rfl | rfl
    all_goals
      go_enter Tryz.func113, Tryz.ntmps113
      go_wp2_with (go_at_call 114; refine (Third_any W0 _ (ht.alloc _) word hw).mono ?_; rintro e w1 ⟨rfl, hb1⟩; obtain ⟨hc1, hf1⟩ := bcell hb1)
      all_goals
        go_ret
        refine ⟨ret_bool ?_, ((Below.refl _ _).alloc (Nat.le_refl _) _).trans (hb1.mono (by simp))⟩
        simp_all [ByteArray.toList_eq]
  · have hc1 : (c == 4 || c == 5) = false := by simpa using h4
    rw [hc1, Bool.false_and]
    have k4 : (c != 4) = true := by simp; omega
    have k5 : (c != 5) = true := by simp; omega
    clear hc1 he h4
    go_enter Tryz.func113, Tryz.ntmps113
    go_wp2
    go_ret
    exact ⟨rfl, (Below.refl _ _).alloc (Nat.le_refl _) _⟩

theorem Look2_any (W0 w : World) (ht : Tabs W0 w) (e : Ent) (he : e.ok) (tok : ByteArray) (b c : Nat) (hc : w.cell? ⟨b, 0, none⟩ = some (.string tok)) (hf : w.cell? ⟨c, 0, none⟩ = some (.func (.func 113) #[] #[.pointer (some ⟨b, 0, none⟩)])) :
    Calls Tryz.prog 115 #[.agg #[.string e.word, .int .u8 e.cat, .string e.sym], .pointer (some ⟨b, 0, none⟩), .pointer (some ⟨c, 0, none⟩)] w fun r w' => r = .returned (.bool (formS tok.data.toList e)) ∧ Below w.heap.size w w' := by
  have hb := cell_lt hc
  have hcl := cell_lt hf
  simp only at hb hcl
  have hfs : formS tok.data.toList e = (e.word.toList == tok.toList || isThird tok.data.toList e) := by simp [formS, Ent.w, ByteArray.toList_eq]
  rw [hfs]
  clear hfs
  cases hq : (e.word.toList == tok.toList)
  · go_enter Tryz.func115, Tryz.ntmps115
    go_wp2_with (go_at_call 113; refine (Look1_any W0 _ (ht.alloc _) e he tok b ?_).mono ?_)
    case refine_1 => exact cell_kept' ((Below.refl _ _).alloc (Nat.le_refl _) _) hc
    rintro r w1 ⟨rfl, hb1⟩
    go_wp2
    go_ret
    exact ⟨ret_bool (by simp), ((Below.refl _ _).alloc (Nat.le_refl _) _).trans (hb1.mono (by simp))⟩
  · go_enter Tryz.func115, Tryz.ntmps115
    go_wp2
    go_ret
    exact ⟨rfl, (Below.refl _ _).alloc (Nat.le_refl _) _⟩

/-- What 'Look' returns: the places, and whether it is the third form. -/
def formAt (tok : List UInt8) (l : List Ent) (i : Nat) : Nat × Bool := (i, match l[i]? with | some e => e.w != tok | none => false)
def lookS (tok : List UInt8) (l : List Ent) : List (Nat × Bool) := (thoseS (formS tok) l).map (formAt tok l)
def formCells (f : Nat × Bool) : List Value := [.int .i64 f.1, .bool f.2]
/-- The slice value v denotes the list of forms. -/
def FormSlice (w : World) (v : Value) (fs : List (Nat × Bool)) : Prop :=
  ∃ a cap, v = .slice a fs.length cap ∧ (fs = [] ∨ ∃ g, a = some ⟨g, 0, none⟩ ∧ ∀ j (h : j < fs.length), w.cell? ⟨g, j * 2, none⟩ = some (.int .i64 fs[j].1) ∧ w.cell? ⟨g, j * 2 + 1, none⟩ = some (.bool fs[j].2))
theorem FormSlice.below {w w' : World} {v : Value} {fs : List (Nat × Bool)} (h : FormSlice w v fs) (hb : Below w.heap.size w w') : FormSlice w' v fs := by
  obtain ⟨a, cap, hv, h⟩ := h
  refine ⟨a, cap, hv, ?_⟩
  rcases h with h | ⟨g, ha, hc⟩
  · exact .inl h
  · exact .inr ⟨g, ha, fun j hj => ⟨cell_kept' hb (hc j hj).1, cell_kept' hb (hc j hj).2⟩⟩
theorem flat2 (fs : List (Nat × Bool)) : ∀ j (h : j < fs.length), (fs.flatMap formCells)[j * 2]? = some (.int .i64 fs[j].1) ∧ (fs.flatMap formCells)[j * 2 + 1]? = some (.bool fs[j].2) := by
  induction fs with
  | nil => intro j h; simp at h
  | cons f fs ih =>
    intro j h
    cases j with
    | zero => simp [formCells]
    | succ j =>
      have := ih j (by simpa using h)
      simp only [List.flatMap_cons, formCells, List.cons_append, List.nil_append]
      rw [show (j + 1) * 2 = j * 2 + 1 + 1 by omega, show j * 2 + 1 + 1 + 1 = (j * 2 + 1) + 1 + 1 by omega]
      simpa using this
theorem formSlice_of_owns {w : World} {base : Nat} {v : Value} {fs : List (Nat × Bool)} {t : TypeId} (h : w.ownsRow base t 2 v fs.length (fs.flatMap formCells)) : FormSlice w v fs := by
  rcases h.2 with ⟨rfl, h0⟩ | ⟨g, cap, cur, rfl, hbg, hg, hnc, hcm, hcs, htake⟩
  · have : fs = [] := List.eq_nil_of_length_eq_zero h0
    subst this
    exact ⟨none, 0, rfl, .inl rfl⟩
  · refine ⟨_, cap, rfl, .inr ⟨g, rfl, fun j hj => ?_⟩⟩
    have hadd : ∀ j, (⟨g, 0, none⟩ : Addr).add j = ⟨g, j, none⟩ := fun j => by unfold Addr.add; split <;> simp_all
    have h0 := h.cells (g := g) rfl (j * 2) _ (flat2 fs j hj).1
    have h1 := h.cells (g := g) rfl (j * 2 + 1) _ (flat2 fs j hj).2
    rw [hadd] at h0 h1
    exact ⟨h0, h1⟩
theorem flat_len (fs : List (Nat × Bool)) : (fs.flatMap formCells).length = fs.length * 2 := by
  induction fs with
  | nil => rfl
  | cons f fs ih => simp [formCells, ih]; omega

theorem news_at {w : World} {B : Nat} {cs : Array Value} {t : TypeId} {fr : Nat × Nat} (hb : w.heap[B]? = some (.cells cs t fr)) : ∀ j u, cs.toList[j]? = some u → w.cell? ((⟨B, 0, none⟩ : Addr).add j) = some u := fun j u hu => by
  have hadd : (⟨B, 0, none⟩ : Addr).add j = ⟨B, j, none⟩ := by unfold Addr.add; split <;> simp_all
  rw [hadd, cell_of_row w B j cs t fr hb]
  simpa using hu
theorem ownsRow_drew {w : World} {base : Nat} {e : TypeId} {size : Nat} {v : Value} {n : Nat} {xs : List Value} (h : w.ownsRow base e size v n xs) : w.drew.ownsRow base e size v n xs := h
theorem heap_new_drew (w : World) (o : Obj) : (w.alloc o).drew.heap[w.heap.size]? = some o := heap_alloc_new w o
theorem look_held {w3 wr w4 : World} {o : Obj} {t : TypeId} {size : Nat} {v : Value} {n : Nat} {xs : List Value} (hb : Below w3.heap.size w3 wr) (hown : wr.ownsRow w3.heap.size t size v n xs) (hgrow : (wr.alloc o).drew.grownBy w4 v.ownBlock) : Below w3.heap.size w3 w4 :=
  ((hb.alloc hb.size _).drew).grown hgrow (by have := hb.size; simp; omega) (fun k hk => (hown.lt k hk).1)
theorem take_len {idx : List Nat} {k : Nat} (h : k ≤ idx.length) : (idx.take k).length = k := by rw [List.length_take]; omega
theorem formAt_eq {l : List Ent} {i : Nat} (tok : List UInt8) (h : i < l.length) : formAt tok l i = (i, l[i].w != tok) := by simp [formAt, List.getElem?_eq_getElem h]
theorem step_look (tok : List UInt8) (l : List Ent) (idx : List Nat) (k : Nat) (hlt : k < idx.length) (_h : idx[k] < l.length) :
    ((idx.take (k + 1)).map (formAt tok l)).flatMap formCells = ((idx.take k).map (formAt tok l)).flatMap formCells ++ formCells (formAt tok l idx[k]) := by
  rw [List.take_succ_eq_append_getElem hlt, List.map_append, List.flatMap_append]
  simp
theorem take_len_succ {idx : List Nat} {k : Nat} (h : k < idx.length) : (idx.take (k + 1)).length = (idx.take k).length + 1 := by
  rw [List.length_take, List.length_take]; omega
theorem ownsRow_zero {w : World} {base : Nat} {e : TypeId} {size : Nat} {v : Value} {n : Nat} {xs : List Value} (h : w.ownsRow base e size v n xs) : w.ownsRow 0 e size v n xs := by
  refine ⟨h.1, ?_⟩
  rcases h.2 with h2 | ⟨g, cap, cur, h1, _, h3⟩
  · exact .inl h2
  · exact .inr ⟨g, cap, cur, h1, Nat.zero_le _, h3⟩
theorem info_form : (Tryz.prog.info? 154).map (fun i => (i.zero, i.size, i.bytes)) = some (some (.agg #[.int .i64 0, .bool false]), 2, 16) := by kernel_rfl

theorem Look_bad (w : World) (v : Value) (tok : ByteArray)
    (hV : ∀ w', Below w.heap.size w w' → Calls Tryz.prog 37 #[v] w' fun r w'' => r = .returned (.bool false) ∧ Below w'.heap.size w' w'') :
    Calls Tryz.prog 76 #[v, .string tok] w fun r w' => r = .returned (.tuple #[.slice none 0 0, .int .i64 2]) ∧ Below w.heap.size w w' := by
  have HV := Lib.hid hV
  clear hV
  go_enter Tryz.func76, Tryz.ntmps76
  go_wp2_with (go_at_call 37; refine (HV.out _ ((Below.refl _ _).alloc (Nat.le_refl _) _)).mono ?_; rintro r w1 ⟨rfl, hb⟩)
  go_ret2
  exact ⟨rfl, ((Below.refl _ _).alloc (Nat.le_refl _) _).trans (hb.mono (by simp))⟩

set_option maxRecDepth 100000 in
set_option maxHeartbeats 4000000 in
theorem Look_owns (W0 w : World) (ht : Tabs W0 w) (v : Value) (l : List Ent) (hl : EntSlice w v l) (h100 : l.length ≤ 100) (hv : validS l = true) (tok : ByteArray) :
    Calls Tryz.prog 76 #[v, .string tok] w fun r w' => ∃ r', r = .returned (.tuple #[r', .int .i64 0]) ∧ w'.ownsRow 0 154 2 r' (lookS tok.data.toList l).length ((lookS tok.data.toList l).flatMap formCells) ∧ Below w.heap.size w w' := by
  obtain ⟨i0, hi, hz0, hz1, hz2⟩ := info_parts info_form
  have hl0 := Lib.hid hl
  have hV := Lib.hid (fun (w' : World) (hb : Below w.heap.size w w') => hv ▸ Valid_short W0 w' (ht.next hb) v l (hl.below hb) h100)
  clear hl
  go_enter Tryz.func76, Tryz.ntmps76
  go_wp2_with (go_at_call 37; refine (hV.out _ ((Below.refl _ _).alloc (Nat.le_refl _) _)).mono ?_; rintro r w1 ⟨rfl, hb1⟩)
  have hw1 : Below w.heap.size w w1 := ((Below.refl _ _).alloc (Nat.le_refl _) _).trans (hb1.mono (by simp))
  have ht1 := ht.next hw1
  have hs1 : w.heap.size + 1 ≤ w1.heap.size := by have := hb1.size; simpa using this
  have hcT : w1.cell? ⟨w.heap.size, 0, none⟩ = some (.string tok) := cell_kept' hb1 (by simp)
  have hes := hl0.out.below (hw1.trans ((Below.refl w1.heap.size w1).alloc (Nat.le_refl _) (.cells #[.func (.func 113) #[] #[.pointer (some ⟨w.heap.size, 0, none⟩)]] 98) |>.mono hw1.size))
  have hcF : (w1.alloc (.cells #[.func (.func 113) #[] #[.pointer (some ⟨w.heap.size, 0, none⟩)]] 98)).cell? ⟨w1.heap.size, 0, none⟩ = some (.func (.func 113) #[] #[.pointer (some ⟨w.heap.size, 0, none⟩)]) := by simp
  have hcT2 := cell_kept' ((Below.refl w1.heap.size w1).alloc (Nat.le_refl _) (.cells #[.func (.func 113) #[] #[.pointer (some ⟨w.heap.size, 0, none⟩)]] 98)) hcT
  have ht2 := ht1.alloc (.cells #[.func (.func 113) #[] #[.pointer (some ⟨w.heap.size, 0, none⟩)]] 98)
  have HT := those_any _ v l hes (by omega) 115 #[.pointer (some ⟨w.heap.size, 0, none⟩), .pointer (some ⟨w1.heap.size, 0, none⟩)] (formS tok.data.toList) (fun _ _ => by kernel_rfl)
    (fun w' e hw' he => Look2_any W0 w' (ht2.next hw') e (hl0.out.ok e he) tok w.heap.size w1.heap.size (cell_kept' hw' hcT2) (cell_kept' hw' hcF))
  refine HT.mono ?_
  rintro r w3 ⟨r', rfl, hidx, hb3⟩
  have hw3 : Below w.heap.size w w3 := (hw1.alloc hw1.size _).trans (hb3.mono (by have := hw1.size; simp; omega))
  have hcT3 := cell_kept' hb3 hcT2
  obtain ⟨a', cap', rfl, hidx'⟩ := hidx
  have hle : (thoseS (formS tok.data.toList) l).length ≤ 100 := Nat.le_trans (thoseTo_len _ _ _) h100
  obtain ⟨idx, hix⟩ : ∃ idx, idx = thoseS (formS tok.data.toList) l := ⟨_, rfl⟩
  have hmem : ∀ j (h : j < idx.length), idx[j] < l.length := fun j h => by
    have : idx[j] ∈ thoseS (formS tok.data.toList) l := hix ▸ List.getElem_mem h
    unfold thoseS thoseTo at this
    simpa using (List.mem_filter.1 this).1
  rw [← hix] at hidx' hle ⊢
  have HX := Lib.hid hix
  have HI := Lib.hid hidx'
  have HM := Lib.hid hmem
  clear hix hidx' hmem HT hes hcF hcT hcT2 hb3 hb1 hv
  go_wp2
  go_loopw [7, 18] (fun r i wr => ∃ k : Nat, k ≤ idx.length ∧ i = .int .i64 k ∧ wr.ownsRow w3.heap.size 154 2 r (idx.take k).length (((idx.take k).map (formAt tok.data.toList l)).flatMap formCells) ∧ Below w3.heap.size w3 wr) (fun _ i _ => idx.length - (intOf i).toNat)
  case atStart => exact ⟨0, Nat.zero_le _, rfl, World.ownsRow_nil _ _ _ _, Below.refl _ _⟩
  case round =>
    obtain ⟨k, hk, rfl, hown, hb⟩ := hrel
    have HOwn := Lib.hid hown
    clear hown
    by_cases hlt : k < idx.length
    · rcases HI.out with h0 | ⟨g, rfl, hcg⟩
      · rw [h0] at hlt; exact absurd hlt (by simp)
      · have hcg' := cell_kept' hb (hcg k hlt)
        have hil := HM.out k hlt
        obtain ⟨⟨a, cap, rfl, hcap, hcm, hform⟩, _⟩ := hl0.out
        rcases hform with h0 | ⟨b, off, rfl, hbl, hc⟩
        · rw [h0] at hil; exact absurd hil (by simp)
        · have c00 := cell_kept' hw3 (hc idx[k] hil).1
          have c0 := cell_kept' hb c00
          have cT := cell_kept' hb hcT3
          obtain ⟨i, hi'⟩ : ∃ i, i = idx[k] := ⟨_, rfl⟩
          obtain ⟨e, he⟩ : ∃ e, e = l[idx[k]] := ⟨_, rfl⟩
          rw [← he, ← hi'] at c0 c00
          have C1 := Lib.hid c00
          have C2 := Lib.hid hcT3
          clear c00 hcT3
          rw [← hi'] at hcg' hil
          have HIx := Lib.hid hi'
          have HE := Lib.hid he
          clear hi' he hc hcg
          go_wp2
          have hown0 := ownsRow_drew (HOwn.out.alloc (.cells #[.int .i64 i, .bool (!e.word.toList == tok.toList)] 154))
          have HOw := Lib.hid hown0
          clear hown0
          have htl := List.length_take_le k idx
          have hsz3 := hb.size
          go_region_held3 (fun w' => w'.cell? ⟨b, off + i * 3, none⟩ = some (.string e.word) ∧ w'.cell? ⟨w.heap.size, 0, none⟩ = some (.string tok))
            (first
              | go_keep
              | exact ⟨cell_kept' (look_held hb HOwn.out hgrow) C1.out, cell_kept' (look_held hb HOwn.out hgrow) C2.out⟩)
            ((refine step_append_lies _ (by rfl) _ _ _ (by rfl) w3.heap.size 154 i0 _ 2 16 Tryz.underlying117 hi hz0 hz1 hz2 rfl (by omega) _ _ _ (by rfl) HOw.out
                ⟨wr.heap.size, 0, none⟩ 1 1 [.int .i64 i, .bool (!e.word.toList == tok.toList)] (by rfl) (by rfl) (news_at (cs := #[.int .i64 i, .bool (!e.word.toList == tok.toList)]) (t := 154) (fr := (0, 0)) (heap_new_drew _ _)) (by simp [Value.oneCell'])
                (by omega) (by unfold maxLen; omega) (by omega) (by simp; omega) (wr.heap.size + 1) (by simp) ?_; intro gg cap4 w4 hown4 hgrow _ _))
          have hb4 := look_held hb HOwn.out hgrow
          have hs := step_look tok.data.toList l idx k hlt (HIx.out ▸ hil)
          have hcells : formCells (formAt tok.data.toList l idx[k]) = [.int .i64 i, .bool (!e.word.toList == tok.toList)] := by
            rw [formAt_eq _ (HIx.out ▸ hil), ← HE.out, ← HIx.out, ByteArray.toList_eq, ByteArray.toList_eq]; rfl
          rw [hcells] at hs
          have HS := Lib.hid hs
          clear hs hcells
          have HO4 := Lib.hid hown4
          clear hown4 hgrow
          go_wp2
          go_roundw
          case rel => exact ⟨k + 1, by omega, by go_num, by have e := HO4.out; rw [HS.out, take_len_succ hlt]; rw [take_len (Nat.le_of_lt hlt)] at e ⊢; exact e, hb4⟩
          case measure => simp [intOf]; omega
    · obtain rfl : k = idx.length := by omega
      go_wp2
      go_ret2
      have h1 := HOwn.out
      rw [List.take_length] at h1
      refine ⟨_, rfl, ?_, hw3.trans (hb.mono hw3.size)⟩
      have e : lookS tok.data.toList l = idx.map (formAt tok.data.toList l) := by rw [lookS, ← HX.out]
      rw [e]
      exact ownsRow_zero (by simpa using h1)
theorem Look_good (W0 w : World) (ht : Tabs W0 w) (v : Value) (l : List Ent) (hl : EntSlice w v l) (h100 : l.length ≤ 100) (hv : validS l = true) (tok : ByteArray) :
    Calls Tryz.prog 76 #[v, .string tok] w fun r w' => ∃ r', r = .returned (.tuple #[r', .int .i64 0]) ∧ FormSlice w' r' (lookS tok.data.toList l) ∧ Below w.heap.size w w' := by
  refine (Look_owns W0 w ht v l hl h100 hv tok).mono ?_
  rintro r w' ⟨r', rfl, h, hb⟩
  exact ⟨r', rfl, formSlice_of_owns h, hb⟩
end Go.Proofs.YthmnffgjckpkiaaGreatDoor
