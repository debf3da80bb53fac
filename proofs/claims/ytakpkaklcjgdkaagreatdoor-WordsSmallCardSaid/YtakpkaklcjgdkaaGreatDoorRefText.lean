/-
  Contract of the reference's 'Text': what the program's 'Text' returns.
-/
import Derived.Test.YtakpkaklcjgdkaaGreatDoorRefFn
import Derived.RegionTactic
import Derived.ChangeAlike
namespace Go.Proofs.YtakpkaklcjgdkaaGreatDoor
open Go Go.RowKit

def wordB (t : List UInt8) : Bool := t != [] && allLetter t
/-- Whether the reference rejects the tokens at place i. -/
def badT (l : List (List UInt8)) (i : Nat) : Bool :=
  (!wordB (l.getD i []) && ((l.getD i [] != [44] && l.getD i [] != [46]) || i == 0)) || ((l.getD i [] == [46]) != (i == l.length - 1)) || (i == 0 && (isFn (Lib.toLowerA (l.getD 0 [])) && !isFn (l.getD 0 [])))
theorem wordB_iff {t : List UInt8} : wordB t = true ↔ isWord t := by
  unfold wordB isWord
  rw [isL_all]
  simp
theorem word_dot {t : List UInt8} (h : wordB t = true) : t ≠ [44] ∧ t ≠ [46] := ⟨(word_ne (wordB_iff.1 h)).1, (word_ne (wordB_iff.1 h)).2.1⟩
theorem good_of {l : List (List UInt8)} (h : Sentence l) {i : Nat} (hi : i < l.length) : badT l i = false := by
  obtain ⟨t, ms, rfl, hw, hf, hm⟩ := h
  have hlen : (t :: ms ++ [[46]]).length = ms.length + 2 := by simp
  by_cases h0 : i = 0
  · subst h0
    have hd := word_ne hw
    have hfn : (isFn (Lib.toLowerA t) && !isFn t) = false := by
      rw [← lower_word hw]
      cases hF : isFn (Lib.toLowerD t)
      · rfl
      · have : firstS t = Lib.toLowerD t := by simp [firstS, hF]
        rw [hf] at this
        rw [this, Bool.true_and, ← this]
        have h2 : isFn t = true := by rw [this]; exact hF
        simp [h2]
    have e0 : (t :: ms ++ [[46]]).getD 0 [] = t := rfl
    unfold badT
    rw [e0, hlen, hfn, wordB_iff.2 hw]
    have : (t == [46]) = false := by simpa using hd.2.1
    rw [this]; simp
  · by_cases hl : i = ms.length + 1
    · subst hl
      have e : (t :: ms ++ [[46]]).getD (ms.length + 1) [] = [46] := by simp [List.getD_eq_getElem?_getD]
      unfold badT
      rw [e, hlen]
      have : (ms.length + 1 == 0) = false := by simp
      rw [this]
      simp
    · have hj : i - 1 < ms.length := by rw [hlen] at hi; omega
      obtain ⟨j, rfl⟩ : ∃ j, i = j + 1 := ⟨i - 1, by omega⟩
      have hj : j < ms.length := hj
      have e : (t :: ms ++ [[46]]).getD (j + 1) [] = ms[j] := by simp [List.getD_eq_getElem?_getD, List.getElem?_append_left hj, List.getElem?_eq_getElem hj]
      have hmid := hm _ (List.getElem_mem hj)
      unfold badT
      rw [e, hlen]
      have k0 : (j + 1 == 0) = false := by simp
      have k1 : (j + 1 == ms.length + 2 - 1) = false := by simp; omega
      rw [k0, k1]
      rcases hmid with hw' | hc
      · have := (word_ne hw').2.1
        rw [wordB_iff.2 hw']
        simp [this]
      · rw [hc]
        simp
theorem good_all {l : List (List UInt8)} (h0 : 0 < l.length) (h : ∀ i, i < l.length → badT l i = false) : Sentence l := by
  have dot : ∀ i, i < l.length → (l.getD i [] == [46]) = (i == l.length - 1) := by
    intro i hi
    have := h i hi
    simp only [badT, Bool.or_eq_false_iff] at this
    simpa using this.1.2
  have word : ∀ i, i < l.length → wordB (l.getD i []) = false → (l.getD i [] = [44] ∨ l.getD i [] = [46]) ∧ i ≠ 0 := by
    intro i hi hw
    have := h i hi
    simp only [badT, Bool.or_eq_false_iff, hw] at this
    have h1 := this.1.1
    simp only [Bool.not_false, Bool.true_and, Bool.or_eq_false_iff, Bool.and_eq_false_iff, bne_eq_false_iff_eq, beq_eq_false_iff_ne] at h1
    exact ⟨h1.1, h1.2⟩
  have hlast := dot (l.length - 1) (by omega)
  rw [beq_self_eq_true] at hlast
  have hlast := beq_iff_eq.1 hlast
  have h2 : l.length - 1 ≠ 0 := (word (l.length - 1) (by omega) (by rw [hlast]; decide)).2
  obtain ⟨init, last, rfl⟩ : ∃ init last, l = init ++ [last] := ⟨l.dropLast, l.getLast (by rintro rfl; exact absurd h0 (by decide)), (List.dropLast_concat_getLast _).symm⟩
  cases init with
  | nil => simp at h2
  | cons t ms =>
    have hlen : (t :: ms ++ [last]).length = ms.length + 2 := by simp
    have hlast : last = [46] := by simpa [List.getD_eq_getElem?_getD] using hlast
    subst hlast
    have e0 : (t :: ms ++ [[46]]).getD 0 [] = t := rfl
    have hw0 : wordB t = true := by
      cases hc : wordB t
      · exact absurd rfl (word 0 (by rw [hlen]; omega) (by rw [e0]; exact hc)).2
      · rfl
    refine ⟨t, ms, rfl, wordB_iff.1 hw0, ?_, ?_⟩
    · have := h 0 (by rw [hlen]; omega)
      simp only [badT, Bool.or_eq_false_iff, e0] at this
      have h3 := this.2
      rw [← lower_word (wordB_iff.1 hw0)] at h3
      simp at h3
      cases hF : isFn (Lib.toLowerD t)
      · simp [firstS, hF]
      · exact first_fn (h3 hF)
    · intro p hp
      obtain ⟨j, hj, rfl⟩ := List.getElem_of_mem hp
      have e : (t :: ms ++ [[46]]).getD (j + 1) [] = ms[j] := by simp [List.getD_eq_getElem?_getD, List.getElem?_append_left hj, List.getElem?_eq_getElem hj]
      cases hc : wordB ms[j]
      · have h3 := (word (j + 1) (by rw [hlen]; omega) (by rw [e]; exact hc)).1
        rw [e] at h3
        rcases h3 with h3 | h3
        · exact .inr h3
        · have h4 := dot (j + 1) (by rw [hlen]; omega)
          rw [e, h3, hlen] at h4
          simp at h4
          omega
      · exact .inl (wordB_iff.1 hc)
theorem toksS_bad {l : List (List UInt8)} {i : Nat} (hi : i < l.length) (hb : badT l i = true) : toksS l = false := by
  cases h : toksS l
  · rfl
  · rw [good_of (sentence_iff.1 h) hi] at hb; cases hb
theorem textS_bad {l : List (List UInt8)} {i : Nat} (hi : i < l.length) (hb : badT l i = true) : textS l = ([], 2) := by
  unfold textS; rw [toksS_bad hi hb]; rfl
theorem textS_none {l : List (List UInt8)} (h : l.length = 0) : textS l = ([], 2) := by
  have : l = [] := List.eq_nil_of_length_eq_zero h
  subst this; rfl
theorem textS_good {l : List (List UInt8)} (h0 : 0 < l.length) (h : ∀ i, i < l.length → badT l i = false) : textS l = if (bufTo l l.length).length ≤ 1000 then (bufTo l l.length, 0) else ([], 3) := textS_of (good_all h0 h)
theorem pieceX_len (i : Nat) (t : List UInt8) : (pieceX i t).length ≤ t.length + 1 := by
  unfold pieceX
  split
  · split
    · rename_i hf
      rw [List.length_append, (isFn_upper hf).2]; simp; omega
    · omega
  · split <;> simp
theorem bufTo_len {l : List (List UInt8)} (hs : ∀ t ∈ l, t.length ≤ 1000000) : ∀ k, (bufTo l k).length ≤ k * 1000001
  | 0 => by simp [bufTo]
  | k + 1 => by
    have ih := bufTo_len hs k
    have h1 := pieceX_len k (l.getD k [])
    have h2 : (l.getD k []).length ≤ 1000000 := by
      by_cases hk : k < l.length
      · rw [List.getD_eq_getElem?_getD, List.getElem?_eq_getElem hk]; exact hs _ (List.getElem_mem hk)
      · rw [List.getD_eq_getElem?_getD, List.getElem?_eq_none (by omega)]; simp
    rw [bufTo_succ, List.length_append]; omega
theorem fn_head {t : List UInt8} (h : isFn t = true) : Lib.toUpperD (t.take 1) = [UInt8.ofNat ((t.headD 0).toNat - 32)] ∧ 97 ≤ (t.headD 0).toNat ∧ (t.headD 0).toNat ≤ 122 := by
  have hm : t ∈ fnWords := by simpa [isFn] using h
  have e : ∀ u ∈ fnWords, Lib.toUpperD (u.take 1) = [UInt8.ofNat ((u.headD 0).toNat - 32)] ∧ 97 ≤ (u.headD 0).toNat ∧ (u.headD 0).toNat ≤ 122 := by decide
  exact e t hm
theorem good_more {l : List (List UInt8)} {k : Nat} (h : ∀ i, i < k → badT l i = false) (hk : badT l k = false) : ∀ i, i < k + 1 → badT l i = false := fun i hi => by
  rcases Nat.lt_succ_iff_lt_or_eq.1 hi with h' | rfl
  · exact h i h'
  · exact hk
theorem beqI_t {a b : Int} (h : a = b) : (a == b) = true := beq_iff_eq.2 h
theorem beqI_f {a b : Int} (h : a ≠ b) : (a == b) = false := beq_eq_false_iff_ne.2 h
theorem beqN_t {a b : Nat} (h : a = b) : (a == b) = true := beq_iff_eq.2 h
theorem beqN_f {a b : Nat} (h : a ≠ b) : (a == b) = false := beq_eq_false_iff_ne.2 h
theorem one_byte_drew (w : World) (n : Int) : (convert 69 9 (.slice (some ⟨w.heap.size, 0, none⟩) 1 1)).run Tryz.prog (w.alloc (.cells #[.int .u8 n] 5)).drew = .ok (.string ⟨#[UInt8.ofNat n.toNat]⟩) (w.alloc (.cells #[.int .u8 n] 5)).drew := by
  have h := run_convert_bytes_arg (P := Tryz.prog) (w.alloc (.cells #[.int .u8 n] 5)).drew 69 5 Tryz.underlying69 Tryz.underlying5 w.heap.size 0 1 1 [n] rfl (fun i hi => by
    obtain rfl : i = 0 := by omega
    simp) 9 Tryz.underlying9
  rw [h]
  simp [strOfNums]
theorem cut_tail (s : ByteArray) (n : Nat) : (s.extract n s.size).data.toList = s.data.toList.drop n := by
  simp [ByteArray.data_extract]
  exact List.take_of_length_le (by simp)
theorem sz32 (t : ByteArray) : ((⟨#[32]⟩ : ByteArray) ++ t).size = 1 + t.size := by rw [ByteArray.size_append]; rfl
/-- What the inner loop of the reference's 'Text' knows behind m bytes. -/
def wordTo (t : List UInt8) (m : Nat) : Bool := t != [] && (t.take m).all isL
theorem wordTo_succ (s : ByteArray) (m : Nat) (h : m < s.size) : wordTo s.data.toList (m + 1) = (wordTo s.data.toList m && isL s[m]) := by
  unfold wordTo
  rw [all_take_succ isL s m h, Bool.and_assoc]
theorem wordTo_all (s : ByteArray) : wordTo s.data.toList s.size = wordB s.data.toList := by
  unfold wordTo wordB
  rw [List.take_of_length_le (by simp), isL_all]

set_option maxRecDepth 100000 in
set_option maxHeartbeats 16000000 in
theorem rText_any (w : World) (v : Value) (l : List (List UInt8)) (hl : StrSlice w v l) (hn : l.length ≤ 1000000) (hs : ∀ t ∈ l, t.length ≤ 1000000) :
    Calls Tryz.prog 18 #[v] w fun r w' => r = .returned (.tuple #[.string ⟨(textS l).1.toArray⟩, .int .i64 (textS l).2]) ∧ Below w.heap.size w w' := by
  have hone := one_byte
  obtain ⟨T, E, hTE⟩ : ∃ T E, textS l = (T, E) := ⟨_, _, rfl⟩
  rw [hTE]
  have hT : ∀ {x : List UInt8 × Int}, textS l = x → (T, E) = x := fun h => hTE.symm.trans h
  have HT' : ∀ (x : List UInt8 × Int), textS l = x → Ending.returned (.tuple #[.string ⟨T.toArray⟩, .int .i64 E]) = .returned (.tuple #[.string ⟨x.1.toArray⟩, .int .i64 x.2]) := fun _ h => by rw [← hT h]
  have HT := Lib.hid HT'
  clear hT hTE HT'
  obtain ⟨a, cap, rfl, hcap, hcm, hl⟩ := hl
  have HL := Lib.hid hl
  have HS := Lib.hid hs
  have HBL := Lib.hid (bufTo_len hs)
  clear hl hs
  go_enter Tryz.func18, Tryz.ntmps18
  go_wp2
  go_loopw [4, 5] (fun o i wr => ∃ k : Nat, k ≤ l.length ∧ i = .int .i64 k ∧ o = .string ⟨(bufTo l k).toArray⟩ ∧ (∀ j, j < k → badT l j = false) ∧ Below w.heap.size w wr) (fun _ i _ => l.length - (intOf i).toNat)
  case atStart => exact ⟨0, Nat.zero_le _, rfl, by simp [bufTo], fun j hj => absurd hj (Nat.not_lt_zero j), Below.refl _ _⟩
  case round =>
    obtain ⟨k, hk, rfl, rfl, hgood, hb⟩ := hrel
    obtain ⟨o, ho⟩ : ∃ o, o = (⟨(bufTo l k).toArray⟩ : ByteArray) := ⟨_, rfl⟩
    have hos : o.size ≤ k * 1000001 := by rw [ho, bytes_size]; exact HBL.out k
    rw [← ho]
    have HO := Lib.hid ho
    have HG := Lib.hid hgood
    clear ho hgood
    by_cases hlt : k < l.length
    · rcases HL.out with h0 | ⟨b, off, rfl, hc⟩
      · rw [h0] at hlt; exact absurd hlt (by simp)
      · obtain ⟨t, htk⟩ : ∃ t, t = (⟨(l[k]'hlt).toArray⟩ : ByteArray) := ⟨_, rfl⟩
        obtain ⟨z, hz⟩ : ∃ z, z = (⟨(l[0]'(by omega)).toArray⟩ : ByteArray) := ⟨_, rfl⟩
        have c := hc k hlt
        have c0 := hc 0 (by omega)
        rw [← htk] at c
        rw [← hz] at c0
        rw [Nat.add_zero] at c0
        have c := cell_kept' hb c
        have c0 := cell_kept' hb c0
        have hgk : l.getD k [] = t.data.toList := by rw [htk]; simp [List.getD_eq_getElem?_getD]; rw [List.getElem?_eq_getElem (by omega)]; rfl
        have hg0 : l.getD 0 [] = z.data.toList := by rw [hz]; simp [List.getD_eq_getElem?_getD]; rw [List.getElem?_eq_getElem (by omega)]; rfl
        have hsk : t.size ≤ 1000000 := by rw [htk, bytes_size]; exact HS.out _ (List.getElem_mem hlt)
        have hs0 : z.size ≤ 1000000 := by rw [hz, bytes_size]; exact HS.out _ (List.getElem_mem _)
        have hzt : k = 0 → z = t := by intro h; subst h; rw [hz, htk]
        have HZ := Lib.hid hzt
        have htl := ByteArray.toList_eq t
        have HTl := Lib.hid htl
        have hbad : badT l k = ((!wordB t.data.toList && ((t.toList != [44] && t.toList != [46]) || k == 0)) || ((t.toList == [46]) != (k == l.length - 1)) || (k == 0 && (isFn (Lib.toLowerA z.data.toList) && !isFn z.data.toList))) := by
          unfold badT; rw [hgk, hg0, htl]
        have HB := Lib.hid hbad
        have HGk := Lib.hid hgk
        have hempty : t.data.toList ≠ [] ↔ 0 < t.size := by rw [← List.length_pos_iff, len_data]
        have HEm := Lib.hid hempty
        clear htk hz hc hgk hg0 hzt htl hbad hempty
        go_wp2
        go_loop [6, 7] (fun wd m => ∃ j : Nat, j ≤ t.size ∧ m = .int .i64 j ∧ wd = .bool (wordTo t.data.toList j)) (fun _ m => t.size - (intOf m).toNat)
        case atStart => exact ⟨0, Nat.zero_le _, rfl, by
          have := HEm.out
          unfold wordTo
          by_cases hp : 0 < t.size
          · simp [hp, this.2 hp]
          · have : t.data.toList = [] := by
              apply Classical.byContradiction
              intro h; exact hp (this.1 h)
            simp [hp, this]⟩
        case round =>
          obtain ⟨j, hj, rfl, rfl⟩ := hrel
          by_cases hjt : j < t.size
          · have hws := wordTo_succ t j hjt
            have HW := Lib.hid hws
            clear hws
            go_wp2_with (go_at_call 47; refine (rletter_any _ _).mono ?_; rintro e w' ⟨rfl, rfl⟩)
            · have hp : (!letterI ↑t[j].toNat) = true := by assumption
              go_round
              case rel => exact ⟨j + 1, by omega, by go_num, by rw [HW.out]; have : isL t[j] = false := by simpa [isL] using hp
                                                                rw [this]; simp⟩
              case measure => simp [intOf]; omega
            · have hp : (!letterI ↑t[j].toNat) = false := by assumption
              go_round
              case rel => exact ⟨j + 1, by omega, by go_num, by rw [HW.out]; have : isL t[j] = true := by simpa [isL] using hp
                                                                rw [this]; simp⟩
              case measure => simp [intOf]; omega
          · obtain rfl : j = t.size := by omega
            rw [wordTo_all]
            have hwd : wordB t.data.toList = true → (t.toList == [44]) = false ∧ (t.toList == [46]) = false := by
              intro h
              rw [HTl.out]
              have := word_dot h
              exact ⟨by simpa using this.1, by simpa using this.2⟩
            have hhd : wordB t.data.toList = true → isL (t.data.toList.headD 0) = true := fun h => (word_ne (wordB_iff.1 h)).2.2
            have HHd := Lib.hid hhd
            have CL := Lib.hid (fun w' => rlower_any z w' (by omega))
            have hF1 := fun w' => rFunction_any ⟨(Lib.toLowerA z.data.toList).toArray⟩ w'
            have hF2 := fun w' => rFunction_any z w'
            have hF3 := fun w' => rFunction_any t w'
            have hF3' := Lib.hid hF3
            obtain ⟨W, hW⟩ : ∃ W, W = wordB t.data.toList := ⟨_, rfl⟩
            rw [← hW] at hwd
            rw [← hW]
            have HW := Lib.hid hW
            have hE : IntKind.i64.wrap ((l.length : Int) - 1) = (l.length : Int) - 1 := IntWalk.i64_in _ (by omega)
            obtain ⟨f1, hf1⟩ : ∃ f, f = isFn (Lib.toLowerA z.data.toList) := ⟨_, rfl⟩
            obtain ⟨f2, hf2⟩ : ∃ f, f = isFn z.data.toList := ⟨_, rfl⟩
            rw [show isFn (⟨(Lib.toLowerA z.data.toList).toArray⟩ : ByteArray).data.toList = f1 from hf1.symm] at hF1
            rw [← hf2] at hF2
            have HBv : badT l k = ((!W && ((t.toList != [44] && t.toList != [46]) || k == 0)) || ((t.toList == [46]) != (k == l.length - 1)) || (k == 0 && (f1 && !f2))) := by rw [HB.out, hW, hf1, hf2]
            have HBv := Lib.hid HBv
            have HF2 := Lib.hid hf2
            have CF1 := Lib.hid hF1
            have CF2 := Lib.hid hF2
            clear hhd hF1 hF2 hF3 hW hf1 hf2
            obtain ⟨P, hP⟩ : ∃ P, (t.toList == [46]) = P := ⟨_, rfl⟩
            obtain ⟨C, hC⟩ : ∃ C, (t.toList == [44]) = C := ⟨_, rfl⟩
            have hPC : P = true → C = false := by
              intro h; rw [← hC, beq_iff_eq.1 (hP.trans h)]; rfl
            rw [hP, hC] at hwd
            have HPv := Lib.hid hP
            have HCv := Lib.hid hC

            cases W
            · cases P
              · cases C
                · skip
                  have hbt : badT l k = true := by rw [HBv.out, bne, bne, HPv.out, HCv.out]; simp
                  have HBt := Lib.hid hbt
                  clear hbt hwd hPC  
                  go_wp2_with fail
                  go_ret2
                  exact ⟨(HT.out _ (textS_bad hlt HBt.out)).symm, by first | exact hb | exact hbw⟩
                · by_cases hk0 : k = 0
                  · skip
                    have g0 : ((k : Int) == 0) = true := beqI_t (by omega)
                    have g0g : decide (0 < (k : Int)) = false := by simp; omega
                    have g0n : decide (0 < k) = false := by simp; omega
                    have q0 : (k == 0) = true := beqN_t (by omega)
                    have hbt : badT l k = true := by rw [HBv.out, bne, bne, HPv.out, HCv.out, q0]; simp
                    have HBt := Lib.hid hbt
                    clear hbt hwd hPC q0 hk0
                    go_wp2_with fail
                    go_ret2
                    exact ⟨(HT.out _ (textS_bad hlt HBt.out)).symm, by first | exact hb | exact hbw⟩
                  · by_cases hkn : k = l.length - 1
                    · skip
                      have g0 : ((k : Int) == 0) = false := beqI_f (by omega)
                      have g0g : decide (0 < (k : Int)) = true := by simp; omega
                      have g0n : decide (0 < k) = true := by simp; omega
                      have q0 : (k == 0) = false := beqN_f (by omega)
                      have gn : ((k : Int) == (l.length : Int) - 1) = true := beqI_t (by omega)
                      have qn : (k == l.length - 1) = true := beqN_t (by omega)
                      have hbt : badT l k = true := by rw [HBv.out, bne, bne, HPv.out, HCv.out, q0, qn]; simp
                      have HBt := Lib.hid hbt
                      clear hbt hwd hPC q0 qn hk0 hkn
                      go_wp2_with fail
                      go_ret2
                      exact ⟨(HT.out _ (textS_bad hlt HBt.out)).symm, by first | exact hb | exact hbw⟩
                    · skip
                      have g0 : ((k : Int) == 0) = false := beqI_f (by omega)
                      have g0g : decide (0 < (k : Int)) = true := by simp; omega
                      have g0n : decide (0 < k) = true := by simp; omega
                      have q0 : (k == 0) = false := beqN_f (by omega)
                      have gn : ((k : Int) == (l.length : Int) - 1) = false := beqI_f (by omega)
                      have qn : (k == l.length - 1) = false := beqN_f (by omega)
                      have hbf : badT l k = false := by rw [HBv.out, bne, bne, HPv.out, HCv.out, q0, qn]; simp
                      have HBf := Lib.hid hbf
                      have HPx := Lib.hid (show pieceX k (l.getD k []) = t.data.toList by rw [HGk.out, pieceX, if_neg hk0, ← HTl.out, beq_iff_eq.1 HCv.out]; rfl)
                      clear hbf hwd hPC q0 qn hk0 hkn
                      have hadd : ∀ w, (Op.stringOp .add o t).run Tryz.prog w = .ok (.string (o ++ t)) w := fun w => run_string_add_sum w _ _ (by omega)
                      go_wp2
                      go_roundw
                      case rel => exact ⟨k + 1, by omega, by go_num, by rw [bufTo_succ, HPx.out, HO.out]; apply congrArg Value.string; apply ByteArray.ext; simp [ByteArray.data_append], good_more HG.out HBf.out, hb⟩
                      case measure => simp [intOf]; omega
              · have hCf := hPC rfl
                subst hCf
                by_cases hk0 : k = 0
                · skip
                  have g0 : ((k : Int) == 0) = true := beqI_t (by omega)
                  have g0g : decide (0 < (k : Int)) = false := by simp; omega
                  have g0n : decide (0 < k) = false := by simp; omega
                  have q0 : (k == 0) = true := beqN_t (by omega)
                  have hbt : badT l k = true := by rw [HBv.out, bne, bne, HPv.out, HCv.out, q0]; simp
                  have HBt := Lib.hid hbt
                  clear hbt hwd hPC q0 hk0
                  go_wp2_with fail
                  go_ret2
                  exact ⟨(HT.out _ (textS_bad hlt HBt.out)).symm, by first | exact hb | exact hbw⟩
                · by_cases hkn : k = l.length - 1
                  · skip
                    have g0 : ((k : Int) == 0) = false := beqI_f (by omega)
                    have g0g : decide (0 < (k : Int)) = true := by simp; omega
                    have g0n : decide (0 < k) = true := by simp; omega
                    have q0 : (k == 0) = false := beqN_f (by omega)
                    have gn : ((k : Int) == (l.length : Int) - 1) = true := beqI_t (by omega)
                    have qn : (k == l.length - 1) = true := beqN_t (by omega)
                    have hbf : badT l k = false := by rw [HBv.out, bne, bne, HPv.out, HCv.out, q0, qn]; simp
                    have HBf := Lib.hid hbf
                    have HPx := Lib.hid (show pieceX k (l.getD k []) = t.data.toList by rw [HGk.out, pieceX, if_neg hk0, ← HTl.out, beq_iff_eq.1 HPv.out]; rfl)
                    clear hbf hwd hPC q0 qn hk0 hkn
                    have hadd : ∀ w, (Op.stringOp .add o t).run Tryz.prog w = .ok (.string (o ++ t)) w := fun w => run_string_add_sum w _ _ (by omega)
                    go_wp2
                    go_roundw
                    case rel => exact ⟨k + 1, by omega, by go_num, by rw [bufTo_succ, HPx.out, HO.out]; apply congrArg Value.string; apply ByteArray.ext; simp [ByteArray.data_append], good_more HG.out HBf.out, hb⟩
                    case measure => simp [intOf]; omega
                  · skip
                    have g0 : ((k : Int) == 0) = false := beqI_f (by omega)
                    have g0g : decide (0 < (k : Int)) = true := by simp; omega
                    have g0n : decide (0 < k) = true := by simp; omega
                    have q0 : (k == 0) = false := beqN_f (by omega)
                    have gn : ((k : Int) == (l.length : Int) - 1) = false := beqI_f (by omega)
                    have qn : (k == l.length - 1) = false := beqN_f (by omega)
                    have hbt : badT l k = true := by rw [HBv.out, bne, bne, HPv.out, HCv.out, q0, qn]; simp
                    have HBt := Lib.hid hbt
                    clear hbt hwd hPC q0 qn hk0 hkn
                    go_wp2_with fail
                    go_ret2
                    exact ⟨(HT.out _ (textS_bad hlt HBt.out)).symm, by first | exact hb | exact hbw⟩
            · obtain ⟨hCf, hPf⟩ := hwd rfl
              subst hCf hPf
              have hwd := True.intro
              by_cases hkn : k = l.length - 1
              · skip
                have gn : ((k : Int) == (l.length : Int) - 1) = true := beqI_t (by omega)
                have qn : (k == l.length - 1) = true := beqN_t (by omega)
                have hbt : badT l k = true := by rw [HBv.out, bne, bne, HPv.out, HCv.out, qn]; simp
                have HBt := Lib.hid hbt
                clear hbt hwd hPC qn hkn
                go_wp2_with fail
                go_ret2
                exact ⟨(HT.out _ (textS_bad hlt HBt.out)).symm, by first | exact hb | exact hbw⟩
              · by_cases hk0 : k = 0
                · cases f1
                  · cases f2
                    · skip
                      have hzt := HZ.out hk0
                      have CF3 := Lib.hid (fun w' => (by rw [← hzt]; exact CF2.out w' : Calls Tryz.prog 20 #[.string t] w' fun e w'' => e = .returned (.bool false) ∧ w' = w''))
                      have g0 : ((k : Int) == 0) = true := beqI_t (by omega)
                      have g0g : decide (0 < (k : Int)) = false := by simp; omega
                      have g0n : decide (0 < k) = false := by simp; omega
                      have q0 : (k == 0) = true := beqN_t (by omega)
                      have gn : ((k : Int) == (l.length : Int) - 1) = false := beqI_f (by omega)
                      have qn : (k == l.length - 1) = false := beqN_f (by omega)
                      have hbf : badT l k = false := by rw [HBv.out, bne, bne, HPv.out, HCv.out, q0, qn]; simp
                      have HBf := Lib.hid hbf
                      have HPx := Lib.hid (show pieceX k (l.getD k []) = t.data.toList by rw [HGk.out, pieceX, if_pos hk0, ← HZ.out hk0, ← HF2.out]; rfl)
                      clear hbf hwd hPC q0 qn hk0 hkn
                      clear hzt
                      have hadd : ∀ w, (Op.stringOp .add o t).run Tryz.prog w = .ok (.string (o ++ t)) w := fun w => run_string_add_sum w _ _ (by omega)
                      go_wp2_with fail
                      refine (CL.out _).mono ?_
                      rintro e wl ⟨rfl, hbl⟩
                      have cx := cell_kept' hbl c
                      have c0x := cell_kept' hbl c0
                      have hbw := hb.trans (hbl.mono hb.size)
                      go_wp2_with fail
                      refine (CF1.out _).mono ?_
                      rintro e w' ⟨rfl, rfl⟩
                      go_wp2_with fail
                      refine (CF3.out _).mono ?_
                      rintro e w' ⟨rfl, rfl⟩
                      go_wp2
                      go_roundw
                      case rel => exact ⟨k + 1, by omega, by go_num, by rw [bufTo_succ, HPx.out, HO.out]; apply congrArg Value.string; apply ByteArray.ext; simp [ByteArray.data_append], good_more HG.out HBf.out, hbw⟩
                      case measure => simp [intOf]; omega
                    · skip
                      have hzt := HZ.out hk0
                      have CF3 := Lib.hid (fun w' => (by rw [← hzt]; exact CF2.out w' : Calls Tryz.prog 20 #[.string t] w' fun e w'' => e = .returned (.bool true) ∧ w' = w''))
                      have hfh := fn_head (hzt ▸ HF2.out.symm : isFn t.data.toList = true)
                      have htp : 0 < t.size := by have := (isFn_upper (hzt ▸ HF2.out.symm : isFn t.data.toList = true)).1; rw [len_data] at this; exact this
                      have g0 : ((k : Int) == 0) = true := beqI_t (by omega)
                      have g0g : decide (0 < (k : Int)) = false := by simp; omega
                      have g0n : decide (0 < k) = false := by simp; omega
                      have q0 : (k == 0) = true := beqN_t (by omega)
                      have gn : ((k : Int) == (l.length : Int) - 1) = false := beqI_f (by omega)
                      have qn : (k == l.length - 1) = false := beqN_f (by omega)
                      have hbf : badT l k = false := by rw [HBv.out, bne, bne, HPv.out, HCv.out, q0, qn]; simp
                      have HBf := Lib.hid hbf
                      have HPx := Lib.hid (show pieceX k (l.getD k []) = [UInt8.ofNat ((t.data.toList.headD 0).toNat - 32)] ++ t.data.toList.drop 1 by rw [HGk.out, pieceX, if_pos hk0, ← HZ.out hk0, ← HF2.out, (fn_head HF2.out.symm).1]; rfl)
                      clear hbf hwd hPC q0 qn hk0 hkn
                      clear hzt
                      rw [headD_get htp] at hfh
                      obtain ⟨_, hh1, hh2⟩ := hfh
                      have HPx2 := HPx.out
                      rw [headD_get htp] at HPx2
                      clear HPx
                      have HPx := Lib.hid HPx2
                      clear HPx2
                      go_wp2_with fail
                      refine (CL.out _).mono ?_
                      rintro e wl ⟨rfl, hbl⟩
                      have cx := cell_kept' hbl c
                      have c0x := cell_kept' hbl c0
                      have hbw := hb.trans (hbl.mono hb.size)
                      go_wp2_with fail
                      refine (CF1.out _).mono ?_
                      rintro e w' ⟨rfl, rfl⟩
                      go_wp2_with fail
                      refine (CF3.out _).mono ?_
                      rintro e w' ⟨rfl, rfl⟩
                      go_wp2
                      have hadd2 : ∀ (cc : UInt8) w, (Op.stringOp .add ⟨#[cc]⟩ (t.extract 1 t.size)).run Tryz.prog w = .ok (.string ((⟨#[cc]⟩ : ByteArray) ++ t.extract 1 t.size)) w := fun cc w => run_string_add_sum w _ _ (by have h1 : (⟨#[cc]⟩ : ByteArray).size = 1 := rfl; simp; omega)
                      have i1 : (1 : Int) ≤ t.size := by omega
                      have hone2 := one_byte_drew
                      go_region
                      obtain ⟨t2, ht2⟩ : ∃ t2, t2 = (⟨#[UInt8.ofNat (t[0].toNat - 32)]⟩ : ByteArray) ++ t.extract 1 t.size := ⟨_, rfl⟩
                      have hd2 : t2.data.toList = [UInt8.ofNat (t[0].toNat - 32)] ++ t.data.toList.drop 1 := by rw [ht2, ByteArray.data_append, Array.toList_append, cut_tail]
                      have hz2 : t2.size ≤ 1000001 := by rw [← len_data, hd2]; simp; omega
                      rw [← ht2]
                      have HD2 := Lib.hid hd2
                      clear hd2 ht2 hadd2 hone2 i1
                      have hadd : ∀ w, (Op.stringOp .add o t2).run Tryz.prog w = .ok (.string (o ++ t2)) w := fun w => run_string_add_sum w _ _ (by omega)
                      go_wp2
                      go_roundw
                      case rel => exact ⟨k + 1, by omega, by go_num, by rw [bufTo_succ, HPx.out, HO.out, ← HD2.out]; apply congrArg Value.string; apply ByteArray.ext; simp [ByteArray.data_append], good_more HG.out HBf.out, (hbw.alloc hbw.size _).drew⟩
                      case measure => simp [intOf]; omega
                  · cases f2
                    · skip
                      have g0 : ((k : Int) == 0) = true := beqI_t (by omega)
                      have g0g : decide (0 < (k : Int)) = false := by simp; omega
                      have g0n : decide (0 < k) = false := by simp; omega
                      have q0 : (k == 0) = true := beqN_t (by omega)
                      have gn : ((k : Int) == (l.length : Int) - 1) = false := beqI_f (by omega)
                      have qn : (k == l.length - 1) = false := beqN_f (by omega)
                      have hbt : badT l k = true := by rw [HBv.out, bne, bne, HPv.out, HCv.out, q0, qn]; simp
                      have HBt := Lib.hid hbt
                      clear hbt hwd hPC q0 qn hk0 hkn
                      go_wp2_with fail
                      refine (CL.out _).mono ?_
                      rintro e wl ⟨rfl, hbl⟩
                      have cx := cell_kept' hbl c
                      have c0x := cell_kept' hbl c0
                      have hbw := hb.trans (hbl.mono hb.size)
                      go_wp2_with fail
                      refine (CF1.out _).mono ?_
                      rintro e w' ⟨rfl, rfl⟩
                      go_wp2_with fail
                      refine (CF2.out _).mono ?_
                      rintro e w' ⟨rfl, rfl⟩
                      go_wp2_with fail
                      go_ret2
                      exact ⟨(HT.out _ (textS_bad hlt HBt.out)).symm, by first | exact hb | exact hbw⟩
                    · skip
                      have hzt := HZ.out hk0
                      have CF3 := Lib.hid (fun w' => (by rw [← hzt]; exact CF2.out w' : Calls Tryz.prog 20 #[.string t] w' fun e w'' => e = .returned (.bool true) ∧ w' = w''))
                      have hfh := fn_head (hzt ▸ HF2.out.symm : isFn t.data.toList = true)
                      have htp : 0 < t.size := by have := (isFn_upper (hzt ▸ HF2.out.symm : isFn t.data.toList = true)).1; rw [len_data] at this; exact this
                      have g0 : ((k : Int) == 0) = true := beqI_t (by omega)
                      have g0g : decide (0 < (k : Int)) = false := by simp; omega
                      have g0n : decide (0 < k) = false := by simp; omega
                      have q0 : (k == 0) = true := beqN_t (by omega)
                      have gn : ((k : Int) == (l.length : Int) - 1) = false := beqI_f (by omega)
                      have qn : (k == l.length - 1) = false := beqN_f (by omega)
                      have hbf : badT l k = false := by rw [HBv.out, bne, bne, HPv.out, HCv.out, q0, qn]; simp
                      have HBf := Lib.hid hbf
                      have HPx := Lib.hid (show pieceX k (l.getD k []) = [UInt8.ofNat ((t.data.toList.headD 0).toNat - 32)] ++ t.data.toList.drop 1 by rw [HGk.out, pieceX, if_pos hk0, ← HZ.out hk0, ← HF2.out, (fn_head HF2.out.symm).1]; rfl)
                      clear hbf hwd hPC q0 qn hk0 hkn
                      clear hzt
                      rw [headD_get htp] at hfh
                      obtain ⟨_, hh1, hh2⟩ := hfh
                      have HPx2 := HPx.out
                      rw [headD_get htp] at HPx2
                      clear HPx
                      have HPx := Lib.hid HPx2
                      clear HPx2
                      go_wp2_with fail
                      refine (CL.out _).mono ?_
                      rintro e wl ⟨rfl, hbl⟩
                      have cx := cell_kept' hbl c
                      have c0x := cell_kept' hbl c0
                      have hbw := hb.trans (hbl.mono hb.size)
                      go_wp2_with fail
                      refine (CF1.out _).mono ?_
                      rintro e w' ⟨rfl, rfl⟩
                      go_wp2_with fail
                      refine (CF2.out _).mono ?_
                      rintro e w' ⟨rfl, rfl⟩
                      go_wp2_with fail
                      refine (CF3.out _).mono ?_
                      rintro e w' ⟨rfl, rfl⟩
                      go_wp2
                      have hadd2 : ∀ (cc : UInt8) w, (Op.stringOp .add ⟨#[cc]⟩ (t.extract 1 t.size)).run Tryz.prog w = .ok (.string ((⟨#[cc]⟩ : ByteArray) ++ t.extract 1 t.size)) w := fun cc w => run_string_add_sum w _ _ (by have h1 : (⟨#[cc]⟩ : ByteArray).size = 1 := rfl; simp; omega)
                      have i1 : (1 : Int) ≤ t.size := by omega
                      have hone2 := one_byte_drew
                      go_region
                      obtain ⟨t2, ht2⟩ : ∃ t2, t2 = (⟨#[UInt8.ofNat (t[0].toNat - 32)]⟩ : ByteArray) ++ t.extract 1 t.size := ⟨_, rfl⟩
                      have hd2 : t2.data.toList = [UInt8.ofNat (t[0].toNat - 32)] ++ t.data.toList.drop 1 := by rw [ht2, ByteArray.data_append, Array.toList_append, cut_tail]
                      have hz2 : t2.size ≤ 1000001 := by rw [← len_data, hd2]; simp; omega
                      rw [← ht2]
                      have HD2 := Lib.hid hd2
                      clear hd2 ht2 hadd2 hone2 i1
                      have hadd : ∀ w, (Op.stringOp .add o t2).run Tryz.prog w = .ok (.string (o ++ t2)) w := fun w => run_string_add_sum w _ _ (by omega)
                      go_wp2
                      go_roundw
                      case rel => exact ⟨k + 1, by omega, by go_num, by rw [bufTo_succ, HPx.out, HO.out, ← HD2.out]; apply congrArg Value.string; apply ByteArray.ext; simp [ByteArray.data_append], good_more HG.out HBf.out, (hbw.alloc hbw.size _).drew⟩
                      case measure => simp [intOf]; omega
                · skip
                  have g0 : ((k : Int) == 0) = false := beqI_f (by omega)
                  have g0g : decide (0 < (k : Int)) = true := by simp; omega
                  have g0n : decide (0 < k) = true := by simp; omega
                  have q0 : (k == 0) = false := beqN_f (by omega)
                  have gn : ((k : Int) == (l.length : Int) - 1) = false := beqI_f (by omega)
                  have qn : (k == l.length - 1) = false := beqN_f (by omega)
                  have hbf : badT l k = false := by rw [HBv.out, bne, bne, HPv.out, HCv.out, q0, qn]; simp
                  have HBf := Lib.hid hbf
                  have HPx := Lib.hid (show pieceX k (l.getD k []) = 32 :: t.data.toList by rw [HGk.out, pieceX, if_neg hk0, if_pos (HHd.out HW.out.symm)])
                  clear hbf hwd hPC q0 qn hk0 hkn
                  have hsp : ∀ w, (Op.stringOp .add ⟨#[32]⟩ t).run Tryz.prog w = .ok (.string ((⟨#[32]⟩ : ByteArray) ++ t)) w := fun w => run_string_add_sum w _ _ (by have h1 : (⟨#[32]⟩ : ByteArray).size = 1 := rfl; omega)
                  have hadd : ∀ w, (Op.stringOp .add o ((⟨#[32]⟩ : ByteArray) ++ t)).run Tryz.prog w = .ok (.string (o ++ ((⟨#[32]⟩ : ByteArray) ++ t))) w := fun w => run_string_add_sum w _ _ (by rw [sz32]; omega)
                  go_wp2
                  go_roundw
                  case rel => exact ⟨k + 1, by omega, by go_num, by rw [bufTo_succ, HPx.out, HO.out]; apply congrArg Value.string; apply ByteArray.ext; simp [ByteArray.data_append], good_more HG.out HBf.out, hb⟩
                  case measure => simp [intOf]; omega
    · obtain rfl : k = l.length := by omega
      by_cases h0 : l.length = 0
      · have HT0 := Lib.hid (HT.out _ (textS_none h0))
        have g0 : ((l.length : Int) == 0) = true := beqI_t (by omega)
        clear h0
        go_wp2
        go_ret2
        exact ⟨HT0.out.symm, hb⟩
      · have HT0 := Lib.hid (HT.out _ (textS_good (by omega) HG.out))
        have g0 : ((l.length : Int) == 0) = false := beqI_f (by omega)
        have hol : o.size = (bufTo l l.length).length := by rw [HO.out, bytes_size]
        have HOl := Lib.hid hol
        clear h0 hol
        by_cases h1 : o.size ≤ 1000
        · go_wp2
          go_ret2
          have HT1 := HT0.out
          rw [if_pos (by rw [← HOl.out]; exact h1), ← HO.out] at HT1
          exact ⟨HT1.symm, hb⟩
        · go_wp2
          go_ret2
          have HT1 := HT0.out
          rw [if_neg (by rw [← HOl.out]; exact h1)] at HT1
          exact ⟨HT1.symm, hb⟩
end Go.Proofs.YtakpkaklcjgdkaaGreatDoor
