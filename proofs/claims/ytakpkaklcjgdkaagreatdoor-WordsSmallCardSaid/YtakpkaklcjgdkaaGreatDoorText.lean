/-
  Contract of 'Text' of package words.
-/
import Derived.Test.YtakpkaklcjgdkaaGreatDoorToks
namespace Go.Proofs.YtakpkaklcjgdkaaGreatDoor
open Go Go.RowKit

/-- What the token at place i adds to the text. -/
def pieceX (i : Nat) (t : List UInt8) : List UInt8 :=
  if i = 0 then (if isFn t then Lib.toUpperD (t.take 1) ++ t.drop 1 else t) else (if isL (t.headD 0) then 32 :: t else t)
def bufTo (l : List (List UInt8)) (k : Nat) : List UInt8 := (List.range k).flatMap fun i => pieceX i (l.getD i [])
theorem bufTo_succ (l : List (List UInt8)) (k : Nat) : bufTo l (k + 1) = bufTo l k ++ pieceX k (l.getD k []) := by
  simp [bufTo, List.range_succ]
theorem bufTo_mono (l : List (List UInt8)) (k j : Nat) : (bufTo l k).length ≤ (bufTo l (k + j)).length := by
  induction j with
  | zero => exact Nat.le_refl _
  | succ j ih => rw [← Nat.add_assoc, bufTo_succ, List.length_append]; omega
/-- What 'Text' returns. -/
def textS (l : List (List UInt8)) : List UInt8 × Int :=
  if toksS l then (if (bufTo l l.length).length ≤ 1000 then (bufTo l l.length, 0) else ([], 3)) else ([], 2)

theorem isFn_upper {t : List UInt8} (h : isFn t = true) : 0 < t.length ∧ (Lib.toUpperD (t.take 1)).length = 1 := by
  have hm : t ∈ fnWords := by simpa [isFn] using h
  have ha : ∀ b ∈ t.take 1, b.toNat < 128 := by
    have : ∀ u ∈ fnWords, ∀ b ∈ u.take 1, b.toNat < 128 := by decide
    exact this t hm
  rw [Lib.toUpperD_ascii _ ha]
  have hl : 0 < t.length := by
    have : ∀ u ∈ fnWords, 0 < u.length := by decide
    exact this t hm
  refine ⟨hl, ?_⟩
  have : ∀ u ∈ fnWords, (Lib.toUpperA (u.take 1)).length = 1 := by decide
  exact this t hm

theorem builderF_below {T e : TypeId} {B b : Nat} {bs : List Value} {w w' : World} (h : Lib.IsBuilderF T e B b bs w) (hb : Below w.heap.size w w') : Lib.IsBuilderF T e B b bs w' := by
  have one : ∀ {p}, Lib.BuilderAtF T e B b p bs w → Lib.BuilderAtF T e B b p bs w' := by
    rintro p h
    have hlt := h.lt
    obtain ⟨hB, v, hk, hown, hne⟩ := h
    exact ⟨hB, v, (hb.block b hlt).trans hk, hown.kept (row := none) (grownBy_of_below hb) (by cases hv : v.ownBlock <;> simp), hne⟩
  exact h.elim (fun x => .inl (one x)) (fun x => .inr (one x))

theorem toks_pos {l : List (List UInt8)} (h : toksS l = true) {k : Nat} (hk : k < l.length) : 0 < (l.getD k []).length := by
  simp only [toksS, Bool.and_eq_true, beq_iff_eq, decide_eq_true_eq] at h
  obtain ⟨_, hl, _, ht⟩ := h
  by_cases hn : k = l.length - 1
  · subst hn; rw [hl]; simp
  · have := List.all_eq_true.1 ht k (by simp; omega)
    cases hg : l.getD k [] with
    | nil => rw [hg] at this; simp [tokOk] at this
    | cons a b => simp

theorem len_any (B b : Nat) (l : List UInt8) (w : World) (h : Lib.IsBuilderF 82 5 B b (Lib.byteCells l) w) (m : Nat) (hm : m = l.length) :
    Calls Tryz.prog 51 #[.pointer (some ⟨b, 0, none⟩)] w fun e w' => e = .returned (.int .i64 m) ∧ w' = w := by
  refine (Tryz.Builder_Len_f B b _ w h).mono ?_
  rintro e w' ⟨rfl, rfl⟩
  exact ⟨by rw [Lib.byteCells_length, hm], rfl⟩

theorem write_any (B b : Nat) (l l' : List UInt8) (t : ByteArray) (w : World) (h : Lib.IsBuilderF 82 5 B b (Lib.byteCells l) w) (hlen : l.length + t.size ≤ 140737488355328) (hBw : B ≤ w.heap.size) (hl : l' = l ++ t.data.toList) :
    Calls Tryz.prog 53 #[.pointer (some ⟨b, 0, none⟩), .string t] w fun e w' => e = .returned (.tuple #[.int .i64 t.size, .nilIface]) ∧ Lib.IsBuilderF 82 5 B b (Lib.byteCells l') w' ∧ Below B w w' := by
  subst hl
  refine (Tryz.Builder_WriteString_w B b _ t w h (by rw [Lib.byteCells_length]; exact hlen) hBw).mono ?_
  rintro e w' ⟨rfl, hib, hb, _⟩
  refine ⟨rfl, .inr ?_, hb⟩
  have e : Lib.byteCells (l ++ t.data.toList) = Lib.byteCells l ++ Lib.strCells t := by rw [Lib.strCells_eq]; simp [Lib.byteCells]
  rw [e]
  exact hib
theorem writeByte_any (B b : Nat) (l : List UInt8) (w : World) (h : Lib.IsBuilderF 82 5 B b (Lib.byteCells l) w) (hlen : l.length + 1 ≤ 140737488355328) (hBw : B ≤ w.heap.size) :
    Calls Tryz.prog 50 #[.pointer (some ⟨b, 0, none⟩), .int .u8 32] w fun e w' => e = .returned .nilIface ∧ Lib.IsBuilderF 82 5 B b (Lib.byteCells (l ++ [32])) w' ∧ Below B w w' := by
  refine (Tryz.Builder_WriteByte_w B b _ 32 w h (by rw [Lib.byteCells_length]; exact hlen) hBw).mono ?_
  rintro e w' ⟨rfl, hib, hb, _⟩
  refine ⟨rfl, .inr ?_, hb⟩
  have e : Lib.byteCells (l ++ [32]) = Lib.byteCells l ++ [.int .u8 32] := by simp [Lib.byteCells]
  rw [e]
  exact hib

theorem Text_bad (W0 w : World) (ht : Tabs W0 w) (v : Value) (l : List (List UInt8)) (hl : StrSlice w v l) (hn : l.length ≤ 1000000) (hs : ∀ t ∈ l, t.length ≤ 1000000) (hT : toksS l = false) :
    Calls Tryz.prog 17 #[v] w fun e w' => e = .returned (.tuple #[.string ⟨#[]⟩, .int .i64 2]) ∧ Below w.heap.size w w' := by
  have H := Lib.hid (hT ▸ toks_any W0 w ht v l hl hn hs)
  clear hT
  go_enter Tryz.func17, Tryz.ntmps17
  go_wp2_with (go_at_call 49; refine H.out.mono ?_; rintro r w1 ⟨rfl, hb⟩)
  go_ret2
  exact ⟨rfl, hb⟩

set_option maxRecDepth 100000 in
set_option maxHeartbeats 4000000 in
theorem Text_good (W0 w : World) (ht : Tabs W0 w) (v : Value) (l : List (List UInt8)) (hl : StrSlice w v l) (hn : l.length ≤ 1000000) (hs : ∀ t ∈ l, t.length ≤ 1000000) (hT : toksS l = true) :
    Calls Tryz.prog 17 #[v] w fun e w' => e = .returned (.tuple #[.string ⟨(textS l).1.toArray⟩, .int .i64 (textS l).2]) ∧ Below w.heap.size w w' := by
  have hX : textS l = if (bufTo l l.length).length ≤ 1000 then (bufTo l l.length, 0) else ([], 3) := by simp [textS, hT]
  have H := Lib.hid (hT ▸ toks_any W0 w ht v l hl hn hs)
  have h2 : 2 ≤ l.length := by simp [toksS] at hT; exact hT.1
  have HT := Lib.hid hT
  clear hT
  obtain ⟨a, cap, rfl, hcap, hcm, hl⟩ := hl
  rcases hl with rfl | ⟨b, off, rfl, hc⟩
  · simp at h2
  have HC := Lib.hid hc
  have HS := Lib.hid hs
  have HX := Lib.hid hX
  clear hc hs hX
  go_enter Tryz.func17, Tryz.ntmps17
  go_wp2_with (go_at_call 49; refine H.out.mono ?_; rintro r w1 ⟨rfl, hb1⟩)
  have hB0 : Lib.IsBuilderF 82 5 w1.heap.size w1.heap.size (Lib.byteCells (bufTo l 0)) (w1.alloc (.cells #[.pointer none, .slice none 0 0] 82)) := Lib.IsBuilderF.of (Lib.fresh_isBuilder _ _ w1)
  have HB0 := Lib.hid hB0
  clear hB0
  go_loopw [12] (fun i wr => ∃ k : Nat, k ≤ l.length ∧ i = .int .i64 k ∧ (bufTo l k).length ≤ 1000 ∧ Lib.IsBuilderF 82 5 w1.heap.size w1.heap.size (Lib.byteCells (bufTo l k)) wr ∧ Below w1.heap.size w1 wr ∧ w1.heap.size < wr.heap.size) (fun i _ => l.length - (intOf i).toNat)
  case atStart => exact ⟨0, Nat.zero_le _, rfl, by simp [bufTo], HB0.out, (Below.refl _ _).alloc (Nat.le_refl _) _, by simp⟩
  case round =>
    obtain ⟨k, hk, rfl, hlen, hib, hb, hsz⟩ := hrel
    have HIB := Lib.hid hib
    clear hib
    by_cases hlt : k < l.length
    · obtain ⟨t, htk⟩ : ∃ t, t = (⟨(l[k]'hlt).toArray⟩ : ByteArray) := ⟨_, rfl⟩
      have hck := HC.out k hlt
      rw [← htk] at hck
      have hck1 := cell_kept' hb1 hck
      have hck' := cell_kept' hb hck1
      have hgk : l.getD k [] = t.data.toList := by rw [htk]; simp [List.getD_eq_getElem?_getD]; rw [List.getElem?_eq_getElem (by omega)]; rfl
      have hsk : t.size ≤ 1000000 := by rw [htk, bytes_size]; exact HS.out _ (List.getElem_mem hlt)
      have hpos : 0 < t.size := by
        have := toks_pos HT.out hlt
        rw [hgk] at this
        simpa using this
      clear hck hck1 htk
      have hlt0 := ((ht.next hb1).next hb)
      obtain ⟨m, hm⟩ : ∃ m, m = (bufTo l k).length := ⟨_, rfl⟩
      have hm1 : m ≤ 1000 := by omega
      have HM := Lib.hid hm
      by_cases hk0 : k = 0
      · have g1 : decide (0 < (k : Int)) = false := by simp; omega
        have g3 : decide (0 < k) = false := by simp; omega
        have g2 : ((k : Int) == 0) = true := by simp; omega
        have HK := Lib.hid hk0
        cases hF : isFn t.data.toList
        · have CF := Lib.hid (hF ▸ Function_any W0 wr hlt0 t (by unfold maxLen; omega))
          have hP : pieceX k (l.getD k []) = t.data.toList := by rw [hgk, pieceX, if_pos hk0, hF]; rfl
          have HP := Lib.hid hP
          clear hk0 hP hgk
          by_cases hG : m + t.size ≤ 1000
          · go_wp2_with (first | (go_at_call 51; refine (len_any _ _ _ _ HIB.out m hm).mono ?_; rintro e w' ⟨rfl, rfl⟩) | (go_at_call 19; refine CF.out.mono ?_; rintro e wf ⟨rfl, hbf⟩; have hibf := Lib.hid (builderF_below HIB.out hbf); have hsf := hbf.size) | (go_at_call 53; refine (write_any _ _ _ (bufTo l (k + 1)) t _ hibf.out (by omega) (by omega) (by rw [bufTo_succ, HP.out])).mono ?_; rintro e w2 ⟨rfl, hib2, hb2⟩; have HI2 := Lib.hid hib2; clear hib2))
            all_goals
              go_roundw
              case rel => exact ⟨k + 1, hlt, by go_num, by rw [bufTo_succ, HP.out]; simp; omega, HI2.out, (hb.trans (hbf.mono (by omega))).trans hb2, by have := hb2.size; omega⟩
              case measure => simp [intOf]; omega
          · go_wp2_with (first | (go_at_call 51; refine (len_any _ _ _ _ HIB.out m hm).mono ?_; rintro e w' ⟨rfl, rfl⟩) | (go_at_call 19; refine CF.out.mono ?_; rintro e wf ⟨rfl, hbf⟩; have hibf := Lib.hid (builderF_below HIB.out hbf); have hsf := hbf.size) | (go_at_call 53; refine (write_any _ _ _ (bufTo l (k + 1)) t _ hibf.out (by omega) (by omega) (by rw [bufTo_succ, HP.out])).mono ?_; rintro e w2 ⟨rfl, hib2, hb2⟩; have HI2 := Lib.hid hib2; clear hib2))
            all_goals
              go_ret2
              have hL : ¬ (bufTo l l.length).length ≤ 1000 := by
                have h1 := bufTo_mono l (k + 1) (l.length - (k + 1))
                rw [show k + 1 + (l.length - (k + 1)) = l.length by omega, bufTo_succ, HP.out, List.length_append] at h1
                simp at h1
                omega
              exact ⟨by rw [HX.out, if_neg hL]; rfl, hb1.trans (hb.mono hb1.size)⟩
        · have CF := Lib.hid (hF ▸ Function_any W0 wr hlt0 t (by unfold maxLen; omega))
          have hU := (isFn_upper hF).2
          have hP : pieceX k (l.getD k []) = Lib.toUpperD (t.data.toList.take 1) ++ t.data.toList.drop 1 := by rw [hgk, pieceX, if_pos hk0, hF]; rfl
          have HP := Lib.hid hP
          clear hk0 hP hgk hF
          by_cases hG : m + t.size ≤ 1000
          · go_wp2_with (first | (go_at_call 51; refine (len_any _ _ _ _ HIB.out m hm).mono ?_; rintro e w' ⟨rfl, rfl⟩) | (go_at_call 19; refine CF.out.mono ?_; rintro e wf ⟨rfl, hbf⟩; have hibf := Lib.hid (builderF_below HIB.out hbf); have hsf := hbf.size))
            have hu : (t.extract 0 1).data.toList = t.data.toList.take 1 := by simp [ByteArray.data_extract]
            have hd : (t.extract 1 t.size).data.toList = t.data.toList.drop 1 := by simp [ByteArray.data_extract]; exact List.take_of_length_le (by simp)
            have CU := Lib.hid (fun x : Later wf => Tryz.strings_ToUpper_any (t.extract 0 1) x.w (by simp; omega) ((hlt0.next hbf).next x.below).t0.case ((hlt0.next hbf).next x.below).t0.utf8)
            have hadd : ∀ w, (Op.stringOp .add ⟨(Lib.toUpperD (t.extract 0 1).data.toList).toArray⟩ (t.extract 1 t.size)).run Tryz.prog w = .ok (.string (⟨(Lib.toUpperD (t.extract 0 1).data.toList).toArray⟩ ++ t.extract 1 t.size)) w := fun w => run_string_add w _ _ (by rw [bytes_size, hu, hU]; decide) (by simp; omega)
            have e5 : 1 ≤ t.size := hpos
            have e6 : (1 : Int) ≤ t.size := by omega
            refine wp_region_later (by kernel_rfl) (by kernel_rfl) ?_
            repeat (go_big_quiet_step ((go_at_call 52; exact later_call (CU.out _))))
            refine wpQuiet_nil ?_
            rintro _ ⟨x, rfl⟩
            obtain ⟨t', ht'⟩ : ∃ t', t' = (⟨(Lib.toUpperD (List.take 1 t.data.toList)).toArray⟩ : ByteArray) ++ t.extract 1 t.size := ⟨_, rfl⟩
            have hd' : t'.data.toList = Lib.toUpperD (t.data.toList.take 1) ++ t.data.toList.drop 1 := by rw [ht', ByteArray.data_append, Array.toList_append, hd]
            have hsz' : t'.size ≤ 1000001 := by
              have h1 : t'.size = t'.data.toList.length := by simp
              rw [h1, hd', List.length_append, hU]; simp; omega
            rw [← ht']
            have HD := Lib.hid hd'
            have hxs := x.below.size
            have hibx := Lib.hid (builderF_below hibf.out x.below)
            clear hadd hu hd hd' ht' CU
            go_wp2_with (first | (go_at_call 53; refine (write_any _ _ _ (bufTo l (k + 1)) t' _ hibx.out (by omega) (by omega) (by rw [bufTo_succ, HP.out]; rw [HD.out])).mono ?_; rintro e w2 ⟨rfl, hib2, hb2⟩; have HI2 := Lib.hid hib2; clear hib2))
            all_goals
              go_roundw
              case rel => exact ⟨k + 1, hlt, by go_num, by rw [bufTo_succ, HP.out]; simp; omega, HI2.out, ((hb.trans (hbf.mono (by omega))).trans (x.below.mono (by omega))).trans hb2, by have := hb2.size; omega⟩
              case measure => simp [intOf]; omega
          · go_wp2_with (first | (go_at_call 51; refine (len_any _ _ _ _ HIB.out m hm).mono ?_; rintro e w' ⟨rfl, rfl⟩) | (go_at_call 19; refine CF.out.mono ?_; rintro e wf ⟨rfl, hbf⟩; have hibf := Lib.hid (builderF_below HIB.out hbf); have hsf := hbf.size))
            all_goals
              go_ret2
              have hL : ¬ (bufTo l l.length).length ≤ 1000 := by
                have h1 := bufTo_mono l (k + 1) (l.length - (k + 1))
                rw [show k + 1 + (l.length - (k + 1)) = l.length by omega, bufTo_succ, HP.out, List.length_append] at h1
                simp [hU] at h1
                omega
              exact ⟨by rw [HX.out, if_neg hL]; rfl, hb1.trans (hb.mono hb1.size)⟩
      · have g1 : decide (0 < (k : Int)) = true := by simp; omega
        have g3 : decide (0 < k) = true := by simp; omega
        have g2 : ((k : Int) == 0) = false := by simp; omega
        have HK := Lib.hid hk0
        cases hL : letterI t[0].toNat
        · have hP : pieceX k (l.getD k []) = t.data.toList := by rw [hgk, pieceX, if_neg hk0, headD_get hpos, isL, hL]; rfl
          have HP := Lib.hid hP
          clear hk0 hP hgk
          by_cases hG : m + t.size ≤ 1000
          · go_wp2_with (first | (go_at_call 45; refine (letter_any _ _).mono ?_; rintro e w' ⟨rfl, rfl⟩) | (go_at_call 51; refine (len_any _ _ _ _ HIB.out m hm).mono ?_; rintro e w' ⟨rfl, rfl⟩) | (go_at_call 53; refine (write_any _ _ _ (bufTo l (k + 1)) t _ HIB.out (by omega) (by omega) (by rw [bufTo_succ, HP.out])).mono ?_; rintro e w2 ⟨rfl, hib2, hb2⟩; have HI2 := Lib.hid hib2; clear hib2))
            all_goals
              go_roundw
              case rel => exact ⟨k + 1, hlt, by go_num, by rw [bufTo_succ, HP.out]; simp; omega, HI2.out, hb.trans hb2, by have := hb2.size; omega⟩
              case measure => simp [intOf]; omega
          · go_wp2_with (first | (go_at_call 45; refine (letter_any _ _).mono ?_; rintro e w' ⟨rfl, rfl⟩) | (go_at_call 51; refine (len_any _ _ _ _ HIB.out m hm).mono ?_; rintro e w' ⟨rfl, rfl⟩) | (go_at_call 53; refine (write_any _ _ _ (bufTo l (k + 1)) t _ HIB.out (by omega) (by omega) (by rw [bufTo_succ, HP.out])).mono ?_; rintro e w2 ⟨rfl, hib2, hb2⟩; have HI2 := Lib.hid hib2; clear hib2))
            all_goals
              go_ret2
              have hL : ¬ (bufTo l l.length).length ≤ 1000 := by
                have h1 := bufTo_mono l (k + 1) (l.length - (k + 1))
                rw [show k + 1 + (l.length - (k + 1)) = l.length by omega, bufTo_succ, HP.out, List.length_append] at h1
                simp at h1
                omega
              exact ⟨by rw [HX.out, if_neg hL]; rfl, hb1.trans (hb.mono hb1.size)⟩
        · have hP : pieceX k (l.getD k []) = 32 :: t.data.toList := by rw [hgk, pieceX, if_neg hk0, headD_get hpos, isL, hL]; rfl
          have HP := Lib.hid hP
          have hm2 : m + 1 = (bufTo l k ++ [32]).length := by simp [hm]
          clear hk0 hP hgk
          by_cases hG : m + 1 + t.size ≤ 1000
          · go_wp2_with (first | (go_at_call 45; refine (letter_any _ _).mono ?_; rintro e w' ⟨rfl, rfl⟩) | (go_at_call 50; refine (writeByte_any _ _ _ _ HIB.out (by omega) (by omega)).mono ?_; rintro e wb ⟨rfl, hibb, hbb⟩; have HIb := Lib.hid hibb; have hszb := hbb.size; clear hibb) | (go_at_call 51; refine (len_any _ _ _ _ HIb.out (m + 1) hm2).mono ?_; rintro e w' ⟨rfl, rfl⟩) | (go_at_call 53; refine (write_any _ _ _ (bufTo l (k + 1)) t _ HIb.out (by omega) (by omega) (by rw [bufTo_succ, HP.out]; simp)).mono ?_; rintro e w2 ⟨rfl, hib2, hb2⟩; have HI2 := Lib.hid hib2; clear hib2))
            all_goals
              go_roundw
              case rel => exact ⟨k + 1, hlt, by go_num, by rw [bufTo_succ, HP.out]; simp; omega, HI2.out, (hb.trans hbb).trans hb2, by have := hb2.size; omega⟩
              case measure => simp [intOf]; omega
          · go_wp2_with (first | (go_at_call 45; refine (letter_any _ _).mono ?_; rintro e w' ⟨rfl, rfl⟩) | (go_at_call 50; refine (writeByte_any _ _ _ _ HIB.out (by omega) (by omega)).mono ?_; rintro e wb ⟨rfl, hibb, hbb⟩; have HIb := Lib.hid hibb; have hszb := hbb.size; clear hibb) | (go_at_call 51; refine (len_any _ _ _ _ HIb.out (m + 1) hm2).mono ?_; rintro e w' ⟨rfl, rfl⟩))
            all_goals
              go_ret2
              have hL : ¬ (bufTo l l.length).length ≤ 1000 := by
                have h1 := bufTo_mono l (k + 1) (l.length - (k + 1))
                rw [show k + 1 + (l.length - (k + 1)) = l.length by omega, bufTo_succ, HP.out, List.length_append] at h1
                simp at h1
                omega
              exact ⟨by rw [HX.out, if_neg hL]; rfl, hb1.trans ((hb.trans hbb).mono hb1.size)⟩
    · obtain rfl : k = l.length := by omega
      go_wp2_with (go_at_call 54; refine (Tryz.Builder_String_any_f _ _ _ _ HIB.out (by omega)).mono ?_; rintro e w2 ⟨rfl, _, hb2⟩)
      go_ret2
      exact ⟨by rw [HX.out, if_pos hlen]; rfl, hb1.trans ((hb.trans hb2).mono hb1.size)⟩
end Go.Proofs.YtakpkaklcjgdkaaGreatDoor
