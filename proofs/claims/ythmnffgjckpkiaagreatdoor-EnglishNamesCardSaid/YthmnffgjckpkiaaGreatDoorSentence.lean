/-
  The contract of 'Sentence' of package english.
-/
import Derived.Test.YthmnffgjckpkiaaGreatDoorParses
namespace Go.Proofs.YthmnffgjckpkiaaGreatDoor
open Go Go.RowKit Go.Shelf

/-- What Sentence returns. -/
def sentenceS (l : List Ent) (s : List UInt8) : List Tr × Int × Int :=
  if !validS l then ([], 0, 2) else if (tokensS s).2.2 ≠ 0 then ([], (tokensS s).2.1, (tokensS s).2.2) else ((parsesS l (tokensS s).1).1, 0, (parsesS l (tokensS s).1).2)
def SentenceOk (w : World) (x : List Tr × Int × Int) (e : Ending) (w' : World) : Prop := ∃ rv, e = .returned (.tuple #[rv, .int .i64 x.2.1, .int .i64 x.2.2]) ∧ Below w.heap.size w w' ∧ ForG w.heap.size rv x.1 x.1.length w'

set_option maxHeartbeats 1000000 in
theorem Sentence_any (W0 w : World) (ht : Tabs W0 w) (v : Value) (l : List Ent) (hl : EntSlice w v l) (s : ByteArray) (hs : s.size ≤ 1000) :
    Calls Tryz.prog 15 #[v, .string s] w (SentenceOk w (sentenceS l s.data.toList)) := by
  have HV := Lib.hid (Valid_all W0 w ht v l hl)
  have HT := Lib.hid (fun (w' : World) (hb : Below w.heap.size w w') => Tokens_short W0 w' (ht.next hb) s hs)
  have HP := Lib.hid (fun (w' : World) (hb : Below w.heap.size w w') (tv : Value) (toks : List (List UInt8)) (hts : StrSlice w' tv toks) => Parses_any W0 w' (ht.next hb) v tv l (hl.below hb) toks hts)
  have hS : sentenceS l s.data.toList = if !validS l then ([], 0, 2) else if (tokensS s.data.toList).2.2 ≠ 0 then ([], (tokensS s.data.toList).2.1, (tokensS s.data.toList).2.2) else ((parsesS l (tokensS s.data.toList).1).1, 0, (parsesS l (tokensS s.data.toList).1).2) := rfl
  have HS := Lib.hid hS
  clear hS hl ht hs
  obtain ⟨T, hT⟩ : ∃ T, T = tokensS s.data.toList := ⟨_, rfl⟩
  rw [← hT] at HT HS
  clear hT
  obtain ⟨toks, pl, er⟩ := T
  obtain ⟨X, hX⟩ : ∃ X, X = sentenceS l s.data.toList := ⟨_, rfl⟩
  rw [← hX] at HS ⊢
  clear hX
  cases hv : validS l
  · rw [hv] at HV HS
    clear hv
    go_enter Tryz.func15, Tryz.ntmps15
    go_wp2_with (go_at_call 37; refine HV.out.mono ?_; rintro r w1 ⟨rfl, hb1⟩)
    refine bodyPost_ret (v := .tuple #[.slice none 0 0, .int .i64 0, .int .i64 2]) (by simp [results, Tryz.results15, go_sem]) rfl ?_
    rw [HS.out]
    exact ⟨_, rfl, hb1, ForG.nil _ _ _⟩
  · rw [hv] at HV HS
    clear hv
    by_cases h0 : er = 0
    · subst h0
      go_enter Tryz.func15, Tryz.ntmps15
      go_wp2_with (first
        | (go_at_call 37; refine HV.out.mono ?_; rintro r w1 ⟨rfl, hb1⟩)
        | (go_at_call 40; refine (HT.out _ hb1).mono ?_; rintro r w2 ⟨tv, rfl, hts, hb2⟩; have HB2 := Lib.hid (hb1.trans (hb2.mono hb1.size)); have HP2 := Lib.hid (HP.out w2 HB2.out tv toks hts); clear hb1 hb2 hts)
        | (go_at_call 23; refine HP2.out.mono ?_; rintro r w3 ⟨rv, rfl, hb3, hF⟩))
      refine bodyPost_ret (v := .tuple #[rv, .int .i64 0, .int .i64 (parsesS l toks).2]) (by simp [results, Tryz.results15, go_sem]) rfl ?_
      rw [HS.out]
      exact ⟨_, rfl, HB2.out.trans (hb3.mono HB2.out.size), hF.mono HB2.out.size⟩
    · have hne : (er != 0) = true := by simpa using h0
      have h0' := Lib.hid h0
      clear h0
      go_enter Tryz.func15, Tryz.ntmps15
      go_wp2_with (first
        | (go_at_call 37; refine HV.out.mono ?_; rintro r w1 ⟨rfl, hb1⟩)
        | (go_at_call 40; refine (HT.out _ hb1).mono ?_; rintro r w2 ⟨tv, rfl, hts, hb2⟩; have HB2 := Lib.hid (hb1.trans (hb2.mono hb1.size)); clear hb1 hb2 hts))
      refine bodyPost_ret (v := .tuple #[.slice none 0 0, .int .i64 pl, .int .i64 er]) (by simp [results, Tryz.results15, go_sem]) rfl ?_
      rw [HS.out]
      have h0 := h0'.out
      rw [if_neg (by decide), if_pos h0]
      exact ⟨_, rfl, HB2.out, ForG.nil _ _ _⟩
end Go.Proofs.YthmnffgjckpkiaaGreatDoor
