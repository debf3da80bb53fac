/-
  Contracts of Kind, Parts, cat and word of the reference of chapter 34: the shapes of the rules.
  What entries of the reference of chapter 34 computes and its contract.
  Plain facts on the steps of the reference of chapter 34: where their parts lie, how many there are, how a sum and a list grow.
  The contracts of verbs and states of the reference of chapter 34.
  The contract of bare of the reference of chapter 34.
-/
import Derived.Test.YthmnffgjckpkiaaGreatDoorSC
import Derived.Test.YthmnffgjckpkiaaGreatDoorSA
import Derived.Test.YthmnffgjckpkiaaGreatDoorGEngB
import Derived.Test.YthmnffgjckpkiaaGreatDoorGEngH
namespace Go.Proofs.YthmnffgjckpkiaaGreatDoor
open Go Go.RowKit Go.Shelf

set_option maxRecDepth 100000 in
set_option maxHeartbeats 4000000 in
theorem rCat_any (w : World) (r : Int) : Calls Tryz.prog 126 #[.int .u8 r] w fun e w' => e = .returned (.int .u8 (shapeS r).cat) ∧ Below w.heap.size w w' := by
  by_cases hr : 1 ≤ r ∧ r ≤ 19
  · rcases (show r = 1 ∨ r = 2 ∨ r = 3 ∨ r = 4 ∨ r = 5 ∨ r = 6 ∨ r = 7 ∨ r = 8 ∨ r = 9 ∨ r = 10 ∨ r = 11 ∨ r = 12 ∨ r = 13 ∨ r = 14 ∨ r = 15 ∨ r = 16 ∨ r = 17 ∨ r = 18 ∨ r = 19 by omega) with rfl | rfl | rfl | rfl | rfl | rfl | rfl | rfl | rfl | rfl | rfl | rfl | rfl | rfl | rfl | rfl | rfl | rfl | rfl
    all_goals
      clear hr
      go_enter Tryz.func126, Tryz.ntmps126
      go_wp2
      go_ret
      exact ⟨rfl, Below.refl _ _⟩
  · have hk : (shapeS r).cat = 0 := by
      unfold shapeS
      repeat rw [if_neg (by omega)]
    rw [hk]
    have e1 : (r == 1) = false := by simp; omega
    have e2 : (r == 2) = false := by simp; omega
    have e3 : (r == 3) = false := by simp; omega
    have e4 : (r == 4) = false := by simp; omega
    have e5 : (r == 5) = false := by simp; omega
    have e6 : (r == 6) = false := by simp; omega
    have e7 : (r == 7) = false := by simp; omega
    have e8 : (r == 8) = false := by simp; omega
    have e9 : (r == 9) = false := by simp; omega
    have e10 : (r == 10) = false := by simp; omega
    have e11 : (r == 11) = false := by simp; omega
    have e12 : (r == 12) = false := by simp; omega
    have e13 : (r == 13) = false := by simp; omega
    have e14 : (r == 14) = false := by simp; omega
    have e15 : (r == 15) = false := by simp; omega
    have e16 : (r == 16) = false := by simp; omega
    have e17 : (r == 17) = false := by simp; omega
    have e18 : (r == 18) = false := by simp; omega
    have e19 : (r == 19) = false := by simp; omega
    clear hk hr
    go_enter Tryz.func126, Tryz.ntmps126
    go_wp2
    go_ret
    exact ⟨rfl, Below.refl _ _⟩
/-- The kinds of parts as the reference lists them. -/
def PartsI (w : World) (v : Value) (ks : List Nat) : Prop :=
  ∃ a cap, v = .slice a ks.length cap ∧ (ks = [] ∨ ∃ b, a = some ⟨b, 0, none⟩ ∧ ∀ j (h : j < ks.length), w.cell? ⟨b, j, none⟩ = some (.int .i64 ks[j]))
theorem PartsI.below {w w' : World} {v : Value} {ks : List Nat} (h : PartsI w v ks) (hb : Below w.heap.size w w') : PartsI w' v ks := by
  obtain ⟨a, cap, rfl, h⟩ := h
  refine ⟨a, cap, rfl, ?_⟩
  rcases h with h | ⟨b, rfl, hc⟩
  · exact .inl h
  · exact .inr ⟨b, rfl, fun j hj => cell_kept' hb (hc j hj)⟩
set_option maxRecDepth 100000 in
set_option maxHeartbeats 4000000 in
theorem rWord_any (w : World) (r : Int) (x : List UInt8) : Calls Tryz.prog 130 #[.int .u8 r, .string ⟨x.toArray⟩] w fun e w' => e = .returned (.bool (wordOk (shapeS r).words x)) ∧ Below w.heap.size w w' := by
  by_cases h7 : r = 7
  · subst h7
    by_cases c0 : x = wEvery
    · have hw : wordOk (shapeS 7).words x = true := by rw [c0]; decide
      have d0 : (x == [101, 118, 101, 114, 121]) = true := by rw [c0]; rfl
      rw [hw]
      clear hw c0
      go_enter Tryz.func130, Tryz.ntmps130
      go_wp2
      go_ret
      exact ⟨ret_bool (by first | rfl | simp), Below.refl _ _⟩
    by_cases c1 : x = wEach
    · have hw : wordOk (shapeS 7).words x = true := by rw [c1]; decide
      have d0 : (x == [101, 118, 101, 114, 121]) = false := by simpa [wEvery] using c0
      have d1 : (x == [101, 97, 99, 104]) = true := by rw [c1]; rfl
      rw [hw]
      clear hw c0 c1
      go_enter Tryz.func130, Tryz.ntmps130
      go_wp2
      go_ret
      exact ⟨ret_bool (by first | rfl | simp), Below.refl _ _⟩
    by_cases c2 : x = wSome
    · have hw : wordOk (shapeS 7).words x = true := by rw [c2]; decide
      have d0 : (x == [101, 118, 101, 114, 121]) = false := by simpa [wEvery] using c0
      have d1 : (x == [101, 97, 99, 104]) = false := by simpa [wEach] using c1
      have d2 : (x == [115, 111, 109, 101]) = true := by rw [c2]; rfl
      rw [hw]
      clear hw c0 c1 c2
      go_enter Tryz.func130, Tryz.ntmps130
      go_wp2
      go_ret
      exact ⟨ret_bool (by first | rfl | simp), Below.refl _ _⟩
    by_cases c3 : x = wNo
    · have hw : wordOk (shapeS 7).words x = true := by rw [c3]; decide
      have d0 : (x == [101, 118, 101, 114, 121]) = false := by simpa [wEvery] using c0
      have d1 : (x == [101, 97, 99, 104]) = false := by simpa [wEach] using c1
      have d2 : (x == [115, 111, 109, 101]) = false := by simpa [wSome] using c2
      have d3 : (x == [110, 111]) = true := by rw [c3]; rfl
      rw [hw]
      clear hw c0 c1 c2 c3
      go_enter Tryz.func130, Tryz.ntmps130
      go_wp2
      go_ret
      exact ⟨ret_bool (by first | rfl | simp), Below.refl _ _⟩
    by_cases c4 : x = wA
    · have hw : wordOk (shapeS 7).words x = true := by rw [c4]; decide
      have d0 : (x == [101, 118, 101, 114, 121]) = false := by simpa [wEvery] using c0
      have d1 : (x == [101, 97, 99, 104]) = false := by simpa [wEach] using c1
      have d2 : (x == [115, 111, 109, 101]) = false := by simpa [wSome] using c2
      have d3 : (x == [110, 111]) = false := by simpa [wNo] using c3
      have d4 : (x == [97]) = true := by rw [c4]; rfl
      rw [hw]
      clear hw c0 c1 c2 c3 c4
      go_enter Tryz.func130, Tryz.ntmps130
      go_wp2
      go_ret
      exact ⟨ret_bool (by first | rfl | simp), Below.refl _ _⟩
    have hw : wordOk (shapeS 7).words x = false := by
      unfold wordOk
      rw [if_neg (by decide)]
      cases h : (shapeS 7).words.contains x
      · rfl
      · exfalso
        have h := List.contains_iff_mem.1 h
        have h' : x ∈ [wEvery, wEach, wSome, wNo, wA] := h
        simp only [List.mem_cons, List.not_mem_nil, or_false] at h'
        rcases h' with h | h | h | h | h
        · exact c0 h
        · exact c1 h
        · exact c2 h
        · exact c3 h
        · exact c4 h
    have d0 : (x == [101, 118, 101, 114, 121]) = false := by simpa [wEvery] using c0
    have d1 : (x == [101, 97, 99, 104]) = false := by simpa [wEach] using c1
    have d2 : (x == [115, 111, 109, 101]) = false := by simpa [wSome] using c2
    have d3 : (x == [110, 111]) = false := by simpa [wNo] using c3
    have d4 : (x == [97]) = false := by simpa [wA] using c4
    rw [hw]
    clear hw c0 c1 c2 c3 c4
    go_enter Tryz.func130, Tryz.ntmps130
    go_wp2
    go_ret
    exact ⟨ret_bool (by first | rfl | simp), Below.refl _ _⟩
  by_cases h10 : r = 10
  · subst h10
    clear h7
    by_cases c0 : x = wWho
    · have hw : wordOk (shapeS 10).words x = true := by rw [c0]; decide
      have d0 : (x == [119, 104, 111]) = true := by rw [c0]; rfl
      rw [hw]
      clear hw c0
      go_enter Tryz.func130, Tryz.ntmps130
      go_wp2
      go_ret
      exact ⟨ret_bool (by first | rfl | simp), Below.refl _ _⟩
    by_cases c1 : x = wThat
    · have hw : wordOk (shapeS 10).words x = true := by rw [c1]; decide
      have d0 : (x == [119, 104, 111]) = false := by simpa [wWho] using c0
      have d1 : (x == [116, 104, 97, 116]) = true := by rw [c1]; rfl
      rw [hw]
      clear hw c0 c1
      go_enter Tryz.func130, Tryz.ntmps130
      go_wp2
      go_ret
      exact ⟨ret_bool (by first | rfl | simp), Below.refl _ _⟩
    have hw : wordOk (shapeS 10).words x = false := by
      unfold wordOk
      rw [if_neg (by decide)]
      cases h : (shapeS 10).words.contains x
      · rfl
      · exfalso
        have h := List.contains_iff_mem.1 h
        have h' : x ∈ [wWho, wThat] := h
        simp only [List.mem_cons, List.not_mem_nil, or_false] at h'
        rcases h' with h | h
        · exact c0 h
        · exact c1 h
    have d0 : (x == [119, 104, 111]) = false := by simpa [wWho] using c0
    have d1 : (x == [116, 104, 97, 116]) = false := by simpa [wThat] using c1
    rw [hw]
    clear hw c0 c1
    go_enter Tryz.func130, Tryz.ntmps130
    go_wp2
    go_ret
    exact ⟨ret_bool (by first | rfl | simp), Below.refl _ _⟩
  by_cases h11 : r = 11
  · subst h11
    clear h7 h10
    by_cases c0 : x = wWho
    · have hw : wordOk (shapeS 11).words x = true := by rw [c0]; decide
      have d0 : (x == [119, 104, 111]) = true := by rw [c0]; rfl
      rw [hw]
      clear hw c0
      go_enter Tryz.func130, Tryz.ntmps130
      go_wp2
      go_ret
      exact ⟨ret_bool (by first | rfl | simp), Below.refl _ _⟩
    by_cases c1 : x = wThat
    · have hw : wordOk (shapeS 11).words x = true := by rw [c1]; decide
      have d0 : (x == [119, 104, 111]) = false := by simpa [wWho] using c0
      have d1 : (x == [116, 104, 97, 116]) = true := by rw [c1]; rfl
      rw [hw]
      clear hw c0 c1
      go_enter Tryz.func130, Tryz.ntmps130
      go_wp2
      go_ret
      exact ⟨ret_bool (by first | rfl | simp), Below.refl _ _⟩
    have hw : wordOk (shapeS 11).words x = false := by
      unfold wordOk
      rw [if_neg (by decide)]
      cases h : (shapeS 11).words.contains x
      · rfl
      · exfalso
        have h := List.contains_iff_mem.1 h
        have h' : x ∈ [wWho, wThat] := h
        simp only [List.mem_cons, List.not_mem_nil, or_false] at h'
        rcases h' with h | h
        · exact c0 h
        · exact c1 h
    have d0 : (x == [119, 104, 111]) = false := by simpa [wWho] using c0
    have d1 : (x == [116, 104, 97, 116]) = false := by simpa [wThat] using c1
    rw [hw]
    clear hw c0 c1
    go_enter Tryz.func130, Tryz.ntmps130
    go_wp2
    go_ret
    exact ⟨ret_bool (by first | rfl | simp), Below.refl _ _⟩
  have hk : (shapeS r).words = [] := by
    by_cases hr : 1 ≤ r ∧ r ≤ 19
    · rcases (show r = 1 ∨ r = 2 ∨ r = 3 ∨ r = 4 ∨ r = 5 ∨ r = 6 ∨ r = 7 ∨ r = 8 ∨ r = 9 ∨ r = 10 ∨ r = 11 ∨ r = 12 ∨ r = 13 ∨ r = 14 ∨ r = 15 ∨ r = 16 ∨ r = 17 ∨ r = 18 ∨ r = 19 by omega) with rfl | rfl | rfl | rfl | rfl | rfl | rfl | rfl | rfl | rfl | rfl | rfl | rfl | rfl | rfl | rfl | rfl | rfl | rfl <;> first | rfl | (exact absurd rfl h7) | (exact absurd rfl h10) | (exact absurd rfl h11)
    · unfold shapeS
      repeat rw [if_neg (by omega)]
  have e7 : (r == 7) = false := by simpa using h7
  have e10 : (r == 10) = false := by simpa using h10
  have e11 : (r == 11) = false := by simpa using h11
  have hw : wordOk (shapeS r).words x = (x == []) := by rw [hk]; rfl
  rw [hw]
  clear hw hk h7 h10 h11
  by_cases h0 : x = []
  · subst h0
    go_enter Tryz.func130, Tryz.ntmps130
    go_wp2
    go_ret
    exact ⟨ret_bool (by first | rfl | simp), Below.refl _ _⟩
  · have d0 : (x == []) = false := by simpa using h0
    have d1 : x.isEmpty = false := by simpa using h0
    clear h0
    go_enter Tryz.func130, Tryz.ntmps130
    go_wp2
    go_ret
    exact ⟨ret_bool (by first | rfl | simp [d0]), Below.refl _ _⟩
end Go.Proofs.YthmnffgjckpkiaaGreatDoor
namespace Go.Proofs.YthmnffgjckpkiaaGreatDoor
open Go Go.RowKit Go.Shelf

theorem StepsR.setT {B T k : Nat} {W : World} {v u : Value} {ss : List StepS} {cs : Array Value} (h : StepsR B W v ss) (hT : T < B) (ht : W.heap[T]? = some (.cells cs 148 (0, 0))) : StepsR B (W.setCell ⟨T, k, none⟩ u) v ss := by
  obtain ⟨qs, h1, ⟨h2, h2'⟩, h3⟩ := h
  refine ⟨qs, h1, ⟨h2, ?_⟩, fun j a b => (h3 j a b).block (fun c cs' hh => ?_)⟩
  · rcases h2' with h | ⟨g, cap, cur, a, b, c, d⟩
    · exact .inl h
    · exact .inr ⟨g, cap, cur, a, b, (Below.heap_setCell W ⟨T, k, none⟩ u g (by simp; omega)).trans c, d⟩
  · refine Below.heap_setCell W ⟨T, k, none⟩ u c (fun e => ?_)
    simp only at e
    rw [e, ht] at hh
    injection hh with hh
    injection hh with _ hh
    exact absurd hh (by decide)
theorem SpansAt.setT {T k : Nat} {W : World} {v u : Value} {ps : List (Nat × Nat × Nat)} {cs : Array Value} (h : SpansAt W v ps) (ht : W.heap[T]? = some (.cells cs 148 (0, 0))) : SpansAt (W.setCell ⟨T, k, none⟩ u) v ps :=
  h.block (fun c cs' hh => Below.heap_setCell W ⟨T, k, none⟩ u c (fun e => by
    simp only at e
    rw [e, ht] at hh
    injection hh with hh
    injection hh with _ hh
    exact absurd hh (by decide)))
/-- The steps of the first k forms. -/
def entsTo (l : List Ent) (fs : List (Nat × Bool)) (third : Bool) (s : StepS) (k : Nat) : List StepS := ((fs.take k).filter fun x => x.2 == third && catAt l x.1 == (shapeS s.rule).cat).map fun x => { s with entry := x.1 }
theorem entsTo_next (l : List Ent) (fs : List (Nat × Bool)) (third : Bool) (s : StepS) (k : Nat) (h : k < fs.length) : entsTo l fs third s (k + 1) = entsTo l fs third s k ++ if (fs[k].2 == third && catAt l fs[k].1 == (shapeS s.rule).cat) = true then [{ s with entry := fs[k].1 }] else [] := by
  unfold entsTo
  rw [List.take_succ_eq_append_getElem h, List.filter_append, List.map_append]
  congr 1
  cases hc : (fs[k].2 == third && catAt l fs[k].1 == (shapeS s.rule).cat) <;> simp [hc]
theorem entsTo_len (l : List Ent) (fs : List (Nat × Bool)) (third : Bool) (s : StepS) (k : Nat) : (entsTo l fs third s k).length ≤ k := by
  unfold entsTo
  rw [List.length_map]
  refine Nat.le_trans (List.length_filter_le _ _) ?_
  rw [List.length_take]
  omega
theorem entsTo_all {g : Gr} {tok : List UInt8} {third : Bool} {s : StepS} (h : (shapeS s.rule).cat = catR s.rule) : entsTo g.l (lookS tok g.l) third s (lookS tok g.l).length = entsS g tok third s := by
  unfold entsTo entsS
  rw [List.take_length, h]

set_option maxRecDepth 100000 in
set_option maxHeartbeats 8000000 in
theorem rEntries_any (w : World) (l : List Ent) (lv : Value) (hl : EntSlice w lv l) (hval : validS l = true) (hl100 : l.length ≤ 100) (tok : List UInt8) (third : Bool) (q : TV) (s : StepS) (hq : StepV w q s) :
    Calls Tryz.prog 150 #[lv, .string ⟨tok.toArray⟩, .bool third, q.val] w fun e w' => ∃ v', e = .returned v' ∧ StepsR w.heap.size w' v' (entsTo l (lookS tok l) third s (lookS tok l).length) ∧ Below w.heap.size w w' := by
  obtain ⟨⟨la, lcap, rfl, hlc, hlm, hlf⟩, hlok⟩ := id hl
  obtain ⟨qr, qe, qw, qa, qn, qc⟩ := q
  obtain ⟨h1, h2, h3, h4⟩ := hq
  simp only at h1 h2 h3 h4
  subst h1 h2 h3
  have HL := Lib.hid hl
  have HLf := Lib.hid hlf
  have HSp := Lib.hid h4
  obtain ⟨fs, hfs⟩ : ∃ fs, fs = lookS tok l := ⟨_, rfl⟩
  rw [← hfs]
  have HFs := Lib.hid hfs
  clear hl hlc hlm hlf hlok h4 hfs
  unfold TV.val
  go_enter Tryz.func150, Tryz.ntmps150
  go_upto_region 1 with (fail)
  obtain ⟨W1, hW1⟩ : ∃ W1, W1 = w.alloc (.cells #[.int .u8 s.rule, .int .i64 s.entry, .string ⟨s.word.toArray⟩, .slice qa qn qc] 148) := ⟨_, rfl⟩
  have hb : Below w.heap.size w W1 := by rw [hW1]; exact (Below.refl _ _).alloc (Nat.le_refl _) _
  have htb : W1.heap[w.heap.size]? = some (.cells #[.int .u8 s.rule, .int .i64 s.entry, .string ⟨s.word.toArray⟩, .slice qa qn qc] 148 (0, 0)) := by rw [hW1]; exact heap_atC rfl
  rw [← hW1]
  obtain ⟨T, hT⟩ : ∃ T, T = w.heap.size := ⟨_, rfl⟩
  rw [← hT] at htb ⊢
  have HB1 := Lib.hid hb
  have HT := Lib.hid hT
  have HTb := Lib.hid htb
  clear hW1 hb htb hT
  have hcall := rLook_any W1 _ l (HL.out.below HB1.out) (by omega) ⟨tok.toArray⟩
  rw [if_pos hval, if_pos hval] at hcall
  have hte : (⟨tok.toArray⟩ : ByteArray).data.toList = tok := by simp
  rw [hte, ← HFs.out] at hcall
  have HCall := Lib.hid hcall
  clear hcall hte
  go_wp2_with fail
  refine HCall.out.mono ?_
  rintro _ w2 ⟨_, rfl, ⟨fa, fcap, rfl, hff⟩, hb2⟩
  have HFf := Lib.hid hff
  have HB2 := Lib.hid (HB1.out.trans (hb2.mono HB1.out.size))
  have htb2 := (hb2.block T (Array.getElem?_eq_some_iff.1 HTb.out).1).trans HTb.out
  have HTb2 := Lib.hid htb2
  have htlt : T < w2.heap.size := (Array.getElem?_eq_some_iff.1 htb2).1
  have HTlt := Lib.hid htlt
  clear hff hb2 HCall htb2 htlt
  obtain ⟨n, hn⟩ : ∃ n, n = fs.length := ⟨_, rfl⟩
  rw [← hn]
  have HN := Lib.hid hn
  have hn100 : n ≤ 100 := by
    rw [hn, HFs.out]
    have := lookTo_len tok l l.length
    rw [lookTo_all] at this
    omega
  clear hn
  go_wp2
  go_loopw [11, 12] (fun o qi wr => ∃ (k : Nat) (e' : Int), k ≤ n ∧ qi = .int .i64 k ∧ wr.heap[T]? = some (.cells #[.int .u8 s.rule, .int .i64 e', .string ⟨s.word.toArray⟩, .slice qa qn qc] 148 (0, 0)) ∧ StepsR w2.heap.size wr o (entsTo l fs third s k) ∧
    (∀ b, b < w2.heap.size → b ≠ T → wr.heap[b]? = w2.heap[b]?) ∧ w2.heap.size ≤ wr.heap.size ∧ Below w.heap.size w wr) (fun _ qi _ => n - (intOf qi).toNat)
  case atStart => exact ⟨0, _, Nat.zero_le _, rfl, HTb2.out, by simp [entsTo]; exact StepsR.nil _ _, fun _ _ _ => rfl, Nat.le_refl _, HB2.out⟩
  case round =>
    obtain ⟨k, e', hk, rfl, htb, hst, hold, hsz, hbr⟩ := hrel
    obtain ⟨va, vc, rfl⟩ := hst.form
    have HSt := Lib.hid hst
    have HOld := Lib.hid hold
    have HTbr := Lib.hid htb
    have HSz := Lib.hid hsz
    have HBr := Lib.hid hbr
    obtain ⟨L, hL⟩ : ∃ L, L = (entsTo l fs third s k).length := ⟨_, rfl⟩
    rw [← hL]
    have hL1 : L ≤ 101 := by have := entsTo_len l fs third s k; omega
    have HLn := Lib.hid hL
    by_cases hlt : k < n
    · have hd : decide ((k : Int) < (n : Int)) = true := decide_eq_true (by omega)
      have hkf : k < fs.length := by rw [← HN.out]; exact hlt
      obtain ⟨fg, rfl, hfc⟩ := HFf.out.resolve_left (fun h => by rw [h] at hkf; simp at hkf)
      obtain ⟨f0, f1⟩ := hfc k hkf
      have hfg : fg ≠ T := by
        intro h
        have h0 := (hfc 0 (by omega)).1
        rw [h] at h0
        simp [World.cell?, HTb2.out] at h0
      have hfr := hold fg (cell_lt f0) hfg
      have g0 := (World.cell?_of_block (a := ⟨fg, k * 2, none⟩) hfr).trans f0
      have g1 := (World.cell?_of_block (a := ⟨fg, k * 2 + 1, none⟩) hfr).trans f1
      have hmem : fs[k] ∈ lookS tok l := by rw [← HFs.out]; exact List.getElem_mem hkf
      have hix := look_lt hmem
      have hnx := entsTo_next l fs third s k hkf
      obtain ⟨ix, hixe⟩ : ∃ ix, ix = fs[k].1 := ⟨_, rfl⟩
      obtain ⟨bx, hbxe⟩ : ∃ bx, bx = fs[k].2 := ⟨_, rfl⟩
      rw [← hixe] at g0 hix hnx
      rw [← hbxe] at g1 hnx
      obtain ⟨lb, loff, rfl, _, hcl⟩ := HLf.out.resolve_left (fun h => by rw [h] at hix; simp at hix)
      have hcat : catAt l ix = l[ix].cat := by unfold catAt; rw [List.getElem?_eq_getElem hix]
      have x1 := cell_kept' hbr (hcl ix hix).2.1
      rw [← hcat] at x1
      obtain ⟨D, hD⟩ : ∃ D, D = catAt l ix := ⟨_, rfl⟩
      obtain ⟨C, hC⟩ : ∃ C, C = (shapeS s.rule).cat := ⟨_, rfl⟩
      rw [← hD] at x1 hnx
      rw [← hC] at hnx
      have HNx := Lib.hid hnx
      have t0 : wr.cell? ⟨T, 0, none⟩ = some (.int .u8 s.rule) := by simp [World.cell?, htb]
      have m0 := fun x : Later wr => x.get g0
      have m1 := fun x : Later wr => x.get g1
      have m2 := fun x : Later wr => x.get x1
      have m3 := fun x : Later wr => x.get t0
      have HG := Lib.hid (And.intro g0 g1)
      have HCa : Go.RowKit.Hid (∀ x : Later wr, Calls Tryz.prog 126 #[.int .u8 s.rule] x.w fun e w' => e = .returned (.int .u8 C) ∧ Below x.w.heap.size x.w w') := Lib.hid (fun x => by rw [hC]; exact rCat_any x.w s.rule)
      have b1 : (0 : Int) ≤ (ix : Int) := by omega
      have b2 : (ix : Int) < (l.length : Int) := by omega
      have b3 : (0 : Int) ≤ (k : Int) := by omega
      have b4 : (k : Int) < (n : Int) := by omega
      have HIx := Lib.hid hix
      clear f0 f1 hfc hfr hold hmem hixe hbxe hcl hcat x1 hD hC hnx t0 g0 g1 htb hst hbr hL hsz hix
      have hbt : (bx == third) = true ∨ (bx == third) = false := by cases bx <;> cases third <;> simp
      rcases hbt with hbt | hbt
      · by_cases hdc : D = C
        · have e1 : (D == C) = true := by simpa using hdc
          have hyes : entsTo l fs third s (k + 1) = entsTo l fs third s k ++ [{ s with entry := ix }] := by rw [HNx.out, hbt, e1]; rfl
          have HYes := Lib.hid hyes
          clear hdc hyes
          go_wp2
          refine wp_region_later (by kernel_rfl) (by kernel_rfl) ?_
          repeat (go_big_quiet_step ((go_at_call 126; exact later_call (HCa.out _))))
          refine wpQuiet_nil ?_
          rintro _ ⟨x, rfl⟩
          obtain ⟨W3, hW3⟩ : ∃ W3, W3 = x.w := ⟨_, rfl⟩
          have hb3 : Below wr.heap.size wr W3 := by rw [hW3]; exact x.below
          rw [← hW3]
          have htb3 := (hb3.block T (Nat.lt_of_lt_of_le HTlt.out HSz.out)).trans HTbr.out
          have u0 : W3.cell? ⟨T, 0, none⟩ = some (.int .u8 s.rule) := (cell_rowC htb3 0).trans rfl
          have u1 : W3.cell? ⟨T, 1, none⟩ = some (.int .i64 e') := (cell_rowC htb3 1).trans rfl
          have u2 : W3.cell? ⟨T, 2, none⟩ = some (.string ⟨s.word.toArray⟩) := (cell_rowC htb3 2).trans rfl
          have u3 : W3.cell? ⟨T, 3, none⟩ = some (.slice qa qn qc) := (cell_rowC htb3 3).trans rfl
          have z1 : W3.frozen? ⟨T, 1, none⟩ = false := by simp [World.frozen?, htb3]
          have g0 := cell_kept' hb3 HG.out.1
          have HB3 := Lib.hid hb3
          have HTb3 := Lib.hid htb3
          clear hW3 x hb3 htb3 m0 m1 m2 m3
          go_upto_region 8 with (fail)
          obtain ⟨W4, hW4⟩ : ∃ W4, W4 = W3.setCell ⟨T, 1, none⟩ (.int .i64 ix) := ⟨_, rfl⟩
          have htb4 : W4.heap[T]? = some (.cells #[.int .u8 s.rule, .int .i64 ix, .string ⟨s.word.toArray⟩, .slice qa qn qc] 148 (0, 0)) := by rw [hW4]; exact (heap_setCell_same _ _ 1 _ _ _ HTb3.out).trans rfl
          have hst4 : StepsR w2.heap.size W4 (.slice va L vc) (entsTo l fs third s k) := by rw [hW4, HLn.out]; exact (HSt.out.below HB3.out).setT HTlt.out HTb3.out
          have hsp4 : SpansAt W4 (.slice qa qn qc) s.parts := by rw [hW4]; exact ((HSp.out.below HBr.out).below HB3.out).setT HTb3.out
          have hs4 : wr.heap.size ≤ W4.heap.size := by rw [hW4]; simpa using HB3.out.size
          have hold4 : ∀ b, b < w2.heap.size → b ≠ T → W4.heap[b]? = w2.heap[b]? := fun b h1 h2 => by
            rw [hW4, Below.heap_setCell _ _ _ _ (by simpa using h2)]
            exact (HB3.out.block b (Nat.lt_of_lt_of_le h1 HSz.out)).trans (HOld.out b h1 h2)
          have hb4 : Below w.heap.size w W4 := by
            rw [hW4]
            exact (HBr.out.trans (HB3.out.mono HBr.out.size)).setCell (by have := HT.out; simp; omega) _
          rw [← hW4]
          have v0 : W4.cell? ⟨T, 0, none⟩ = some (.int .u8 s.rule) := (cell_rowC htb4 0).trans rfl
          have v1 : W4.cell? ⟨T, 1, none⟩ = some (.int .i64 ix) := (cell_rowC htb4 1).trans rfl
          have v2 : W4.cell? ⟨T, 2, none⟩ = some (.string ⟨s.word.toArray⟩) := (cell_rowC htb4 2).trans rfl
          have v3 : W4.cell? ⟨T, 3, none⟩ = some (.slice qa qn qc) := (cell_rowC htb4 3).trans rfl
          have HTb4 := Lib.hid htb4
          have HSt4 := Lib.hid hst4
          have HSp4 := Lib.hid hsp4
          have HS4 := Lib.hid (Nat.le_trans HSz.out hs4)
          have HOld4 := Lib.hid hold4
          have HB4 := Lib.hid hb4
          clear hW4 htb4 hst4 hsp4 hs4 hold4 hb4 u0 u1 u2 u3 z1 g0
          go_wp2_with (first
            | (at_builtin; refine wpList_append_steps rfl (.tmp 53) (.tmp 55) rfl w2.heap.size (.slice va L vc) (entsTo l fs third s k) rfl (HSt4.out.below ((Below.refl W4.heap.size W4).alloc (Nat.le_refl _) _)) w2.heap.size (.slice (some ⟨W4.heap.size, 0, none⟩) 1 1) [{ s with entry := ix }] rfl (StepsR.new (q := ⟨s.rule, ix, ⟨s.word.toArray⟩, qa, qn, qc⟩) HS4.out ⟨rfl, rfl, rfl, HSp4.out⟩) (by rw [← HLn.out]; simp; omega) (Nat.le_trans HS4.out (by simp)) ?_; intro v6 w6 hs6 hg6 hat6; have HS6 := Lib.hid hs6; have HG6 := Lib.hid hg6; clear hs6 hg6 hat6)
            | fail)
          have hown : ∀ c, (Value.slice va L vc).ownBlock = some c → w2.heap.size ≤ c := fun c hc => by
            obtain ⟨_, _, ho, _⟩ := HSt4.out
            exact (World.ownsRow.lt ho c (by rw [← hc])).1
          have hkeep : ∀ b, b < w2.heap.size → w6.heap[b]? = W4.heap[b]? := fun b hb => by
            refine (HG6.out.block b (by have := HS4.out; simp; omega) (fun e => ?_)).trans (Below.heap_alloc _ _ _ (Nat.lt_of_lt_of_le hb HS4.out))
            have := hown b e.symm
            omega
          have hb6 : Below w.heap.size w w6 := (HB4.out.alloc HB4.out.size _).grown HG6.out (Nat.le_trans HB4.out.size (by simp)) (fun c hc => Nat.le_trans HB2.out.size (hown c hc))
          have hsz6 : w2.heap.size ≤ w6.heap.size := by have h1 := HG6.out.size; have h2 := HS4.out; simp at h1; omega
          have HFin := Lib.hid (And.intro hkeep (And.intro hb6 hsz6))
          clear hown hkeep hb6 hsz6 v0 v1 v2 v3
          go_roundw
          case rel => exact ⟨k + 1, ix, by omega, by go_num, (HFin.out.1 T HTlt.out).trans HTb4.out, by rw [HYes.out]; exact HS6.out, fun b h1 h2 => (HFin.out.1 b h1).trans (HOld4.out b h1 h2), HFin.out.2.2, HFin.out.2.1⟩
          case measure => simp [intOf]; omega
        · have e1 : (D == C) = false := by simpa using hdc
          have hno : entsTo l fs third s (k + 1) = entsTo l fs third s k := by rw [HNx.out, hbt, e1]; simp
          have HNo := Lib.hid hno
          clear hdc hno
          go_wp2
          refine wp_region_later (by kernel_rfl) (by kernel_rfl) ?_
          repeat (go_big_quiet_step ((go_at_call 126; exact later_call (HCa.out _))))
          refine wpQuiet_nil ?_
          rintro _ ⟨x, rfl⟩
          have HX := Lib.hid x.below
          clear m0 m1 m2 m3
          go_wp2
          go_roundw
          case rel => exact ⟨k + 1, e', by omega, by go_num, (HX.out.block T (Nat.lt_of_lt_of_le HTlt.out HSz.out)).trans HTbr.out, by rw [HNo.out, HLn.out]; exact HSt.out.below HX.out, fun b h1 h2 => (HX.out.block b (Nat.lt_of_lt_of_le h1 HSz.out)).trans (HOld.out b h1 h2), Nat.le_trans HSz.out HX.out.size, HBr.out.trans (HX.out.mono HBr.out.size)⟩
          case measure => simp [intOf]; omega
      · have hno : entsTo l fs third s (k + 1) = entsTo l fs third s k := by rw [HNx.out, hbt]; simp
        have HNo := Lib.hid hno
        clear hno
        go_wp2
        refine wp_region_later (by kernel_rfl) (by kernel_rfl) ?_
        repeat (go_big_quiet_step (fail))
        refine wpQuiet_nil ?_
        rintro _ ⟨x, rfl⟩
        have HX := Lib.hid x.below
        clear m0 m1 m2 m3
        go_wp2
        go_roundw
        case rel => exact ⟨k + 1, e', by omega, by go_num, (HX.out.block T (Nat.lt_of_lt_of_le HTlt.out HSz.out)).trans HTbr.out, by rw [HNo.out, HLn.out]; exact HSt.out.below HX.out, fun b h1 h2 => (HX.out.block b (Nat.lt_of_lt_of_le h1 HSz.out)).trans (HOld.out b h1 h2), Nat.le_trans HSz.out HX.out.size, HBr.out.trans (HX.out.mono HBr.out.size)⟩
        case measure => simp [intOf]; omega
    · have hd : decide ((k : Int) < (n : Int)) = false := decide_eq_false (by omega)
      obtain rfl : k = n := by omega
      clear hbr hst hold hsz htb hL
      go_wp2
      go_ret
      exact ⟨_, rfl, by rw [HLn.out, ← HN.out]; exact (HSt.out.base HB2.out.size), HBr.out⟩
end Go.Proofs.YthmnffgjckpkiaaGreatDoor
namespace Go.Proofs.YthmnffgjckpkiaaGreatDoor
open Go Go.RowKit

/-- A part of a step lies within its span and is shorter. -/
def PartOk (f t : Nat) (p : Nat × Nat × Nat) : Prop := 1 ≤ p.1 ∧ p.1 ≤ 7 ∧ f ≤ p.2.1 ∧ p.2.1 ≤ t ∧ p.2.2 ≤ t ∧ p.2.2 - p.2.1 < t - f
def StepOk (f t : Nat) (s : StepS) : Prop := s.parts.length ≤ 2 ∧ s.rule ≤ 19 ∧ ∀ p ∈ s.parts, PartOk f t p
theorem stp_ents_ok {g : Gr} {tok : List UInt8} {third : Bool} {s : StepS} {f t : Nat} (h : StepOk f t s) : ∀ x ∈ entsS g tok third s, StepOk f t x := by
  intro x hx
  obtain ⟨y, _, rfl⟩ := List.mem_map.1 hx
  exact h
theorem halves_ok {g : Gr} {F f t rule kind : Nat} {b : List UInt8} (hF : F ≤ f) (hr : rule ≤ 19) (hk : 1 ≤ kind ∧ kind ≤ 7) : ∀ x ∈ halvesS g f t rule b kind, StepOk F t x := by
  intro x hx
  obtain ⟨k, hk1, hx⟩ := List.mem_filterMap.1 hx
  obtain ⟨j, hj, rfl⟩ := List.mem_map.1 hk1
  have := List.mem_range.1 hj
  split at hx
  · injection hx with hx
    subst hx
    refine ⟨by simp, hr, fun p hp => ?_⟩
    simp only [List.mem_cons, List.not_mem_nil, or_false] at hp
    rcases hp with rfl | rfl
    · simp [PartOk]; omega
    · simp [PartOk]; omega
  · cases hx
theorem one_ok {F t rule kind a : Nat} {e : Nat} {w : List UInt8} (hr : rule ≤ 19) (hk : 1 ≤ kind ∧ kind ≤ 7) (h1 : F < a) (h2 : a ≤ t) : StepOk F t ⟨rule, e, w, [(kind, a, t)]⟩ := by
  refine ⟨by simp, hr, fun p hp => ?_⟩
  obtain rfl := List.mem_singleton.1 hp
  simp [PartOk]; omega
theorem none_ok {F t rule : Nat} {e : Nat} {w : List UInt8} (hr : rule ≤ 19) : StepOk F t ⟨rule, e, w, []⟩ := ⟨by simp, hr, by simp⟩
theorem verbs_ok {g : Gr} {F f t : Nat} {third : Bool} (hF : F ≤ f) : ∀ x ∈ verbsS g f t third, StepOk F t x := by
  intro x hx
  unfold verbsS at hx
  split at hx
  · cases hx
  · split at hx
    · exact stp_ents_ok (none_ok (by omega)) x hx
    · exact stp_ents_ok (one_ok (by omega) (by omega) (by omega) (by omega)) x hx
theorem states_ok {g : Gr} {F f t : Nat} (hF : F ≤ f) : ∀ x ∈ statesS g f t, StepOk F t x := by
  intro x hx
  unfold statesS at hx
  split at hx
  · exact stp_ents_ok (none_ok (by omega)) x hx
  · split at hx
    · obtain rfl := List.mem_singleton.1 hx
      exact one_ok (by omega) (by omega) (by omega) (by omega)
    · cases hx
theorem second_lt {g : Gr} {f t : Nat} {w : List UInt8} (hw : w ≠ []) (h : secondS g f t = w) : f + 1 < t := by
  unfold secondS at h
  split at h
  · assumption
  · exact absurd h.symm hw
/-- **The steps of a span.** -/
theorem steps_ok (g : Gr) (k f t : Nat) : ∀ x ∈ stepsS g k f t, StepOk f t x := by
  intro x hx
  unfold stepsS at hx
  split at hx
  · cases hx
  rename_i hlt
  split at hx
  · unfold clauseS at hx
    simp only [List.mem_append] at hx
    rcases hx with (((hx | hx) | hx) | hx) | hx
    · split at hx
      · exact halves_ok (by omega) (by omega) (by omega) x hx
      · cases hx
    · exact halves_ok (by omega) (by omega) (by omega) x hx
    · exact halves_ok (by omega) (by omega) (by omega) x hx
    · exact halves_ok (by omega) (by omega) (by omega) x hx
    · obtain ⟨y, hy, rfl⟩ := List.mem_map.1 hx
      obtain ⟨j, hj, rfl⟩ := List.mem_map.1 hy
      have := List.mem_range.1 hj
      refine ⟨by simp, by simp, fun p hp => ?_⟩
      simp only [List.mem_cons, List.not_mem_nil, or_false] at hp
      rcases hp with rfl | rfl
      · simp [PartOk]; omega
      · simp [PartOk]; omega
  split at hx
  · unfold nounPS at hx
    split at hx
    · exact stp_ents_ok (none_ok (by omega)) x hx
    · split at hx
      · split at hx
        · obtain rfl := List.mem_singleton.1 hx
          exact one_ok (by omega) (by omega) (by omega) (by omega)
        · cases hx
      · split at hx
        · obtain rfl := List.mem_singleton.1 hx
          exact one_ok (by omega) (by omega) (by omega) (by omega)
        · cases hx
  split at hx
  · unfold nounS' at hx
    split at hx
    · exact stp_ents_ok (none_ok (by omega)) x hx
    · simp only [List.mem_append] at hx
      rcases hx with hx | hx
      · exact stp_ents_ok (one_ok (by omega) (by omega) (by omega) (by omega)) x hx
      · split at hx
        · simp only [List.mem_append] at hx
          rename_i hh
          rcases hx with hx | hx
          · exact stp_ents_ok (one_ok (by omega) (by omega) (by omega) (by omega)) x hx
          · refine stp_ents_ok ⟨by simp, by simp, fun p hp => ?_⟩ x hx
            simp only [List.mem_cons, List.not_mem_nil, or_false] at hp
            rcases hp with rfl | rfl
            · simp [PartOk]; omega
            · simp [PartOk]; omega
        · cases hx
  split at hx
  · unfold verbPS at hx
    simp only [List.mem_append] at hx
    rcases hx with ((((hx | hx) | hx) | hx) | hx) | hx
    · exact verbs_ok (Nat.le_refl _) x hx
    · split at hx
      · exact states_ok (by omega) x hx
      · cases hx
    · split at hx
      · rename_i hh
        have := second_lt (by decide) hh.2
        obtain rfl := List.mem_singleton.1 hx
        exact one_ok (by omega) (by omega) (by omega) (by omega)
      · cases hx
    · split at hx
      · rename_i hh
        have := second_lt (by decide) hh.2
        obtain rfl := List.mem_singleton.1 hx
        exact one_ok (by omega) (by omega) (by omega) (by omega)
      · cases hx
    · exact halves_ok (by omega) (by omega) (by omega) x hx
    · exact halves_ok (by omega) (by omega) (by omega) x hx
  split at hx
  · split at hx
    · exact stp_ents_ok (none_ok (by omega)) x hx
    · cases hx
  split at hx
  · exact verbs_ok (Nat.le_refl _) x hx
  split at hx
  · exact states_ok (Nat.le_refl _) x hx
  · cases hx

/-! ### How many -/
theorem stp_ents_len (g : Gr) (tok : List UInt8) (third : Bool) (s : StepS) {N : Nat} (h : (lookS tok g.l).length ≤ N) : (entsS g tok third s).length ≤ N := by
  unfold entsS
  rw [List.length_map]
  exact Nat.le_trans (List.length_filter_le _ _) h
theorem halves_len (g : Gr) (f t rule : Nat) (b : List UInt8) (kind : Nat) : (halvesS g f t rule b kind).length ≤ t - f := by
  unfold halvesS
  refine Nat.le_trans (List.length_filterMap_le _ _) ?_
  simp
theorem verbs_len (g : Gr) (f t : Nat) (third : Bool) {N : Nat} (h : ∀ tok, (lookS tok g.l).length ≤ N) : (verbsS g f t third).length ≤ N := by
  unfold verbsS
  split
  · simp
  · split
    · exact stp_ents_len g _ _ _ (h _)
    · exact stp_ents_len g _ _ _ (h _)
theorem states_len (g : Gr) (f t : Nat) {N : Nat} (h : ∀ tok, (lookS tok g.l).length ≤ N) (hN : 1 ≤ N) : (statesS g f t).length ≤ N := by
  unfold statesS
  split
  · exact stp_ents_len g _ _ _ (h _)
  · split
    · simpa using hN
    · simp
theorem steps_len (g : Gr) (k f t : Nat) {N : Nat} (h : ∀ tok, (lookS tok g.l).length ≤ N) (hN : 1 ≤ N) (ht : t - f ≤ N) : (stepsS g k f t).length ≤ 6 * N + 2 := by
  unfold stepsS
  split
  · simp
  split
  · unfold clauseS
    have h1 := halves_len g (f + 1) t 1 wThen 1
    have h2 := halves_len g f t 2 wIff 1
    have h3 := halves_len g f t 3 wOr 1
    have h4 := halves_len g f t 4 wAnd 1
    simp only [List.length_append, List.length_map, List.length_range]
    split <;> simp <;> omega
  split
  · unfold nounPS
    split
    · exact Nat.le_trans (stp_ents_len g _ _ _ (h _)) (by omega)
    · split
      · split <;> simp
      · split <;> simp
  split
  · unfold nounS'
    split
    · exact Nat.le_trans (stp_ents_len g _ _ _ (h _)) (by omega)
    · have h1 := fun s => stp_ents_len g (tokAt g f) false s (h (tokAt g f))
      rw [List.length_append]
      have h9 := h1 ⟨9, 0, [], [(3, f + 1, t)]⟩
      split
      · rw [List.length_append]
        have h2 := h1 ⟨10, 0, secondS g f t, [(4, f + 2, t)]⟩
        have h3 := h1 ⟨11, 0, secondS g f t, [(2, f + 2, t - 1), (5, t - 1, t)]⟩
        omega
      · simp; omega
  split
  · unfold verbPS
    have h1 := verbs_len g f t true h
    have h2 := states_len g (f + 1) t h hN
    have h3 := halves_len g f t 17 wOr 4
    have h4 := halves_len g f t 18 wAnd 4
    simp only [List.length_append]
    split <;> split <;> split <;> simp <;> omega
  split
  · split
    · exact Nat.le_trans (stp_ents_len g _ _ _ (h _)) (by omega)
    · simp
  split
  · exact Nat.le_trans (verbs_len g f t false h) (by omega)
  split
  · exact Nat.le_trans (states_len g f t h hN) (by omega)
  · simp

/-! ### Sums -/
/-- The sum of the first steps. -/
def sumTo (c : Nat → Nat → Nat → Nat) (l : List StepS) (i : Nat) : Nat := ((l.take i).map fun s => prodS c s.parts).sum
theorem sumTo_next (c : Nat → Nat → Nat → Nat) (l : List StepS) (i : Nat) (h : i < l.length) : sumTo c l (i + 1) = sumTo c l i + prodS c l[i].parts := by
  unfold sumTo
  rw [List.take_succ_eq_append_getElem h, List.map_append, List.sum_append]
  simp
theorem sumTo_all (c : Nat → Nat → Nat → Nat) (l : List StepS) : timesS c l = min most (sumTo c l l.length) := by
  unfold sumTo timesS
  rw [List.take_length]
/-- The product of the first parts. -/
def prodTo (c : Nat → Nat → Nat → Nat) (ps : List (Nat × Nat × Nat)) (j : Nat) : Nat := prodS c (ps.take j)
theorem prodTo_next (c : Nat → Nat → Nat → Nat) (ps : List (Nat × Nat × Nat)) (j : Nat) (h : j < ps.length) : prodTo c ps (j + 1) = min most (prodTo c ps j * numS c ps[j]) := by
  unfold prodTo prodS
  rw [List.take_succ_eq_append_getElem h, List.foldl_append]
  rfl
theorem prodTo_all (c : Nat → Nat → Nat → Nat) (ps : List (Nat × Nat × Nat)) : prodTo c ps ps.length = prodS c ps := by unfold prodTo; rw [List.take_length]
theorem prodTo_le (c : Nat → Nat → Nat → Nat) (ps : List (Nat × Nat × Nat)) : ∀ j, j ≤ ps.length → prodTo c ps j ≤ most
  | 0, _ => by show (1 : Nat) ≤ most; decide
  | j + 1, h => by rw [prodTo_next c ps j (by omega)]; exact Nat.min_le_left _ _
theorem prodS_le (c : Nat → Nat → Nat → Nat) (ps : List (Nat × Nat × Nat)) : prodS c ps ≤ most := by
  rw [← prodTo_all]; exact prodTo_le c ps _ (Nat.le_refl _)
theorem sumTo_le (c : Nat → Nat → Nat → Nat) (l : List StepS) : ∀ i, i ≤ l.length → sumTo c l i ≤ i * most
  | 0, _ => by simp [sumTo]
  | i + 1, h => by
    rw [sumTo_next c l i (by omega)]
    have := sumTo_le c l i (by omega)
    have := prodS_le c l[i].parts
    rw [Nat.succ_mul]
    omega
theorem timesS_one (c : Nat → Nat → Nat → Nat) (s : StepS) : timesS c [s] = prodS c s.parts := by
  unfold timesS
  have := prodS_le c s.parts
  simp
  omega
theorem numS_le {c : Nat → Nat → Nat → Nat} (hc : ∀ k f t, c k f t ≤ most) (p : Nat × Nat × Nat) : numS c p ≤ most := by
  unfold numS
  split
  · omega
  · exact hc _ _ _
theorem prodS_congr {c c' : Nat → Nat → Nat → Nat} (ps : List (Nat × Nat × Nat)) (h : ∀ p ∈ ps, numS c p = numS c' p) : prodS c ps = prodS c' ps :=
  foldl_congr' _ _ (fun k p hp => by rw [h p hp])
theorem timesS_congr {c c' : Nat → Nat → Nat → Nat} (l : List StepS) (h : ∀ s ∈ l, ∀ p ∈ s.parts, numS c p = numS c' p) : timesS c l = timesS c' l := by
  unfold timesS
  rw [List.map_congr_left (fun s hs => prodS_congr s.parts (h s hs))]

/-! ### Lists of trees -/
def subsTo (T : Nat → Nat → Nat → List Tr) (ps : List (Nat × Nat × Nat)) (j : Nat) : List (List Tr) := subsS T (ps.take j)
theorem subsTo_zero (T : Nat → Nat → Nat → List Tr) (ps : List (Nat × Nat × Nat)) : subsTo T ps 0 = [[]] := rfl
theorem subsTo_next (T : Nat → Nat → Nat → List Tr) (ps : List (Nat × Nat × Nat)) (j : Nat) (h : j < ps.length) : subsTo T ps (j + 1) = (subsTo T ps j).flatMap fun a => (T ps[j].1 ps[j].2.1 ps[j].2.2).map fun b => a ++ [b] := by
  unfold subsTo subsS
  rw [List.take_succ_eq_append_getElem h, List.foldl_append]
  rfl
theorem subsTo_all (T : Nat → Nat → Nat → List Tr) (ps : List (Nat × Nat × Nat)) : subsTo T ps ps.length = subsS T ps := by unfold subsTo; rw [List.take_length]
theorem subsTo_mem (T : Nat → Nat → Nat → List Tr) (ps : List (Nat × Nat × Nat)) : ∀ j, j ≤ ps.length → ∀ l ∈ subsTo T ps j, l.length = j := by
  intro j
  induction j with
  | zero => intro _ l hl; rw [subsTo_zero] at hl; rw [List.mem_singleton.1 hl]; rfl
  | succ j ih =>
    intro h l hl
    rw [subsTo_next _ _ _ (by omega)] at hl
    obtain ⟨a, ha, hl⟩ := List.mem_flatMap.1 hl
    obtain ⟨b, _, rfl⟩ := List.mem_map.1 hl
    rw [List.length_append, ih (by omega) a ha]
    rfl
/-- The lists that come of the first a of some lists, and the first b of the next ones. -/
def pairsTo (xs : List (List Tr)) (bs : List Tr) (a b : Nat) : List (List Tr) := ((xs.take a).flatMap fun x => bs.map fun y => x ++ [y]) ++ match xs[a]? with | some x => (bs.take b).map fun y => x ++ [y] | none => []
theorem pairsTo_start (xs : List (List Tr)) (bs : List Tr) : pairsTo xs bs 0 0 = [] := by
  unfold pairsTo
  cases xs <;> simp
theorem pairsTo_next (xs : List (List Tr)) (bs : List Tr) (a b : Nat) (ha : a < xs.length) (hb : b < bs.length) : pairsTo xs bs a (b + 1) = pairsTo xs bs a b ++ [xs[a] ++ [bs[b]]] := by
  unfold pairsTo
  rw [List.getElem?_eq_getElem ha]
  simp only
  rw [List.take_succ_eq_append_getElem hb, List.map_append, List.append_assoc]
  rfl
theorem pairsTo_row (xs : List (List Tr)) (bs : List Tr) (a : Nat) (ha : a < xs.length) : pairsTo xs bs (a + 1) 0 = pairsTo xs bs a bs.length := by
  unfold pairsTo
  rw [List.take_succ_eq_append_getElem ha, List.getElem?_eq_getElem ha, List.flatMap_append]
  cases h : xs[a + 1]? <;> simp
theorem pairsTo_all (xs : List (List Tr)) (bs : List Tr) : pairsTo xs bs xs.length 0 = xs.flatMap fun x => bs.map fun y => x ++ [y] := by
  unfold pairsTo
  simp
theorem pairsTo_len (xs : List (List Tr)) (bs : List Tr) {M N : Nat} (hM : xs.length ≤ M) (hN : bs.length ≤ N) (a b : Nat) (ha : a ≤ xs.length) : (pairsTo xs bs a b).length ≤ M * N + N := by
  unfold pairsTo
  rw [List.length_append, len_flatMap]
  simp only [List.length_map]
  rw [List.map_const', List.sum_replicate_nat, List.length_take]
  have h1 : min a xs.length * bs.length ≤ M * N := Nat.mul_le_mul (by omega) hN
  split
  · rw [List.length_map, List.length_take]; omega
  · simp; omega
/-- The trees of the first steps. -/
def treesTo (g : Gr) (ss : List StepS) (i : Nat) : List Tr := (ss.take i).flatMap (stepTrees g)
theorem treesTo_next (g : Gr) (ss : List StepS) (i : Nat) (h : i < ss.length) : treesTo g ss (i + 1) = treesTo g ss i ++ stepTrees g ss[i] := by
  unfold treesTo
  rw [List.take_succ_eq_append_getElem h, List.flatMap_append]
  simp
theorem treesTo_all (g : Gr) (ss : List StepS) : treesTo g ss ss.length = ss.flatMap (stepTrees g) := by unfold treesTo; rw [List.take_length]
theorem treesTo_len (g : Gr) (ss : List StepS) (i : Nat) : (treesTo g ss i).length ≤ (ss.flatMap (stepTrees g)).length := by
  unfold treesTo
  conv => rhs; rw [← List.take_append_drop i ss, List.flatMap_append, List.length_append]
  omega
theorem prod_zero {c : Nat → Nat → Nat → Nat} : ∀ (l : List (Nat × Nat × Nat)), l.foldl (fun k p => min most (k * numS c p)) 0 = 0
  | [] => rfl
  | p :: ps => by
    simp only [List.foldl_cons, Nat.zero_mul, Nat.min_zero]
    exact prod_zero ps
theorem prod_mono {c : Nat → Nat → Nat → Nat} : ∀ (l : List (Nat × Nat × Nat)) (m : Nat), l.foldl (fun k p => min most (k * numS c p)) m ≠ 0 → min most m ≤ l.foldl (fun k p => min most (k * numS c p)) m
  | [], m, _ => by simp only [List.foldl_nil]; omega
  | p :: ps, m, hm => by
    simp only [List.foldl_cons] at hm ⊢
    have h3 := prod_mono ps _ hm
    have h4 : numS c p ≠ 0 := by
      intro e
      rw [e, Nat.mul_zero, Nat.min_zero] at hm
      exact hm (prod_zero ps)
    have h5 : m ≤ m * numS c p := Nat.le_mul_of_pos_right m (by omega)
    omega
theorem prodS_pos {c : Nat → Nat → Nat → Nat} : ∀ (ps : List (Nat × Nat × Nat)) (n : Nat), (ps.foldl (fun k p => min most (k * numS c p)) n) ≠ 0 → n ≠ 0 ∧ ∀ p ∈ ps, numS c p ≠ 0 ∧ min most (numS c p) ≤ ps.foldl (fun k p => min most (k * numS c p)) n
  | [], n, h => ⟨h, by simp⟩
  | q :: qs, n, h => by
    simp only [List.foldl_cons] at h ⊢
    obtain ⟨h1, h2⟩ := prodS_pos qs _ h
    have hq : n ≠ 0 ∧ numS c q ≠ 0 := by
      constructor
      · intro e; rw [e] at h1; simp at h1
      · intro e; rw [e] at h1; simp at h1
    refine ⟨hq.1, fun p hp => ?_⟩
    rcases List.mem_cons.1 hp with rfl | hp
    · refine ⟨hq.2, ?_⟩
      have h3 := prod_mono _ _ h
      have h4 : numS c p ≤ n * numS c p := Nat.le_mul_of_pos_left _ (by omega)
      omega
    · exact h2 p hp
/-- A step that has parses: no part has more than the span. -/
theorem part_small {g : Gr} {k f t : Nat} (h1 : 1 ≤ k) (h7 : k ≤ 7) (ht : t ≤ g.toks.length) (h64 : cntS g k f t ≤ 64) {s : StepS} (hs : s ∈ stepsS g k f t) (h0 : prodS (cntS g) s.parts ≠ 0) : prodS (cntS g) s.parts ≤ 64 ∧ ∀ p ∈ s.parts, cntS g p.1 p.2.1 p.2.2 ≤ 64 := by
  have hc := cnt_steps g h1 h7 ht (f := f)
  have hsum : prodS (cntS g) s.parts ≤ ((stepsS g k f t).map fun s => prodS (cntS g) s.parts).sum := by
    obtain ⟨a, b, hab⟩ := List.append_of_mem hs
    rw [hab]; simp; omega
  unfold timesS at hc
  have hm : (64 : Nat) < most := by decide
  have hp := prodS_le (cntS g) s.parts
  refine ⟨by omega, fun p hpm => ?_⟩
  have h2 := (prodS_pos s.parts 1 h0).2 p hpm
  rw [numS_cnt] at h2
  have h3 := h2.2
  have h4 : min most (cntS g p.1 p.2.1 p.2.2) ≤ prodS (cntS g) s.parts := h3
  have := cntS_le g p.1 p.2.1 p.2.2
  omega
theorem sub_trees_len {g : Gr} {k f t : Nat} (h : cntS g k f t ≤ 64) : (treesS g k f t).length ≤ 64 := by
  have hm : (64 : Nat) < most := by decide
  rw [trees_count g (by omega)]; exact h
theorem subsTo_len {g : Gr} (ps : List (Nat × Nat × Nat)) (hl : ps.length ≤ 2) (h : ∀ p ∈ ps, cntS g p.1 p.2.1 p.2.2 ≤ 64) : ∀ j, j ≤ ps.length → (subsTo (treesS g) ps j).length ≤ 4096 := by
  have key : ∀ j, j ≤ ps.length → (subsTo (treesS g) ps j).length ≤ 64 ^ j := by
    intro j
    induction j with
    | zero => intro _; simp [subsTo_zero]
    | succ j ih =>
      intro hj
      have h1 := ih (by omega)
      rw [subsTo_next _ _ _ (by omega), len_flatMap]
      simp only [List.length_map]
      rw [List.map_const', List.sum_replicate_nat]
      have h2 := sub_trees_len (h ps[j] (List.getElem_mem (by omega)))
      rw [Nat.pow_succ]
      exact Nat.mul_le_mul h1 h2
  intro j hj
  have h1 := key j hj
  have h2 : 64 ^ j ≤ 64 ^ 2 := Nat.pow_le_pow_right (by decide) (by omega)
  omega
end Go.Proofs.YthmnffgjckpkiaaGreatDoor
namespace Go.Proofs.YthmnffgjckpkiaaGreatDoor
open Go Go.RowKit Go.Shelf

/-- What the reference's steps read: a valid lexicon, tokens. -/
structure GIn (w : World) (g : Gr) (lv tv : Value) : Prop where
  l : EntSlice w lv g.l
  t : StrSlice w tv g.toks
  val : validS g.l = true
  l100 : g.l.length ≤ 100
  t1000 : g.toks.length ≤ 1000
theorem GIn.below {w w' : World} {g : Gr} {lv tv : Value} (h : GIn w g lv tv) (hb : Below w.heap.size w w') : GIn w' g lv tv :=
  ⟨h.l.below hb, h.t.below hb, h.val, h.l100, h.t1000⟩
/-- The cell of a token. -/
theorem GIn.cell {w : World} {g : Gr} {lv tv : Value} (h : GIn w g lv tv) {i : Nat} (hi : i < g.toks.length) :
    ∃ tb toff cap, tv = .slice (some ⟨tb, toff, none⟩) g.toks.length cap ∧ w.cell? ⟨tb, toff + i, none⟩ = some (.string ⟨(Go.Proofs.YthmnffgjckpkiaaGreatDoor.tokAt g i).toArray⟩) := by
  obtain ⟨ta, tcap, rfl, _, _, htf⟩ := h.t
  obtain ⟨tb, toff, rfl, hc⟩ := htf.resolve_left (fun h0 => by rw [h0] at hi; simp at hi)
  refine ⟨tb, toff, tcap, rfl, ?_⟩
  have := hc i hi
  unfold Go.Proofs.YthmnffgjckpkiaaGreatDoor.tokAt
  rw [List.getD_eq_getElem?_getD, List.getElem?_eq_getElem hi]
  exact this
theorem shape_cat : ∀ r : Nat, r ≤ 19 → (shapeS r).cat = catR r := by
  intro r hr
  rcases (show r = 0 ∨ r = 1 ∨ r = 2 ∨ r = 3 ∨ r = 4 ∨ r = 5 ∨ r = 6 ∨ r = 7 ∨ r = 8 ∨ r = 9 ∨ r = 10 ∨ r = 11 ∨ r = 12 ∨ r = 13 ∨ r = 14 ∨ r = 15 ∨ r = 16 ∨ r = 17 ∨ r = 18 ∨ r = 19 by omega) with rfl | rfl | rfl | rfl | rfl | rfl | rfl | rfl | rfl | rfl | rfl | rfl | rfl | rfl | rfl | rfl | rfl | rfl | rfl | rfl <;> rfl
/-- entries, at a step of a rule. -/
theorem rEnts (w : World) (g : Gr) (lv tv : Value) (hg : GIn w g lv tv) (tok : List UInt8) (third : Bool) (q : TV) (s : StepS) (hr : s.rule ≤ 19) (hq : StepV w q s) :
    Calls Tryz.prog 150 #[lv, .string ⟨tok.toArray⟩, .bool third, q.val] w fun e w' => ∃ v', e = .returned v' ∧ StepsR w.heap.size w' v' (entsS g tok third s) ∧ Below w.heap.size w w' := by
  have h := rEntries_any w g.l lv hg.l hg.val hg.l100 tok third q s hq
  rw [entsTo_all (shape_cat _ hr)] at h
  exact h
theorem look100 {g : Gr} {w : World} {lv tv : Value} (hg : GIn w g lv tv) (tok : List UInt8) : (lookS tok g.l).length ≤ 100 := by
  have := lookTo_len tok g.l g.l.length
  rw [lookTo_all] at this
  have := hg.l100
  omega
theorem spans_new {W : World} (H : Nat) (hH : W.heap.size = H) (cs : Array Value) (ps : List (Nat × Nat × Nat)) (hc : cs.toList = ps.flatMap spanCells) (n c : Nat) (hn : n = ps.length) : SpansAt (W.alloc (.cells cs 115)) (.slice (some ⟨H, 0, none⟩) n c) ps := by
  subst hH; subst hn
  exact .inr ⟨_, _, _, rfl, World.alloc_heap_new _ _, hc⟩

theorem rArticle_all (s : ByteArray) (w : World) :
    Calls Tryz.prog 128 #[.string s] w fun e w' => e = .returned (.string ⟨(articleS s.data.toList).toArray⟩) ∧ w = w' := by
  by_cases h : s.size = 0
  · have e : articleS s.data.toList = [97] := by rw [data_empty h]; rfl
    rw [e]
    clear e
    go_enter Tryz.func128, Tryz.ntmps128
    go_wp2
    go_ret
    exact ⟨rfl, rfl⟩
  · have h0 : 0 < s.size := Nat.pos_of_ne_zero h
    have h3 := data_some h0
    have h4 : inVowels (s.data.toList.take 1) = vowelI s[0].toNat := by
      have e : s.data.toList.take 1 = [s[0]] := by
        rw [← headD_get h0]
        have hl := len_data s
        match hd : s.data.toList with
        | [] => rw [hd] at hl; simp at hl; omega
        | c :: r => simp
      rw [e, vowel_one]
    have H4 := Lib.hid h4
    have H3 := Lib.hid h3
    clear h h3 h4
    cases hv : vowelI s[0].toNat
    all_goals
      have C := Lib.hid (fun w => hv ▸ rvowel_any (s[0].toNat : Int) w)
      have HVw := Lib.hid hv
      clear hv
      go_enter Tryz.func128, Tryz.ntmps128
      go_wp2_with (go_at_call 161; refine (C.out _).mono ?_; rintro e w' ⟨rfl, rfl⟩)
      go_ret
      exact ⟨ret_str (by unfold articleS; rw [H3.out, H4.out, HVw.out]; rfl), rfl⟩
theorem rArticleL (a0 : List UInt8) (W : World) : Calls Tryz.prog 128 #[.string ⟨a0.toArray⟩] W fun e w' => e = .returned (.string ⟨(articleS a0).toArray⟩) ∧ W = w' := by
  have h2 := rArticle_all ⟨a0.toArray⟩ W
  have e : (⟨a0.toArray⟩ : ByteArray).data.toList = a0 := by simp
  rw [e] at h2
  exact h2
set_option maxRecDepth 100000 in
set_option maxHeartbeats 4000000 in
theorem rVerbs_any (w : World) (g : Gr) (lv tv : Value) (hg : GIn w g lv tv) (f t : Nat) (third : Bool) (ht : t ≤ g.toks.length) (hf : f ≤ 1010) :
    Calls Tryz.prog 151 #[lv, tv, .int .i64 f, .int .i64 t, .bool third] w fun e w' => ∃ v', e = .returned v' ∧ StepsR w.heap.size w' v' (verbsS g f t third) ∧ Below w.heap.size w w' := by
  have ht1 := hg.t1000
  have y0 : IntKind.i64.wrap ((t : Int) - (f : Int)) = (t : Int) - (f : Int) := IntWalk.i64_in _ (by omega)
  by_cases h0 : t ≤ f
  · have hv : verbsS g f t third = [] := by unfold verbsS; rw [if_pos h0]
    rw [hv]
    have d1 : decide ((t : Int) - (f : Int) < 1) = true := decide_eq_true (by omega)
    clear hv h0 hg
    go_enter Tryz.func151, Tryz.ntmps151
    go_wp2
    go_ret
    exact ⟨_, rfl, StepsR.nil _ _, Below.refl _ _⟩
  · have d1 : decide ((t : Int) - (f : Int) < 1) = false := decide_eq_false (by omega)
    obtain ⟨tb, toff, tcap, rfl, c0⟩ := hg.cell (i := f) (by omega)
    have b1 : (0 : Int) ≤ (f : Int) := by omega
    have b2 : (f : Int) < (g.toks.length : Int) := by omega
    by_cases h1 : t = f + 1
    · have hv : verbsS g f t third = entsS g (tokAt g f) third ⟨12, 0, [], []⟩ := by unfold verbsS; rw [if_neg h0, if_pos h1]
      rw [hv]
      have d2 : ((t : Int) - (f : Int) == 1) = true := by simp; omega
      obtain ⟨tk, htk⟩ : ∃ tk, tk = tokAt g f := ⟨_, rfl⟩
      rw [← htk] at c0 ⊢
      have hcall := rEnts w g lv _ hg tk third ⟨12, 0, ⟨#[]⟩, none, 0, 0⟩ ⟨12, 0, [], []⟩ (Nat.le_of_ble_eq_true rfl) ⟨rfl, rfl, rfl, .inl ⟨rfl, rfl⟩⟩
      unfold TV.val at hcall
      have HCall := Lib.hid hcall
      clear hv h0 h1 hg htk hcall
      go_enter Tryz.func151, Tryz.ntmps151
      go_wp2_with (go_at_call 150; refine HCall.out.mono ?_; rintro _ w2 ⟨v', rfl, hr2, hb2⟩)
      go_ret
      exact ⟨_, rfl, hr2, hb2⟩
    · have hv : verbsS g f t third = entsS g (tokAt g f) third ⟨13, 0, [], [(2, f + 1, t)]⟩ := by unfold verbsS; rw [if_neg h0, if_neg h1]
      rw [hv]
      have d2 : ((t : Int) - (f : Int) == 1) = false := by simp; omega
      have y1 : IntKind.i64.wrap ((f : Int) + 1) = ((f + 1 : Nat) : Int) := by rw [show (f : Int) + 1 = ((f + 1 : Nat) : Int) by omega]; exact IntWalk.i64_in _ (by omega)
      obtain ⟨tk, htk⟩ : ∃ tk, tk = tokAt g f := ⟨_, rfl⟩
      rw [← htk] at c0 ⊢
      have hcall := fun W (hb : Below w.heap.size w W) q hq => rEnts W g lv _ (hg.below hb) tk third q ⟨13, 0, [], [(2, f + 1, t)]⟩ (Nat.le_of_ble_eq_true rfl) hq
      have HCall := Lib.hid hcall
      clear hv h0 h1 hg htk hcall
      go_enter Tryz.func151, Tryz.ntmps151
      go_wp2_with fail
      refine (HCall.out _ ((Below.refl _ _).alloc (Nat.le_refl _) _) ⟨13, 0, ⟨#[]⟩, some ⟨w.heap.size, 0, none⟩, 1, 1⟩ ⟨rfl, rfl, rfl, spans_new _ rfl _ _ rfl _ _ rfl⟩).mono ?_
      rintro _ w2 ⟨v', rfl, hr2, hb2⟩
      have HR2 := Lib.hid (hr2.base (B' := w.heap.size) (by simp))
      have HB2 := Lib.hid (((Below.refl w.heap.size w).alloc (Nat.le_refl _) _).trans (hb2.mono (by simp)))
      clear hr2 hb2
      go_wp2
      go_ret
      exact ⟨_, rfl, HR2.out, HB2.out⟩

theorem steps_new {B : Nat} {W : World} (H : Nat) (hH : W.heap.size = H) (hB : B ≤ H) {q : TV} {s : StepS} (h : StepV W q s) : StepsR B (W.alloc (.cells #[.int .u8 q.r, .int .i64 q.e, .string q.w, .slice q.a q.n q.c] 148)) (.slice (some ⟨H, 0, none⟩) 1 1) [s] := by
  subst hH
  exact StepsR.new hB h
set_option maxRecDepth 100000 in
set_option maxHeartbeats 4000000 in
theorem rStates_any (w : World) (g : Gr) (lv tv : Value) (hg : GIn w g lv tv) (f t : Nat) (ht : t ≤ g.toks.length) (hf : f ≤ 1010) :
    Calls Tryz.prog 152 #[lv, tv, .int .i64 f, .int .i64 t] w fun e w' => ∃ v', e = .returned v' ∧ StepsR w.heap.size w' v' (statesS g f t) ∧ Below w.heap.size w w' := by
  have ht1 := hg.t1000
  have y0 : IntKind.i64.wrap ((t : Int) - (f : Int)) = (t : Int) - (f : Int) := IntWalk.i64_in _ (by omega)
  by_cases h1 : t = f + 1
  · have hv : statesS g f t = entsS g (tokAt g f) false ⟨14, 0, [], []⟩ := by unfold statesS; rw [if_pos h1]
    rw [hv]
    obtain ⟨tb, toff, tcap, rfl, c0⟩ := hg.cell (i := f) (by omega)
    have b1 : (0 : Int) ≤ (f : Int) := by omega
    have b2 : (f : Int) < (g.toks.length : Int) := by omega
    have d2 : ((t : Int) - (f : Int) == 1) = true := by simp; omega
    obtain ⟨tk, htk⟩ : ∃ tk, tk = tokAt g f := ⟨_, rfl⟩
    rw [← htk] at c0 ⊢
    have hcall := rEnts w g lv _ hg tk false ⟨14, 0, ⟨#[]⟩, none, 0, 0⟩ ⟨14, 0, [], []⟩ (Nat.le_of_ble_eq_true rfl) ⟨rfl, rfl, rfl, .inl ⟨rfl, rfl⟩⟩
    unfold TV.val at hcall
    have HCall := Lib.hid hcall
    clear hv h1 hg htk hcall
    go_enter Tryz.func152, Tryz.ntmps152
    go_wp2_with (go_at_call 150; refine HCall.out.mono ?_; rintro _ w2 ⟨v', rfl, hr2, hb2⟩)
    go_ret
    exact ⟨_, rfl, hr2, hb2⟩
  · have d2 : ((t : Int) - (f : Int) == 1) = false := by simp; omega
    by_cases h2 : f + 1 < t
    · have d3 : decide ((1 : Int) < (t : Int) - (f : Int)) = true := decide_eq_true (by omega)
      obtain ⟨tb, toff, tcap, rfl, c0⟩ := hg.cell (i := f) (by omega)
      obtain ⟨tb', toff', tcap', he, c1⟩ := hg.cell (i := f + 1) (by omega)
      injection he with he1 _ he3
      injection he1 with he1
      injection he1 with he1 he2
      subst he1 he2 he3
      have b1 : (0 : Int) ≤ (f : Int) := by omega
      have b2 : (f : Int) < (g.toks.length : Int) := by omega
      have b3 : (0 : Int) ≤ ((f + 1 : Nat) : Int) := by omega
      have b4 : ((f + 1 : Nat) : Int) < (g.toks.length : Int) := by omega
      have y1 : IntKind.i64.wrap ((f : Int) + 1) = ((f + 1 : Nat) : Int) := by rw [show (f : Int) + 1 = ((f + 1 : Nat) : Int) by omega]; exact IntWalk.i64_in _ (by omega)
      obtain ⟨tk, htk⟩ : ∃ tk, tk = tokAt g f := ⟨_, rfl⟩
      obtain ⟨tl, htl⟩ : ∃ tl, tl = tokAt g (f + 1) := ⟨_, rfl⟩
      have HV := Lib.hid (show statesS g f t = if tk = articleS tl then [⟨15, 0, [], [(3, f + 1, t)]⟩] else [] by
        unfold statesS
        rw [if_neg h1, htk, htl]
        by_cases h : tokAt g f = articleS (tokAt g (f + 1))
        · rw [if_pos ⟨h2, h⟩, if_pos h]
        · rw [if_neg (fun x => h x.2), if_neg h])
      rw [← htk] at c0
      rw [← htl] at c1
      have hart := rArticleL tl
      have HArt := Lib.hid hart
      have m0 := fun x : Later w => x.get c0
      have m1 := fun x : Later w => x.get c1
      obtain ⟨ar, har⟩ : ∃ ar, ar = articleS tl := ⟨_, rfl⟩
      have HAc : Go.RowKit.Hid (∀ x : Later w, Calls Tryz.prog 128 #[.string ⟨tl.toArray⟩] x.w fun e w' => e = .returned (.string ⟨ar.toArray⟩) ∧ Below x.w.heap.size x.w w') := Lib.hid (fun x => (HArt.out x.w).mono (by rintro e w' ⟨h, rfl⟩; exact ⟨by rw [h, har], Below.refl _ _⟩))
      have HAr := Lib.hid har
      by_cases h3 : tk = ar
      · have e1 : (tk == ar) = true := by simpa using h3
        have H3 := Lib.hid h3
        clear h3 h2 h1 hg htk htl hart c0 c1 har
        go_enter Tryz.func152, Tryz.ntmps152
        go_wp2
        refine wp_region_later (by kernel_rfl) (by kernel_rfl) ?_
        repeat (go_big_quiet_step ((go_at_call 128; exact later_call (HAc.out _))))
        refine wpQuiet_nil ?_
        rintro _ ⟨x, rfl⟩
        have HX := Lib.hid x.below
        obtain ⟨W, hW⟩ : ∃ W, W = x.w := ⟨_, rfl⟩
        rw [← hW] at HX ⊢
        clear m0 m1 hW x
        go_wp2
        go_ret
        refine ⟨_, rfl, ?_, (HX.out.alloc HX.out.size _).alloc (Nat.le_trans HX.out.size (by simp)) _⟩
        rw [HV.out, if_pos (H3.out.trans HAr.out)]
        exact steps_new (q := ⟨15, 0, ⟨#[]⟩, some ⟨W.heap.size, 0, none⟩, 1, 1⟩) _ (by simp) (Nat.le_trans HX.out.size (by simp)) ⟨rfl, rfl, rfl, spans_new _ rfl _ _ rfl _ _ rfl⟩
      · have e1 : (tk == ar) = false := by simpa using h3
        have H3 := Lib.hid h3
        clear h3 h2 h1 hg htk htl hart c0 c1 har
        go_enter Tryz.func152, Tryz.ntmps152
        go_wp2
        refine wp_region_later (by kernel_rfl) (by kernel_rfl) ?_
        repeat (go_big_quiet_step ((go_at_call 128; exact later_call (HAc.out _))))
        refine wpQuiet_nil ?_
        rintro _ ⟨x, rfl⟩
        have HX := Lib.hid x.below
        clear m0 m1
        go_wp2
        go_ret
        refine ⟨_, rfl, ?_, HX.out⟩
        rw [HV.out, if_neg (fun h => H3.out (h.trans HAr.out.symm))]
        exact StepsR.nil _ _
    · have hv : statesS g f t = [] := by
        unfold statesS
        rw [if_neg h1, if_neg (fun x => h2 x.1)]
      rw [hv]
      have d3 : decide ((1 : Int) < (t : Int) - (f : Int)) = false := decide_eq_false (by omega)
      clear hv h1 h2 hg
      go_enter Tryz.func152, Tryz.ntmps152
      go_wp2
      refine wp_region_later (by kernel_rfl) (by kernel_rfl) ?_
      repeat (go_big_quiet_step (fail))
      refine wpQuiet_nil ?_
      rintro _ ⟨x, rfl⟩
      have HX := Lib.hid x.below
      go_wp2
      go_ret
      exact ⟨_, rfl, StepsR.nil _ _, HX.out⟩
end Go.Proofs.YthmnffgjckpkiaaGreatDoor
namespace Go.Proofs.YthmnffgjckpkiaaGreatDoor
open Go Go.RowKit Go.Shelf

set_option maxRecDepth 100000 in
set_option maxHeartbeats 2000000 in
theorem rBare_any (w : World) (tv : Value) (toks : List (List UInt8)) (hts : StrSlice w tv toks) :
    Calls Tryz.prog 72 #[tv] w fun e w' => ∃ v', e = .returned v' ∧ StrSlice w' v' (bareS toks) ∧ Below w.heap.size w w' := by
  obtain ⟨ta, tcap, rfl, htc, htcm, htf⟩ := hts
  have hlm : toks.length ≤ 9223372036854775807 := by unfold maxLen at htcm; omega
  by_cases h0 : toks = []
  · subst h0
    clear htc htcm htf hlm
    go_enter Tryz.func72, Tryz.ntmps72
    go_wp2
    go_ret
    exact ⟨_, rfl, ⟨none, 0, rfl, Nat.le_refl _, Nat.zero_le _, .inl rfl⟩, Below.refl _ _⟩
  · obtain ⟨tb, toff, rfl, hc⟩ := htf.resolve_left h0
    have hpos := List.length_pos_iff.2 h0
    obtain ⟨n, hn⟩ : ∃ n, toks.length = n + 1 := ⟨toks.length - 1, by omega⟩
    have c0 := hc n (by omega)
    obtain ⟨lw, hlw⟩ : ∃ lw, lw = toks[n] := ⟨_, rfl⟩
    rw [← hlw] at c0
    have hlast : toks.getLast? = some lw := by
      rw [List.getLast?_eq_getElem?, hn, Nat.add_sub_cancel, List.getElem?_eq_getElem (by omega), hlw]
    have HC := Lib.hid hc
    have HN := Lib.hid hn
    have HLa := Lib.hid hlast
    have HTc := Lib.hid (And.intro htc htcm)
    rw [hn] at htc hlm ⊢
    have hw1 : IntKind.i64.wrap (((n + 1 : Nat) : Int) - 1) = (n : Int) := by rw [show ((n + 1 : Nat) : Int) - 1 = (n : Int) by omega]; exact IntWalk.i64_in _ (by omega)
    have hw2 : IntKind.i64.wrap ((n : Int) + 1 - 1) = (n : Int) := by rw [show (n : Int) + 1 - 1 = (n : Int) by omega]; exact IntWalk.i64_in _ (by omega)
    have x1 : (0 : Int) < ((n + 1 : Nat) : Int) := by omega
    have x2 : (((n + 1 : Nat) : Int) == 0) = false := by simp; omega
    have x3 : (n : Int) < ((n + 1 : Nat) : Int) := by omega
    have x4 : (0 : Int) ≤ (n : Int) := by omega
    have x5 : n ≤ tcap := by omega
    have x6 : (n : Int) ≤ (tcap : Int) := by omega
    clear hlw hlast hpos hn hc h0 htf htcm
    by_cases hd : lw = wDot
    · have e1 : (lw == [46]) = true := by rw [hd]; rfl
      have e2 : (lw != [46]) = false := by rw [hd]; rfl
      have HD := Lib.hid hd
      clear hd
      go_wp2
      go_ret
      refine ⟨_, rfl, ?_, Below.refl _ _⟩
      have hp : toks.getLast? = some wDot := by rw [HLa.out, HD.out]
      have hb : bareS toks = toks.dropLast := by unfold bareS; rw [if_pos hp]
      have hl : toks.dropLast.length = n := by rw [List.length_dropLast, HN.out]; rfl
      rw [hb]
      refine ⟨_, tcap, by rw [hl]; rfl, by rw [hl]; have := HTc.out.1; have := HN.out; omega, HTc.out.2, .inr ⟨tb, toff, rfl, fun j hj => ?_⟩⟩
      rw [hl] at hj
      rw [HC.out j (by rw [HN.out]; omega)]
      simp
    · have e1 : (lw == [46]) = false := by simpa [wDot] using hd
      have e2 : (lw != [46]) = true := by simpa [wDot] using hd
      have HD := Lib.hid hd
      clear hd
      go_wp2
      go_ret
      refine ⟨_, rfl, ?_, Below.refl _ _⟩
      have hp : ¬ toks.getLast? = some wDot := by rw [HLa.out]; exact fun h => HD.out (Option.some.inj h)
      have hb : bareS toks = [] := by unfold bareS; rw [if_neg hp]
      rw [hb]
      exact ⟨none, 0, rfl, Nat.le_refl _, Nat.zero_le _, .inl rfl⟩
end Go.Proofs.YthmnffgjckpkiaaGreatDoor
