/-
  The walk of 'WordsBlanks'.
-/
import Derived.Test.YtakpkaklcjgdkaaDoorRefText
import Derived.Lib.Repeat
namespace Go.Proofs.YtakpkaklcjgdkaaDoor
open Go Go.RowKit

/-- The slice value v denotes the list of bytes. -/
def U8Slice (w : World) (v : Value) (l : List Nat) : Prop :=
  ∃ a cap, v = .slice a l.length cap ∧ cap ≤ maxLen ∧ l.length ≤ cap ∧ (l = [] ∨ ∃ b off, a = some ⟨b, off, none⟩ ∧ ∀ j (h : j < l.length), w.cell? ⟨b, off + j, none⟩ = some (.int .u8 l[j])) ∧ ∀ x ∈ l, x ≤ 255
theorem repeat_blank : ∀ n, Lib.repeatL [32] n = List.replicate n (32 : UInt8)
  | 0 => rfl
  | n + 1 => by rw [Lib.repeatL, repeat_blank n, List.replicate_succ]; rfl
/-- How many blanks come first, and after the check. -/
def n0At (bs : List Nat) (i : Nat) : Nat := if i < bs.length then bs.getD i 0 % 4 else 1
def nAt (bs : List Nat) (l : List (List UInt8)) (i : Nat) : Nat :=
  if 0 < i ∧ n0At bs i = 0 ∧ l.getD i [] ≠ [44] ∧ l.getD i [] ≠ [46] ∧ l.getD (i - 1) [] ≠ [44] then 1 else n0At bs i
def blTo (bs : List Nat) (l : List (List UInt8)) (k : Nat) : List (Nat × List UInt8) := (List.range k).map fun i => (nAt bs l i, l.getD i [])
theorem blankCat_append : ∀ a b : List (Nat × List UInt8), blankCat (a ++ b) = blankCat a ++ blankCat b
  | [], b => rfl
  | x :: a, b => by simp only [List.cons_append, blankCat, blankCat_append a b, List.append_assoc]
theorem blTo_succ (bs : List Nat) (l : List (List UInt8)) (k : Nat) : blankCat (blTo bs l (k + 1)) = blankCat (blTo bs l k) ++ (List.replicate (nAt bs l k) 32 ++ l.getD k []) := by
  unfold blTo
  rw [List.range_succ, List.map_append, blankCat_append]
  simp [blankCat]
theorem nAt_le (bs : List Nat) (l : List (List UInt8)) (i : Nat) : nAt bs l i ≤ 3 := by
  have h0 : n0At bs i ≤ 3 := by unfold n0At; split <;> omega
  unfold nAt
  split
  · omega
  · exact h0
theorem blTo_len (bs : List Nat) (l : List (List UInt8)) : ∀ k, k ≤ l.length → (blankCat (blTo bs l k)).length ≤ 3 * k + ((l.take k).map List.length).sum
  | 0, _ => by simp [blTo, blankCat]
  | k + 1, h => by
    have ih := blTo_len bs l k (by omega)
    have hn := nAt_le bs l k
    have hk : k < l.length := by omega
    rw [blTo_succ, List.length_append, List.length_append, List.length_replicate, List.take_succ_eq_append_getElem hk, List.map_append, List.sum_append]
    have e : l.getD k [] = l[k] := by simp [List.getD_eq_getElem?_getD, List.getElem?_eq_getElem hk]
    rw [e]
    have e2 : (List.map List.length [l[k]]).sum = l[k].length := by simp
    rw [e2]
    omega
theorem blTo_len' (bs : List Nat) (l : List (List UInt8)) (k : Nat) (h : k ≤ l.length) : (blankCat (blTo bs l k)).length ≤ 3 * k + (l.map List.length).sum := by
  have h1 := blTo_len bs l k h
  have h2 : (l.map List.length).sum = ((l.take k).map List.length).sum + ((l.drop k).map List.length).sum := by
    rw [← List.sum_append, ← List.map_append, List.take_append_drop]
  omega
theorem blTo_snd (bs : List Nat) (l : List (List UInt8)) : (blTo bs l l.length).map (·.2) = l := by
  unfold blTo
  rw [List.map_map]
  apply List.ext_getElem
  · simp
  · intro i h1 h2
    simp [List.getD_eq_getElem?_getD, List.getElem?_eq_getElem h2]
theorem spaced_of : ∀ xs : List (Nat × List UInt8), (∀ i (h : i + 1 < xs.length), isWord (xs[i]'(by omega)).2 → isWord (xs[i + 1]'h).2 → 1 ≤ (xs[i + 1]'h).1) → spaced xs
  | [], _ => trivial
  | [_], _ => trivial
  | x :: y :: xs, h => ⟨fun a b => h 0 (by simp) a b, spaced_of (y :: xs) (fun i hi a b => h (i + 1) (by simpa using hi) a b)⟩
theorem blTo_spaced (bs : List Nat) (l : List (List UInt8)) : spaced (blTo bs l l.length) := by
  apply spaced_of
  intro i h h1 h2
  have hl : i + 1 < l.length := by simpa [blTo] using h
  have e1 : (blTo bs l l.length)[i]'(by omega) = (nAt bs l i, l.getD i []) := by simp [blTo]
  have e2 : (blTo bs l l.length)[i + 1]'h = (nAt bs l (i + 1), l.getD (i + 1) []) := by simp [blTo]
  rw [e1] at h1
  rw [e2] at h2 ⊢
  have w1 := word_ne h1
  have w2 := word_ne h2
  show 1 ≤ nAt bs l (i + 1)
  unfold nAt
  by_cases h0 : n0At bs (i + 1) = 0
  · rw [if_pos ⟨by omega, h0, w2.1, w2.2.1, by simpa using w1.1⟩]; exact Nat.le_refl _
  · rw [if_neg (fun h => h0 h.2.1)]; omega
theorem cat_sized (o : ByteArray) (l : List UInt8) (h : o = ⟨l.toArray⟩) : o.size = l.length := by rw [h, bytes_size]

set_option maxRecDepth 100000 in
set_option maxHeartbeats 16000000 in
theorem WordsBlanks_any (W0 w : World) (ht : Tabs W0 w) (s : ByteArray) (hsz : s.size ≤ 9223372036854775807) (vb : Value) (bs : List Nat) (hbs : U8Slice w vb bs) :
    Calls Tryd.prog 10 #[.string s, vb] w fun e w' => e = .returned (.bool true) ∧ Below w.heap.size w w' := by
  have HA := Lib.hid (awake_any W0 w ht)
  have hlen := len_data s
  obtain ⟨ab, capb, rfl, hcb, hcb2, hcells, h255⟩ := hbs
  have H255 := Lib.hid h255
  clear h255
  have hbl : bs.length ≤ 9223372036854775807 := by unfold maxLen at hcb; omega
  have HB := Lib.hid hcells
  clear hcells hcb
  obtain ⟨toks, k, e, htk⟩ : ∃ toks k e, tokensS s.data.toList = (toks, k, e) := ⟨_, _, _, rfl⟩
  have HTk := Lib.hid htk
  by_cases hgo : s.size ≤ 150 ∧ e = 0 ∧ bs.length ≤ 100
  case neg =>
    clear htk
    go_enter Tryd.func10, Tryd.ntmps10
    go_wp2_with fail
    refine HA.out.mono ?_
    rintro r w1 ⟨rfl, hb1⟩
    go_wp2_with fail
    refine (Tokens_is W0 _ (ht.next hb1) s hsz HTk.out).mono ?_
    rintro r w2 ⟨v, rfl, ⟨a, cap, rfl, _⟩, hb2⟩
    have HG := Lib.hid hgo
    clear hgo
    by_cases h1 : s.size ≤ 150
    · cases he : (e == 0)
      · have he' : (e != 0) = true := by rw [bne, he]; rfl
        clear HG
        go_wp2
        go_ret
        exact ⟨rfl, hb1.trans (hb2.mono hb1.size)⟩
      · have he' : (e != 0) = false := by rw [bne, he]; rfl
        have h3 : 100 < bs.length := by
          apply Classical.byContradiction
          intro h3
          exact HG.out ⟨h1, by simpa using he, by omega⟩
        clear HG
        go_wp2
        go_ret
        exact ⟨rfl, hb1.trans (hb2.mono hb1.size)⟩
    · clear HG
      go_wp2
      go_ret
      exact ⟨rfl, hb1.trans (hb2.mono hb1.size)⟩
  obtain ⟨h150, rfl, h100⟩ := hgo
  obtain ⟨hsent, rfl, _, _⟩ := tokens_sentence htk
  obtain ⟨z1, z2, z3⟩ := tokens_sizes htk
  have hcat := tokens_cat hsent (blTo bs toks toks.length) (blTo_snd bs toks) (blTo_spaced bs toks) bs.length (by
    rw [List.length_append, List.length_replicate]
    have := blTo_len' bs toks toks.length (Nat.le_refl _)
    omega)
  have HC := Lib.hid hcat
  have Z := Lib.hid (fun k (h : k ≤ toks.length) => blTo_len' bs toks k h)
  have hz1 : (toks.map List.length).sum ≤ 150 := by omega
  have hz2 : toks.length ≤ 150 := by omega
  have HZ1 := Lib.hid hz1
  have HZ3 := Lib.hid z3
  clear htk hcat z1 z2 z3 hsent hz1
  go_enter Tryd.func10, Tryd.ntmps10
  go_wp2_with fail
  refine HA.out.mono ?_
  rintro r w1 ⟨rfl, hb1⟩
  go_wp2_with fail
  refine (Tokens_is W0 _ (ht.next hb1) s hsz HTk.out).mono ?_
  rintro r w2 ⟨v, rfl, hv, hb2⟩
  have hq2 := hb1.trans (hb2.mono hb1.size)
  have HV := Lib.hid hv
  obtain ⟨a, cap, rfl, hcap, hcm, hvl⟩ := hv
  have HVl := Lib.hid hvl
  clear hvl hb1 hb2
  go_wp2
  go_loopw [8, 9] (fun o i wr => ∃ k : Nat, k ≤ toks.length ∧ i = .int .i64 k ∧ o = .string ⟨(blankCat (blTo bs toks k)).toArray⟩ ∧ Below w2.heap.size w2 wr) (fun _ i _ => toks.length - (intOf i).toNat)
  case atStart => exact ⟨0, Nat.zero_le _, rfl, by simp [blTo, blankCat], Below.refl _ _⟩
  case round =>
    obtain ⟨k, hk, rfl, rfl, hb⟩ := hrel
    obtain ⟨o, ho⟩ : ∃ o, o = (⟨(blankCat (blTo bs toks k)).toArray⟩ : ByteArray) := ⟨_, rfl⟩
    have hos : o.size ≤ 1000 := by
      rw [cat_sized _ _ ho]
      have := Z.out k hk
      have := HZ1.out
      omega
    rw [← ho]
    have HO := Lib.hid ho
    clear ho
    have hsz2 := hb.size
    by_cases hlt : k < toks.length
    · rcases HVl.out with h0 | ⟨b, off, rfl, hc⟩
      · rw [h0] at hlt; exact absurd hlt (by simp)
      · obtain ⟨t, htt⟩ : ∃ t, t = (⟨(toks[k]'hlt).toArray⟩ : ByteArray) := ⟨_, rfl⟩
        have c := hc k hlt
        rw [← htt] at c
        have c := cell_kept' hb c
        have hgk : toks.getD k [] = t.data.toList := by rw [htt]; simp [List.getD_eq_getElem?_getD]; rw [List.getElem?_eq_getElem (by omega)]; rfl
        have hts : t.size ≤ 150 := by rw [htt, bytes_size]; have := HZ3.out _ (List.getElem_mem hlt); omega
        have htl := ByteArray.toList_eq t
        have hsucc := blTo_succ bs toks k
        rw [hgk] at hsucc
        have HS := Lib.hid hsucc
        have hC := Lib.hid hc
        have HTl := Lib.hid htl
        have HGk := Lib.hid hgk
        have ftk := fun x : Later wr => x.get c
        have e4 : (k : Int) < (toks.length : Int) := by omega
        have e5 : (0 : Int) ≤ (k : Int) := by omega
        clear htt hc hgk htl hsucc
        by_cases hkb : k < bs.length
        · rcases HB.out with hb0 | ⟨bb, ob, rfl, hcb⟩
          · rw [hb0] at hkb; exact absurd hkb (by simp)
          have cb := cell_kept' hb (cell_kept' hq2 (hcb k hkb))
          obtain ⟨c0, hc0⟩ : ∃ c0, c0 = bs[k] := ⟨_, rfl⟩
          rw [← hc0] at cb
          obtain ⟨m, hm⟩ : ∃ m, m = c0 % 4 := ⟨_, rfl⟩
          have hc255 : c0 ≤ 255 := by rw [hc0]; exact H255.out _ (List.getElem_mem hkb)
          have hmod : (c0 : Int) % 4 = (m : Int) := by omega
          have hm4 : m ≤ 3 := by omega
          have hn0 : n0At bs k = m := by unfold n0At; rw [if_pos hkb, hm, hc0]; simp [List.getD_eq_getElem?_getD, List.getElem?_eq_getElem hkb]
          have HN0 := Lib.hid hn0
          have hkbi : (k : Int) < (bs.length : Int) := by omega
          clear hn0 hm hc0 hcb
          by_cases hk0 : k = 0
          · skip
            have g0 : decide (0 < (k : Int)) = false := by simp; omega
            have g0n : decide (0 < k) = false := by simp; omega
            have HN := Lib.hid (show nAt bs toks k = m by unfold nAt; rw [if_neg (fun h => by omega)]; exact HN0.out)
            obtain ⟨R, hR⟩ : ∃ R, R = (⟨(Lib.repeatL [32] m).toArray⟩ : ByteArray) := ⟨_, rfl⟩
            have hRl : R.data.toList = List.replicate m 32 := by rw [hR, ← repeat_blank]
            have hRs : R.size ≤ 3 := by rw [← len_data, hRl, List.length_replicate]; omega
            have CR := Lib.hid (fun x : Later wr => (by rw [hR]; exact Tryd.strings_Repeat ⟨#[32]⟩ m x.w (by omega) (by rw [show (⟨#[32]⟩ : ByteArray).size = 1 from rfl]; omega) : Calls Tryd.prog 28 #[.string ⟨#[32]⟩, .int .i64 ((m : Nat) : Int)] x.w fun e w' => e = .returned (.string R) ∧ Below x.w.heap.size x.w w'))
            have a1 : ∀ w, (Op.stringOp .add R t).run Tryd.prog w = .ok (.string (R ++ t)) w := fun w => run_string_add_sum w _ _ (by omega)
            have a2 : ∀ w, (Op.stringOp .add o (R ++ t)).run Tryd.prog w = .ok (.string (o ++ (R ++ t))) w := fun w => run_string_add_sum w _ _ (by rw [ByteArray.size_append]; omega)
            have HRl := Lib.hid hRl
            clear hR hRl hk0
            go_wp2
            refine wp_region_later (by kernel_rfl) (by kernel_rfl) ?_
            repeat (go_big_quiet_step ((go_at_call 28; exact later_call (CR.out _))))
            refine wpQuiet_nil ?_
            rintro _ ⟨x, rfl⟩
            clear ftk a1 a2 CR
            go_wp2
            go_roundw
            case rel => exact ⟨k + 1, by omega, by go_num, by rw [HS.out, HN.out, HO.out, ← HRl.out]; apply congrArg Value.string; apply ByteArray.ext; simp [ByteArray.data_append], hb.trans (x.below.mono hsz2)⟩
            case measure => simp [intOf]; omega
          · by_cases hmz : m = 0
            · have gm : ((m : Int) == 0) = true := beqI_t (by omega)
              have hk1 : k - 1 < toks.length := by omega
              obtain ⟨u, huu⟩ : ∃ u, u = (⟨(toks[k - 1]'hk1).toArray⟩ : ByteArray) := ⟨_, rfl⟩
              have cu := hC.out (k - 1) hk1
              rw [← huu] at cu
              have cu := cell_kept' hb cu
              have hgu : toks.getD (k - 1) [] = u.data.toList := by rw [huu]; simp [List.getD_eq_getElem?_getD]; rw [List.getElem?_eq_getElem (by omega)]; rfl
              have HGu := Lib.hid hgu
              have HUl := Lib.hid (ByteArray.toList_eq u)
              have i1 : IntKind.i64.wrap ((k : Int) - 1) = (k : Int) - 1 := IntWalk.i64_in _ (by omega)
              have i2 : ((k : Int) - 1).toNat = k - 1 := by omega
              have i3 : (0 : Int) ≤ (k : Int) - 1 := by omega
              have i4 : (k : Int) - 1 < (toks.length : Int) := by omega
              clear huu hgu
              have g0 : decide (0 < (k : Int)) = true := by simp; omega
              have g0n : decide (0 < k) = true := by simp; omega
              cases hC44 : (t.toList == [44])
              · have nC44 : (t.toList != [44]) = true := by rw [bne, hC44]; rfl
                cases hP46 : (t.toList == [46])
                · have nP46 : (t.toList != [46]) = true := by rw [bne, hP46]; rfl
                  cases hQ : (u.toList == [44])
                  · have nQ : (u.toList != [44]) = true := by rw [bne, hQ]; rfl
                    have HN := Lib.hid (show nAt bs toks k = 1 by unfold nAt; rw [if_pos ⟨by omega, by rw [HN0.out]; exact hmz, by rw [HGk.out, ← HTl.out]; simpa using hC44, by rw [HGk.out, ← HTl.out]; simpa using hP46, by rw [HGu.out, ← HUl.out]; simpa using hQ⟩])
                    obtain ⟨R, hR⟩ : ∃ R, R = (⟨(Lib.repeatL [32] 1).toArray⟩ : ByteArray) := ⟨_, rfl⟩
                    have hRl : R.data.toList = List.replicate 1 32 := by rw [hR, ← repeat_blank]
                    have hRs : R.size ≤ 3 := by rw [← len_data, hRl, List.length_replicate]; omega
                    have CR := Lib.hid (fun x : Later wr => (by rw [hR]; exact Tryd.strings_Repeat ⟨#[32]⟩ 1 x.w (by omega) (by rw [show (⟨#[32]⟩ : ByteArray).size = 1 from rfl]; omega) : Calls Tryd.prog 28 #[.string ⟨#[32]⟩, .int .i64 ((1 : Nat) : Int)] x.w fun e w' => e = .returned (.string R) ∧ Below x.w.heap.size x.w w'))
                    have a1 : ∀ w, (Op.stringOp .add R t).run Tryd.prog w = .ok (.string (R ++ t)) w := fun w => run_string_add_sum w _ _ (by omega)
                    have a2 : ∀ w, (Op.stringOp .add o (R ++ t)).run Tryd.prog w = .ok (.string (o ++ (R ++ t))) w := fun w => run_string_add_sum w _ _ (by rw [ByteArray.size_append]; omega)
                    have HRl := Lib.hid hRl
                    clear hR hRl hk0 hmz
                    go_wp2
                    refine wp_region_later (by kernel_rfl) (by kernel_rfl) ?_
                    repeat (go_big_quiet_step ((go_at_call 28; exact later_call (CR.out _))))
                    refine wpQuiet_nil ?_
                    rintro _ ⟨x, rfl⟩
                    clear ftk a1 a2 CR
                    go_wp2
                    go_roundw
                    case rel => exact ⟨k + 1, by omega, by go_num, by rw [HS.out, HN.out, HO.out, ← HRl.out]; apply congrArg Value.string; apply ByteArray.ext; simp [ByteArray.data_append], hb.trans (x.below.mono hsz2)⟩
                    case measure => simp [intOf]; omega
                  · have nQ : (u.toList != [44]) = false := by rw [bne, hQ]; rfl
                    have HN := Lib.hid (show nAt bs toks k = m by unfold nAt; rw [if_neg (fun h => h.2.2.2.2 (by rw [HGu.out, ← HUl.out]; simpa using hQ))]; exact HN0.out)
                    obtain ⟨R, hR⟩ : ∃ R, R = (⟨(Lib.repeatL [32] m).toArray⟩ : ByteArray) := ⟨_, rfl⟩
                    have hRl : R.data.toList = List.replicate m 32 := by rw [hR, ← repeat_blank]
                    have hRs : R.size ≤ 3 := by rw [← len_data, hRl, List.length_replicate]; omega
                    have CR := Lib.hid (fun x : Later wr => (by rw [hR]; exact Tryd.strings_Repeat ⟨#[32]⟩ m x.w (by omega) (by rw [show (⟨#[32]⟩ : ByteArray).size = 1 from rfl]; omega) : Calls Tryd.prog 28 #[.string ⟨#[32]⟩, .int .i64 ((m : Nat) : Int)] x.w fun e w' => e = .returned (.string R) ∧ Below x.w.heap.size x.w w'))
                    have a1 : ∀ w, (Op.stringOp .add R t).run Tryd.prog w = .ok (.string (R ++ t)) w := fun w => run_string_add_sum w _ _ (by omega)
                    have a2 : ∀ w, (Op.stringOp .add o (R ++ t)).run Tryd.prog w = .ok (.string (o ++ (R ++ t))) w := fun w => run_string_add_sum w _ _ (by rw [ByteArray.size_append]; omega)
                    have HRl := Lib.hid hRl
                    clear hR hRl hk0 hmz
                    go_wp2
                    refine wp_region_later (by kernel_rfl) (by kernel_rfl) ?_
                    repeat (go_big_quiet_step ((go_at_call 28; exact later_call (CR.out _))))
                    refine wpQuiet_nil ?_
                    rintro _ ⟨x, rfl⟩
                    clear ftk a1 a2 CR
                    go_wp2
                    go_roundw
                    case rel => exact ⟨k + 1, by omega, by go_num, by rw [HS.out, HN.out, HO.out, ← HRl.out]; apply congrArg Value.string; apply ByteArray.ext; simp [ByteArray.data_append], hb.trans (x.below.mono hsz2)⟩
                    case measure => simp [intOf]; omega
                · have nP46 : (t.toList != [46]) = false := by rw [bne, hP46]; rfl
                  have HN := Lib.hid (show nAt bs toks k = m by unfold nAt; rw [if_neg (fun h => h.2.2.2.1 (by rw [HGk.out, ← HTl.out]; simpa using hP46))]; exact HN0.out)
                  obtain ⟨R, hR⟩ : ∃ R, R = (⟨(Lib.repeatL [32] m).toArray⟩ : ByteArray) := ⟨_, rfl⟩
                  have hRl : R.data.toList = List.replicate m 32 := by rw [hR, ← repeat_blank]
                  have hRs : R.size ≤ 3 := by rw [← len_data, hRl, List.length_replicate]; omega
                  have CR := Lib.hid (fun x : Later wr => (by rw [hR]; exact Tryd.strings_Repeat ⟨#[32]⟩ m x.w (by omega) (by rw [show (⟨#[32]⟩ : ByteArray).size = 1 from rfl]; omega) : Calls Tryd.prog 28 #[.string ⟨#[32]⟩, .int .i64 ((m : Nat) : Int)] x.w fun e w' => e = .returned (.string R) ∧ Below x.w.heap.size x.w w'))
                  have a1 : ∀ w, (Op.stringOp .add R t).run Tryd.prog w = .ok (.string (R ++ t)) w := fun w => run_string_add_sum w _ _ (by omega)
                  have a2 : ∀ w, (Op.stringOp .add o (R ++ t)).run Tryd.prog w = .ok (.string (o ++ (R ++ t))) w := fun w => run_string_add_sum w _ _ (by rw [ByteArray.size_append]; omega)
                  have HRl := Lib.hid hRl
                  clear hR hRl hk0 hmz
                  go_wp2
                  refine wp_region_later (by kernel_rfl) (by kernel_rfl) ?_
                  repeat (go_big_quiet_step ((go_at_call 28; exact later_call (CR.out _))))
                  refine wpQuiet_nil ?_
                  rintro _ ⟨x, rfl⟩
                  clear ftk a1 a2 CR
                  go_wp2
                  go_roundw
                  case rel => exact ⟨k + 1, by omega, by go_num, by rw [HS.out, HN.out, HO.out, ← HRl.out]; apply congrArg Value.string; apply ByteArray.ext; simp [ByteArray.data_append], hb.trans (x.below.mono hsz2)⟩
                  case measure => simp [intOf]; omega
              · have nC44 : (t.toList != [44]) = false := by rw [bne, hC44]; rfl
                have HN := Lib.hid (show nAt bs toks k = m by unfold nAt; rw [if_neg (fun h => h.2.2.1 (by rw [HGk.out, ← HTl.out]; simpa using hC44))]; exact HN0.out)
                obtain ⟨R, hR⟩ : ∃ R, R = (⟨(Lib.repeatL [32] m).toArray⟩ : ByteArray) := ⟨_, rfl⟩
                have hRl : R.data.toList = List.replicate m 32 := by rw [hR, ← repeat_blank]
                have hRs : R.size ≤ 3 := by rw [← len_data, hRl, List.length_replicate]; omega
                have CR := Lib.hid (fun x : Later wr => (by rw [hR]; exact Tryd.strings_Repeat ⟨#[32]⟩ m x.w (by omega) (by rw [show (⟨#[32]⟩ : ByteArray).size = 1 from rfl]; omega) : Calls Tryd.prog 28 #[.string ⟨#[32]⟩, .int .i64 ((m : Nat) : Int)] x.w fun e w' => e = .returned (.string R) ∧ Below x.w.heap.size x.w w'))
                have a1 : ∀ w, (Op.stringOp .add R t).run Tryd.prog w = .ok (.string (R ++ t)) w := fun w => run_string_add_sum w _ _ (by omega)
                have a2 : ∀ w, (Op.stringOp .add o (R ++ t)).run Tryd.prog w = .ok (.string (o ++ (R ++ t))) w := fun w => run_string_add_sum w _ _ (by rw [ByteArray.size_append]; omega)
                have HRl := Lib.hid hRl
                clear hR hRl hk0 hmz
                go_wp2
                refine wp_region_later (by kernel_rfl) (by kernel_rfl) ?_
                repeat (go_big_quiet_step ((go_at_call 28; exact later_call (CR.out _))))
                refine wpQuiet_nil ?_
                rintro _ ⟨x, rfl⟩
                clear ftk a1 a2 CR
                go_wp2
                go_roundw
                case rel => exact ⟨k + 1, by omega, by go_num, by rw [HS.out, HN.out, HO.out, ← HRl.out]; apply congrArg Value.string; apply ByteArray.ext; simp [ByteArray.data_append], hb.trans (x.below.mono hsz2)⟩
                case measure => simp [intOf]; omega
            · have gm : ((m : Int) == 0) = false := beqI_f (by omega)
              have g0 : decide (0 < (k : Int)) = true := by simp; omega
              have g0n : decide (0 < k) = true := by simp; omega
              have HN := Lib.hid (show nAt bs toks k = m by unfold nAt; rw [if_neg (fun h => hmz (by rw [← HN0.out]; exact h.2.1))]; exact HN0.out)
              obtain ⟨R, hR⟩ : ∃ R, R = (⟨(Lib.repeatL [32] m).toArray⟩ : ByteArray) := ⟨_, rfl⟩
              have hRl : R.data.toList = List.replicate m 32 := by rw [hR, ← repeat_blank]
              have hRs : R.size ≤ 3 := by rw [← len_data, hRl, List.length_replicate]; omega
              have CR := Lib.hid (fun x : Later wr => (by rw [hR]; exact Tryd.strings_Repeat ⟨#[32]⟩ m x.w (by omega) (by rw [show (⟨#[32]⟩ : ByteArray).size = 1 from rfl]; omega) : Calls Tryd.prog 28 #[.string ⟨#[32]⟩, .int .i64 ((m : Nat) : Int)] x.w fun e w' => e = .returned (.string R) ∧ Below x.w.heap.size x.w w'))
              have a1 : ∀ w, (Op.stringOp .add R t).run Tryd.prog w = .ok (.string (R ++ t)) w := fun w => run_string_add_sum w _ _ (by omega)
              have a2 : ∀ w, (Op.stringOp .add o (R ++ t)).run Tryd.prog w = .ok (.string (o ++ (R ++ t))) w := fun w => run_string_add_sum w _ _ (by rw [ByteArray.size_append]; omega)
              have HRl := Lib.hid hRl
              clear hR hRl hk0 hmz
              go_wp2
              refine wp_region_later (by kernel_rfl) (by kernel_rfl) ?_
              repeat (go_big_quiet_step ((go_at_call 28; exact later_call (CR.out _))))
              refine wpQuiet_nil ?_
              rintro _ ⟨x, rfl⟩
              clear ftk a1 a2 CR
              go_wp2
              go_roundw
              case rel => exact ⟨k + 1, by omega, by go_num, by rw [HS.out, HN.out, HO.out, ← HRl.out]; apply congrArg Value.string; apply ByteArray.ext; simp [ByteArray.data_append], hb.trans (x.below.mono hsz2)⟩
              case measure => simp [intOf]; omega
        · have hn0 : n0At bs k = 1 := by unfold n0At; rw [if_neg hkb]
          have HN0 := Lib.hid hn0
          have hkbi : decide ((k : Int) < (bs.length : Int)) = false := by simp; omega
          have hkbn : decide (k < bs.length) = false := by simp; omega
          clear hn0 hkb
          by_cases hk0 : k = 0
          · skip
            have g0 : decide (0 < (k : Int)) = false := by simp; omega
            have g0n : decide (0 < k) = false := by simp; omega
            have HN := Lib.hid (show nAt bs toks k = 1 by unfold nAt; rw [if_neg (fun h => by omega)]; exact HN0.out)
            obtain ⟨R, hR⟩ : ∃ R, R = (⟨(Lib.repeatL [32] 1).toArray⟩ : ByteArray) := ⟨_, rfl⟩
            have hRl : R.data.toList = List.replicate 1 32 := by rw [hR, ← repeat_blank]
            have hRs : R.size ≤ 3 := by rw [← len_data, hRl, List.length_replicate]; omega
            have CR := Lib.hid (fun x : Later wr => (by rw [hR]; exact Tryd.strings_Repeat ⟨#[32]⟩ 1 x.w (by omega) (by rw [show (⟨#[32]⟩ : ByteArray).size = 1 from rfl]; omega) : Calls Tryd.prog 28 #[.string ⟨#[32]⟩, .int .i64 ((1 : Nat) : Int)] x.w fun e w' => e = .returned (.string R) ∧ Below x.w.heap.size x.w w'))
            have a1 : ∀ w, (Op.stringOp .add R t).run Tryd.prog w = .ok (.string (R ++ t)) w := fun w => run_string_add_sum w _ _ (by omega)
            have a2 : ∀ w, (Op.stringOp .add o (R ++ t)).run Tryd.prog w = .ok (.string (o ++ (R ++ t))) w := fun w => run_string_add_sum w _ _ (by rw [ByteArray.size_append]; omega)
            have HRl := Lib.hid hRl
            clear hR hRl hk0
            go_wp2
            refine wp_region_later (by kernel_rfl) (by kernel_rfl) ?_
            repeat (go_big_quiet_step ((go_at_call 28; exact later_call (CR.out _))))
            refine wpQuiet_nil ?_
            rintro _ ⟨x, rfl⟩
            clear ftk a1 a2 CR
            go_wp2
            go_roundw
            case rel => exact ⟨k + 1, by omega, by go_num, by rw [HS.out, HN.out, HO.out, ← HRl.out]; apply congrArg Value.string; apply ByteArray.ext; simp [ByteArray.data_append], hb.trans (x.below.mono hsz2)⟩
            case measure => simp [intOf]; omega
          · skip
            have g0 : decide (0 < (k : Int)) = true := by simp; omega
            have g0n : decide (0 < k) = true := by simp; omega
            have HN := Lib.hid (show nAt bs toks k = 1 by unfold nAt; rw [if_neg (fun h => by have := h.2.1; rw [HN0.out] at this; omega)]; exact HN0.out)
            obtain ⟨R, hR⟩ : ∃ R, R = (⟨(Lib.repeatL [32] 1).toArray⟩ : ByteArray) := ⟨_, rfl⟩
            have hRl : R.data.toList = List.replicate 1 32 := by rw [hR, ← repeat_blank]
            have hRs : R.size ≤ 3 := by rw [← len_data, hRl, List.length_replicate]; omega
            have CR := Lib.hid (fun x : Later wr => (by rw [hR]; exact Tryd.strings_Repeat ⟨#[32]⟩ 1 x.w (by omega) (by rw [show (⟨#[32]⟩ : ByteArray).size = 1 from rfl]; omega) : Calls Tryd.prog 28 #[.string ⟨#[32]⟩, .int .i64 ((1 : Nat) : Int)] x.w fun e w' => e = .returned (.string R) ∧ Below x.w.heap.size x.w w'))
            have a1 : ∀ w, (Op.stringOp .add R t).run Tryd.prog w = .ok (.string (R ++ t)) w := fun w => run_string_add_sum w _ _ (by omega)
            have a2 : ∀ w, (Op.stringOp .add o (R ++ t)).run Tryd.prog w = .ok (.string (o ++ (R ++ t))) w := fun w => run_string_add_sum w _ _ (by rw [ByteArray.size_append]; omega)
            have HRl := Lib.hid hRl
            clear hR hRl hk0
            go_wp2
            refine wp_region_later (by kernel_rfl) (by kernel_rfl) ?_
            repeat (go_big_quiet_step ((go_at_call 28; exact later_call (CR.out _))))
            refine wpQuiet_nil ?_
            rintro _ ⟨x, rfl⟩
            clear ftk a1 a2 CR
            go_wp2
            go_roundw
            case rel => exact ⟨k + 1, by omega, by go_num, by rw [HS.out, HN.out, HO.out, ← HRl.out]; apply congrArg Value.string; apply ByteArray.ext; simp [ByteArray.data_append], hb.trans (x.below.mono hsz2)⟩
            case measure => simp [intOf]; omega
    · obtain rfl : k = toks.length := by omega
      obtain ⟨R, hR⟩ : ∃ R, R = (⟨(Lib.repeatL [32] bs.length).toArray⟩ : ByteArray) := ⟨_, rfl⟩
      have hRl : R.data.toList = List.replicate bs.length 32 := by rw [hR, ← repeat_blank]
      have hRs : R.size ≤ 100 := by rw [← len_data, hRl, List.length_replicate]; omega
      have CR := Lib.hid (by rw [hR]; exact Tryd.strings_Repeat ⟨#[32]⟩ bs.length wr (by omega) (by rw [show (⟨#[32]⟩ : ByteArray).size = 1 from rfl]; omega) : Calls Tryd.prog 28 #[.string ⟨#[32]⟩, .int .i64 (bs.length : Int)] wr fun e w' => e = .returned (.string R) ∧ Below wr.heap.size wr w')
      have a1 : ∀ w, (Op.stringOp .add o R).run Tryd.prog w = .ok (.string (o ++ R)) w := fun w => run_string_add_sum w _ _ (by omega)
      obtain ⟨y, hy⟩ : ∃ y, y = o ++ R := ⟨_, rfl⟩
      have hyl : y.data.toList = blankCat (blTo bs toks toks.length) ++ List.replicate bs.length 32 := by rw [hy, ByteArray.data_append, Array.toList_append, hRl, HO.out]
      have hys : y.size ≤ 1100 := by rw [hy, ByteArray.size_append]; omega
      have HY := Lib.hid (by rw [hyl]; exact HC.out : tokensS y.data.toList = (toks, 0, 0))
      rw [← hy] at a1
      clear hR hRl hy hyl
      have hq3 := hq2.trans (hb.mono hq2.size)
      go_wp2_with fail
      refine CR.out.mono ?_
      rintro r w4 ⟨rfl, hb4⟩
      have hq4 := hq3.trans (hb4.mono hq3.size)
      go_wp2_with fail
      refine (Tokens_is W0 _ (ht.next hq4) y (by omega) HY.out).mono ?_
      rintro r w5 ⟨v5, rfl, hv5, hb5⟩
      have hq5 := hq4.trans (hb5.mono hq4.size)
      have hvv := (HV.out.below hb).below hb4 |>.below hb5
      go_wp2_with fail
      refine (SameTexts_any _ _ v5 toks toks hvv hv5 (by omega)).mono ?_
      rintro r w6 ⟨rfl, hb6⟩
      have hbt : (toks == toks) = true := by simp
      rw [hbt]
      clear hbt hvv hv5
      go_wp2
      go_ret
      exact ⟨rfl, hq5.trans (hb6.mono hq5.size)⟩
end Go.Proofs.YtakpkaklcjgdkaaDoor
