/-
  The walk of 'WordsAdds'. (UNDER WAY: the main branch is open.)
-/
import Derived.Test.YtakpkaklcjgdkaaDoorAddsLaw
import Derived.Test.YtakpkaklcjgdkaaDoorSameEnts
namespace Go.Proofs.YtakpkaklcjgdkaaDoor
open Go Go.RowKit

theorem ents_one_slice {w : World} {g : Nat} {e : Ent} (he : e.ok) (c0 : w.cell? ⟨g, 0, none⟩ = some (.string e.word)) (c1 : w.cell? ⟨g, 1, none⟩ = some (.int .u8 e.cat)) (c2 : w.cell? ⟨g, 2, none⟩ = some (.string e.sym)) : EntSlice w (.slice (some ⟨g, 0, none⟩) 1 1) [e] := by
  refine ⟨⟨_, 1, rfl, Nat.le_refl _, by decide, .inr ⟨g, 0, rfl, cell_lt c0, fun j hj => ?_⟩⟩, fun x hx => by rw [List.mem_singleton.1 hx]; exact he⟩
  obtain rfl : j = 0 := by simp at hj; omega
  exact ⟨c0, c1, c2⟩

theorem add_err {l : List Ent} {e : Ent} {m : List Ent} {err : Int} (h : addS l e = (m, err)) (he : err ≠ 0) : m = [] := by
  unfold addS at h
  split at h
  · split at h
    · simp only [Prod.mk.injEq] at h; exact h.1.symm
    · split at h
      · simp only [Prod.mk.injEq] at h; exact h.1.symm
      · split at h
        · simp only [Prod.mk.injEq] at h; exact h.1.symm
        · simp only [Prod.mk.injEq] at h; exact absurd h.2.symm he
  · simp only [Prod.mk.injEq] at h; exact h.1.symm

/-- The new entry differs from those ahead of it. -/
theorem place_ne {l : List Ent} {e : Ent} {m : List Ent} (h : addS l e = (m, 0)) : ∃ k, k ≤ l.length ∧ m = putAt l k e ∧ (∀ i (hi : i < m.length), i < k → ¬ (m[i].word.toList = e.word.toList ∧ m[i].cat = e.cat)) := by
  obtain ⟨hv, hr, hne, hcl, hlen, hm⟩ := add_valid h
  have h3 := ((valid_iff l).1 hv).2.2.1
  have hkl : (thoseS (fun o => decide (compareS o e < 0)) l).length ≤ l.length := thoseTo_len _ _ _
  refine ⟨_, hkl, hm, fun i hi hik hc => ?_⟩
  subst hm
  have hg := putAt_lo (l := l) (e := e) hkl hik
  rw [List.getElem?_eq_getElem hi, List.getElem?_eq_getElem (by omega)] at hg
  injection hg with hg
  rw [hg] at hc
  have hlt := (place_iff h3 e (show i < l.length by omega)).1 hik
  rw [ByteArray.toList_eq, ByteArray.toList_eq] at hc
  rcases hlt with h' | h'
  · rw [show l[i].w = e.w from hc.1, bl_irrefl] at h'; cases h'
  · have := hc.2; omega
theorem strip_at {k : Nat} {fs gs : List (Nat × Bool)} (h : strip k fs = gs) {j : Nat} (hj : j < fs.length) :
    (strip k (fs.take j)).length ≤ gs.length ∧ (fs[j].1 = k → strip k (fs.take (j + 1)) = strip k (fs.take j)) ∧
    (fs[j].1 ≠ k → (strip k (fs.take (j + 1))).length = (strip k (fs.take j)).length + 1 ∧ gs[(strip k (fs.take j)).length]? = some (if k < fs[j].1 then fs[j].1 - 1 else fs[j].1, fs[j].2)) := by
  have e1 : strip k (fs.take (j + 1)) = strip k (fs.take j) ++ strip k [fs[j]] := by
    unfold strip; rw [List.take_succ_eq_append_getElem hj, List.filterMap_append]
  have e2 : gs = strip k (fs.take (j + 1)) ++ strip k (fs.drop (j + 1)) := by
    rw [← h]; unfold strip; rw [← List.filterMap_append, List.take_append_drop]
  refine ⟨?_, ?_, ?_⟩
  · rw [e2, e1]; simp only [List.length_append]; omega
  · intro hk
    rw [e1]; unfold strip; simp [shiftF, hk]
  · intro hk
    have e3 : strip k [fs[j]] = [(if k < fs[j].1 then fs[j].1 - 1 else fs[j].1, fs[j].2)] := by unfold strip; simp [shiftF, hk]
    rw [e1, e3]
    refine ⟨by simp, ?_⟩
    rw [e2, e1, e3, List.append_assoc, List.getElem?_append_right (Nat.le_refl _), Nat.sub_self]
    rfl
theorem look_lt {tok : List UInt8} {l : List Ent} {j : Nat} (h : j < (lookS tok l).length) : (lookS tok l)[j].1 < l.length := by
  have : (lookS tok l)[j] ∈ lookS tok l := List.getElem_mem h
  obtain ⟨i, hi, he⟩ := List.mem_map.1 this
  rw [← he]
  exact mem_those hi
/-- Whether the new place was among what was found first. -/
def hasF (k : Nat) (fs : List (Nat × Bool)) (n : Nat) : Bool := (fs.take n).any fun x => x.1 == k && !x.2
theorem hasF_succ {k : Nat} {fs : List (Nat × Bool)} {n : Nat} (h : n < fs.length) : hasF k fs (n + 1) = (hasF k fs n || (fs[n].1 == k && !fs[n].2)) := by
  unfold hasF; rw [List.take_succ_eq_append_getElem h, List.any_append]; simp
theorem hasF_all {k : Nat} {fs : List (Nat × Bool)} (h : (k, false) ∈ fs) : hasF k fs fs.length = true := by
  unfold hasF; rw [List.take_length, List.any_eq_true]; exact ⟨_, h, by simp⟩
theorem strip_done {k : Nat} {fs gs : List (Nat × Bool)} (h : strip k fs = gs) : (strip k (fs.take fs.length)).length = gs.length := by rw [List.take_length, h]

set_option maxRecDepth 100000 in
set_option maxHeartbeats 16000000 in
theorem WordsAdds_any (W0 w : World) (ht : Tabs W0 w) (v : Value) (l : List Ent) (hl : EntSlice w v l) (h0 : ∀ n cap, v = .slice none n cap → v = .slice none 0 0) (e : Ent) (he : e.ok) (tok : ByteArray) (htok : tok.size ≤ 9223372036854775807) :
    Calls Tryd.prog 9 #[v, .agg #[.string e.word, .int .u8 e.cat, .string e.sym], .string tok] w fun r w' => r = .returned (.bool true) ∧ Below w.heap.size w w' := by
  have HL := Lib.hid hl
  have H0 := Lib.hid h0
  have HE := Lib.hid he
  clear hl h0 he
  have hBb : Below w.heap.size w (w.alloc (.cells #[.string e.word, .int .u8 e.cat, .string e.sym] 38)) := (Below.refl _ _).alloc (Nat.le_refl _) _
  have d0 : (w.alloc (.cells #[.string e.word, .int .u8 e.cat, .string e.sym] 38)).cell? ⟨w.heap.size, 0, none⟩ = some (.string e.word) := by simp
  have d1 : (w.alloc (.cells #[.string e.word, .int .u8 e.cat, .string e.sym] 38)).cell? ⟨w.heap.size, 1, none⟩ = some (.int .u8 e.cat) := by simp
  have d2 : (w.alloc (.cells #[.string e.word, .int .u8 e.cat, .string e.sym] 38)).cell? ⟨w.heap.size, 2, none⟩ = some (.string e.sym) := by simp
  have hz1 : (w.alloc (.cells #[.string e.word, .int .u8 e.cat, .string e.sym] 38)).heap.size = w.heap.size + 1 := by simp
  have HA := Lib.hid (awake_any W0 _ (ht.next hBb))
  go_enter Tryd.func9, Tryd.ntmps9
  go_wp2_with fail
  refine HA.out.mono ?_
  rintro r w1 ⟨rfl, hb1⟩
  have hx1 := hBb.trans (hb1.mono (by rw [hz1]; omega))
  have q0 := cell_kept' hb1 d0
  have q1 := cell_kept' hb1 d1
  have q2 := cell_kept' hb1 d2
  clear d0 d1 d2
  obtain ⟨b1, hb1e⟩ : ∃ b, b = smallL l := ⟨_, rfl⟩
  have HB1 := Lib.hid hb1e
  go_wp2_with fail
  refine (Small_any _ v l (HL.out.below hx1)).mono ?_
  rintro r w2 ⟨rfl, rfl⟩
  rw [← hb1e]
  clear hb1e
  cases b1
  · go_wp2
    go_ret
    exact ⟨rfl, hx1⟩
  go_wp2_with fail
  have hes := ents_one_slice (w := w1.alloc (.cells #[.string e.word, .int .u8 e.cat, .string e.sym] 38)) (g := w1.heap.size) HE.out (by simp) (by simp) (by simp)
  have hBb2 : Below w1.heap.size w1 (w1.alloc (.cells #[.string e.word, .int .u8 e.cat, .string e.sym] 38)) := (Below.refl _ _).alloc (Nat.le_refl _) _
  have hx2 := hx1.trans (hBb2.mono hx1.size)
  obtain ⟨b2, hb2e⟩ : ∃ b, b = smallL [e] := ⟨_, rfl⟩
  refine (Small_any _ _ [e] hes).mono ?_
  rintro r w3 ⟨rfl, rfl⟩
  rw [← hb2e]
  clear hb2e hes
  cases b2
  · go_wp2
    go_ret
    exact ⟨rfl, hx2⟩
  by_cases h40 : tok.size ≤ 40
  case neg =>
    go_wp2
    go_ret
    exact ⟨rfl, hx2⟩
  have q0 := cell_kept' hBb2 q0
  have q1 := cell_kept' hBb2 q1
  have q2 := cell_kept' hBb2 q2
  go_wp2_with fail
  refine (Add_any W0 _ (ht.next hx2) v l (HL.out.below hx2) H0.out e HE.out).mono ?_
  rintro r w4 ⟨vm, rfl, hom, hb4⟩
  have hx4 := hx2.trans (hb4.mono hx2.size)
  obtain ⟨m, err, hadd⟩ : ∃ m err, addS l e = (m, err) := ⟨_, _, rfl⟩
  rw [hadd] at hom ⊢
  simp only [] at hom ⊢
  have HAd := Lib.hid hadd
  cases herr : (err == 0)
  · have herr' : (err != 0) = true := by rw [bne, herr]; rfl
    have hm0 : m = [] := add_err hadd (by simpa using herr)
    subst hm0
    obtain ⟨a, cap, rfl⟩ := owns_form hom
    clear hom hadd
    go_wp2
    go_ret
    exact ⟨rfl, hx4⟩
  obtain rfl : err = 0 := by simpa using herr
  obtain ⟨hv, hr, hne, hcl, hlen, hm⟩ := add_valid hadd
  obtain ⟨hvm, hml⟩ := add_valid' hadd
  have hok : ∀ o ∈ m, o.ok := by
    intro o ho
    rw [hm] at ho
    rcases mem_putAt.1 ho with rfl | ho
    · exact HE.out
    · exact HL.out.ok o ho
  have hes := entSlice_of_owns hom hok
  have hnil : ∀ n cap, vm = .slice none n cap → vm = .slice none 0 0 := by
    rcases hom.2 with ⟨h, _⟩ | ⟨g, cap, cur, h, _⟩
    · intro n c _; exact h
    · intro n c h'; rw [h] at h'; simp at h'
  have HPl := Lib.hid (place_ne hadd)
  have HTw := Lib.hid (add_twice hadd)
  have HRm := Lib.hid (remove_added hadd)
  have HV := Lib.hid hv
  have HVm := Lib.hid hvm
  have HM := Lib.hid hm
  have HNe := Lib.hid hne
  have HS := Lib.hid hes
  have HNil := Lib.hid hnil
  have q0 := cell_kept' hb4 q0
  have q1 := cell_kept' hb4 q1
  have q2 := cell_kept' hb4 q2
  clear hv hr hne hcl hm hvm hok hes hnil hom hadd herr
  go_wp2_with fail
  refine (Add_any W0 _ (ht.next hx4) vm m HS.out HNil.out e HE.out).mono ?_
  rintro r w5 ⟨v9, rfl, _, hb5⟩
  rw [HTw.out]
  have hx5 := hx4.trans (hb5.mono hx4.size)
  have q0 := cell_kept' hb5 q0
  have q1 := cell_kept' hb5 q1
  have q2 := cell_kept' hb5 q2
  have HS5 := Lib.hid (HS.out.below hb5)
  go_wp2_with fail
  refine (Remove_any W0 _ (ht.next hx5) vm m HS5.out e.word e.cat).mono ?_
  rintro r w6 ⟨v11, rfl, ho6, hb6⟩
  rw [HRm.out] at ho6 ⊢
  have hx6 := hx5.trans (hb6.mono hx5.size)
  have q0 := cell_kept' hb6 q0
  have q1 := cell_kept' hb6 q1
  have q2 := cell_kept' hb6 q2
  have HS6 := Lib.hid (HS5.out.below hb6)
  have HBk := Lib.hid (entSlice_of_owns ho6 HL.out.ok)
  clear ho6
  go_wp2_with fail
  refine (Look_yes W0 _ (ht.next hx6) vm m HS6.out e.word HVm.out).mono ?_
  rintro r w7 ⟨v13, rfl, hf13, hb7⟩
  have hx7 := hx6.trans (hb7.mono hx6.size)
  have HS7 := Lib.hid (HS6.out.below hb7)
  have HL7 := Lib.hid (HL.out.below hx7)
  go_wp2_with fail
  refine (Look_yes W0 _ (ht.next hx7) v l HL7.out tok HV.out).mono ?_
  rintro r w8 ⟨v15, rfl, hf15, hb8⟩
  have hx8 := hx7.trans (hb8.mono hx7.size)
  have HS8 := Lib.hid (HS7.out.below hb8)
  go_wp2_with fail
  refine (Look_yes W0 _ (ht.next hx8) vm m HS8.out tok HVm.out).mono ?_
  rintro r w9 ⟨v17, rfl, hf17, hb9⟩
  have hx9 := hx8.trans (hb9.mono hx8.size)
  have HS9 := Lib.hid (HS8.out.below hb9)
  have HBk9 := Lib.hid (((HBk.out.below hb7).below hb8).below hb9)
  have HF13 := Lib.hid ((hf13.below hb8).below hb9)
  have HF15 := Lib.hid (hf15.below hb9)
  have HF17 := Lib.hid hf17
  have HL9 := Lib.hid (HL.out.below hx9)
  have q0 := cell_kept' hb9 (cell_kept' hb8 (cell_kept' hb7 q0))
  have q1 := cell_kept' hb9 (cell_kept' hb8 (cell_kept' hb7 q1))
  have q2 := cell_kept' hb9 (cell_kept' hb8 (cell_kept' hb7 q2))
  clear hf13 hf15 hf17
  go_wp2_with fail
  refine (Same_eq _ v11 v l HBk9.out HL9.out).mono ?_
  rintro r w10 ⟨rfl, hb10⟩
  have hx10 := hx9.trans (hb10.mono hx9.size)
  go_wp2_with fail
  refine (HVm.out ▸ Valid_any W0 _ (ht.next hx10) vm m (HS9.out.below hb10)).mono ?_
  rintro r w11 ⟨rfl, hb11⟩
  have hx11 := hx10.trans (hb11.mono hx10.size)
  have HS11 := Lib.hid ((HS9.out.below hb10).below hb11)
  have HF13b := Lib.hid ((HF13.out.below hb10).below hb11)
  have HF15b := Lib.hid ((HF15.out.below hb10).below hb11)
  have HF17b := Lib.hid ((HF17.out.below hb10).below hb11)
  have q0 := cell_kept' hb11 (cell_kept' hb10 q0)
  have q1 := cell_kept' hb11 (cell_kept' hb10 q1)
  have q2 := cell_kept' hb11 (cell_kept' hb10 q2)
  obtain ⟨⟨am, capm, rfl, _, _, hfm⟩, _⟩ := HS11.out
  obtain ⟨⟨al, capl, rfl, _, _, _⟩, _⟩ := HL.out
  have hlm : l.length ≤ 100 := by omega
  have HML := Lib.hid hml
  clear hml hfm
  have hne1 : ((m.length : Int) != (l.length : Int) + 1) = false := by have := HML.out; rw [this]; simp
  go_wp2
  obtain ⟨k, hkl, hmk, hpl⟩ := HPl.out
  have hkm : k < m.length := by rw [HML.out]; omega
  have hmk' : m[k]? = some e := by rw [hmk]; exact putAt_at hkl
  have HK := Lib.hid hmk
  have HKe := Lib.hid hmk'
  have HP := Lib.hid hpl
  have hlen' : m.length ≤ 101 := by rw [HML.out]; omega
  clear hmk hmk' hpl
  obtain ⟨⟨_, _, hva, _, _, hform⟩, _⟩ := HS11.out
  injection hva with hva1 _ hva3
  subst hva1 hva3
  rcases hform with h0 | ⟨g, og, rfl, _, hcell⟩
  · rw [h0] at hkm; exact absurd hkm (by simp)
  have HC := Lib.hid hcell
  clear hcell
  go_loopw [19] (fun p wr => ∃ n : Nat, n ≤ k ∧ p = .int .i64 n ∧ Below w11.heap.size w11 wr) (fun p _ => k - (intOf p).toNat)
  case atStart => exact ⟨0, Nat.zero_le _, rfl, Below.refl _ _⟩
  case round =>
    obtain ⟨n, hn, rfl, hbw⟩ := hrel
    have hnm : n < m.length := by omega
    obtain ⟨a0, a1, a2⟩ := HC.out n hnm
    have hne := HP.out n hnm
    have f3 := fun x : Later wr => x.get (cell_kept' hbw q0)
    have f4 := fun x : Later wr => x.get (cell_kept' hbw q1)
    have f5 := fun x : Later wr => x.get (cell_kept' hbw q2)
    have e3 : (n : Int) < (m.length : Int) := by omega
    have e5 : (0 : Int) ≤ n := by omega
    by_cases hlt : n < k
    · obtain ⟨o, ho⟩ : ∃ o, o = m[n] := ⟨_, rfl⟩
      rw [← ho] at a0 a1 a2 hne
      have f0 := fun x : Later wr => x.get (cell_kept' hbw a0)
      have f1 := fun x : Later wr => x.get (cell_kept' hbw a1)
      have f2 := fun x : Later wr => x.get (cell_kept' hbw a2)
      have HNe2 := Lib.hid (hne hlt)
      clear hne ho a0 a1 a2
      go_wp2
      have hor : ¬ o.word.toList = e.word.toList ∨ (o.word.toList = e.word.toList ∧ ¬ o.cat = e.cat) := by
        by_cases h1 : o.word.toList = e.word.toList
        · exact .inr ⟨h1, fun h2 => HNe2.out ⟨h1, h2⟩⟩
        · exact .inl h1
      rcases hor with hw1 | ⟨hw1, hw2⟩
      all_goals
        refine wp_region_later (by kernel_rfl) (by kernel_rfl) ?_
        repeat (go_big_quiet_step (fail))
        refine wpQuiet_nil ?_
        rintro _ ⟨x, rfl⟩
        clear f0 f1 f2 f3 f4 f5 hw1
        go_wp2
        go_roundw
        case rel => exact ⟨n + 1, by omega, by go_num, hbw.trans (x.below.mono hbw.size)⟩
        case measure => simp [intOf]; omega
    · obtain rfl : n = k := by omega
      have ho : m[n] = e := by
        have := HKe.out
        rw [List.getElem?_eq_getElem hnm] at this
        injection this
      rw [ho] at a0 a1 a2
      have f0 := fun x : Later wr => x.get (cell_kept' hbw a0)
      have f1 := fun x : Later wr => x.get (cell_kept' hbw a1)
      have f2 := fun x : Later wr => x.get (cell_kept' hbw a2)
      clear hne ho a0 a1 a2
      go_wp2
      refine wp_region_later (by kernel_rfl) (by kernel_rfl) ?_
      repeat (go_big_quiet_step (fail))
      refine wpQuiet_nil ?_
      rintro _ ⟨x, rfl⟩
      clear f0 f1 f2 f3 f4 f5
      have hx12 : Below w.heap.size w x.w := hx11.trans ((hbw.trans (x.below.mono hbw.size)).mono hx11.size)
      have hb12 : Below w11.heap.size w11 x.w := hbw.trans (x.below.mono hbw.size)
      obtain ⟨w12, hw12⟩ : ∃ w12, w12 = x.w := ⟨_, rfl⟩
      rw [← hw12] at hx12 hb12 ⊢
      clear hw12
      have HF13c := Lib.hid (HF13b.out.below hb12)
      have HF15c := Lib.hid (HF15b.out.below hb12)
      have HF17c := Lib.hid (HF17b.out.below hb12)
      go_wp2
      have hown : (n, false) ∈ lookS e.word.data.toList m := by rw [HK.out]; exact look_own hkl
      have hstr : strip n (lookS tok.data.toList m) = lookS tok.data.toList l := by rw [HK.out]; exact strip_look hkl
      obtain ⟨os, hos⟩ : ∃ os, os = lookS e.word.data.toList m := ⟨_, rfl⟩
      obtain ⟨gs, hgs⟩ : ∃ gs, gs = lookS tok.data.toList m := ⟨_, rfl⟩
      obtain ⟨ws, hws⟩ : ∃ ws, ws = lookS tok.data.toList l := ⟨_, rfl⟩
      rw [← hos] at hown
      rw [← hgs, ← hws] at hstr
      have HOwn := Lib.hid (hasF_all hown)
      have HStr := Lib.hid hstr
      obtain ⟨a13, c13, rfl, h13⟩ := HF13c.out
      obtain ⟨a15, c15, rfl, h15⟩ := HF15c.out
      obtain ⟨a17, c17, rfl, h17⟩ := HF17c.out
      have o100 : os.length ≤ 101 := by rw [hos, lookS, List.length_map]; exact Nat.le_trans (thoseTo_len _ _ _) hlen'
      have g100 : gs.length ≤ 101 := by rw [hgs, lookS, List.length_map]; exact Nat.le_trans (thoseTo_len _ _ _) hlen'
      have w100 : ws.length ≤ 101 := by rw [hws, lookS, List.length_map]; exact Nat.le_trans (thoseTo_len _ _ _) (by omega)
      rw [← hos] at h13 ⊢
      rw [← hws] at h15 ⊢
      rw [← hgs] at h17 ⊢
      have H13 := Lib.hid h13
      have H15 := Lib.hid h15
      have H17 := Lib.hid h17
      have HGl : Hid (∀ d (h : d < gs.length), gs[d].1 < m.length) := Lib.hid (by subst hgs; exact fun d h => look_lt h)
      clear hown hstr hos hgs hws h13 h15 h17
      go_loopw [20, 21] (fun f i wr => ∃ j : Nat, j ≤ os.length ∧ i = .int .i64 j ∧ f = .bool (hasF n os j) ∧ Below w12.heap.size w12 wr) (fun _ i _ => os.length - (intOf i).toNat)
      case atStart => exact ⟨0, Nat.zero_le _, rfl, rfl, Below.refl _ _⟩
      case round =>
        obtain ⟨j, hj, rfl, rfl, hb2⟩ := hrel
        by_cases hjl : j < os.length
        · have HSu := Lib.hid (hasF_succ (k := n) hjl)
          rcases H13.out with h0 | ⟨g13, rfl, hc13⟩
          · rw [h0] at hjl; exact absurd hjl (by simp)
          obtain ⟨b0, b1⟩ := hc13 j hjl
          obtain ⟨x0, x1, hxx⟩ : ∃ x0 x1, (x0, x1) = os[j] := ⟨_, _, rfl⟩
          have HX := Lib.hid hxx
          rw [← hxx] at b0 b1
          simp only [] at b0 b1
          have b0 := cell_kept' hb2 b0
          have b1 := cell_kept' hb2 b1
          clear hc13 hxx
          cases hf : hasF n os j
          · by_cases hxn : x0 = n
            · subst hxn
              cases x1
              all_goals
                go_wp2
                go_roundw
                case rel => exact ⟨j + 1, by omega, by go_num, by rw [HSu.out, hf, ← HX.out]; simp, hb2⟩
                case measure => simp [intOf]; omega
            · have hxi : ¬ (x0 : Int) = (n : Int) := by omega
              go_wp2
              go_roundw
              case rel => exact ⟨j + 1, by omega, by go_num, by rw [HSu.out, hf, ← HX.out]; simp [hxn], hb2⟩
              case measure => simp [intOf]; omega
          · go_wp2
            go_roundw
            case rel => exact ⟨j + 1, by omega, by go_num, by rw [HSu.out, hf]; rfl, hb2⟩
            case measure => simp [intOf]; omega
        · obtain rfl : j = os.length := by omega
          rw [HOwn.out]
          obtain ⟨wo, rfl⟩ : ∃ wo : World, wo = wr := ⟨_, rfl⟩
          go_wp2
          go_loopw [22, 23] (fun c i wr => ∃ d : Nat, d ≤ gs.length ∧ i = .int .i64 d ∧ c = .int .i64 (strip n (gs.take d)).length ∧ Below wo.heap.size wo wr) (fun _ i _ => gs.length - (intOf i).toNat)
          case atStart => exact ⟨0, Nat.zero_le _, rfl, rfl, Below.refl _ _⟩
          case round =>
            obtain ⟨d, hd, rfl, rfl, hb3⟩ := hrel
            have hb3' : Below w12.heap.size w12 wr := hb2.trans (hb3.mono hb2.size)
            by_cases hdl : d < gs.length
            · obtain ⟨s1, s2, s3⟩ := strip_at HStr.out hdl
              rcases H17.out with h0 | ⟨g17, rfl, hc17⟩
              · rw [h0] at hdl; exact absurd hdl (by simp)
              obtain ⟨b0, b1⟩ := hc17 d hdl
              obtain ⟨x0, x1, hxx⟩ : ∃ x0 x1, (x0, x1) = gs[d] := ⟨_, _, rfl⟩
              rw [← hxx] at b0 b1 s2 s3
              simp only [] at b0 b1 s2 s3
              have b0 := cell_kept' hb3' b0
              have b1 := cell_kept' hb3' b1
              obtain ⟨c, hc⟩ : ∃ c, c = (strip n (gs.take d)).length := ⟨_, rfl⟩
              rw [← hc] at s1 s3 ⊢
              have hx0 : x0 ≤ 1000000 := by
                have := HGl.out d hdl
                rw [← hxx] at this
                simp only [] at this
                omega
              have HC2 := Lib.hid hc
              have S2 := Lib.hid s2
              have S3 := Lib.hid s3
              clear hc17 hxx hc s2 s3
              by_cases hxn : x0 = n
              · have hxi : ((x0 : Int) == (n : Int)) = true := by simp; omega
                have HXn := Lib.hid hxn
                clear hxn
                go_wp2
                go_roundw
                case rel => exact ⟨d + 1, by omega, by go_num, by rw [S2.out HXn.out, ← HC2.out], hb3⟩
                case measure => simp [intOf]; omega
              · have hxi : ((x0 : Int) == (n : Int)) = false := by simp; omega
                obtain ⟨t1, t2⟩ := S3.out hxn
                have hcw : c < ws.length := (List.getElem?_eq_some_iff.1 t2).1
                rcases H15.out with h0 | ⟨g15, rfl, hc15⟩
                · rw [h0] at hcw; exact absurd hcw (by simp)
                obtain ⟨u0, u1⟩ := hc15 c hcw
                rw [(List.getElem?_eq_some_iff.1 t2).2] at u0 u1
                simp only [] at u0 u1
                have u0 := cell_kept' hb3' u0
                have u1 := cell_kept' hb3' u1
                have e1 : ((c : Int) == (ws.length : Int)) = false := by simp; omega
                have e2 : (c : Int) < (ws.length : Int) := by omega
                have e3 : (0 : Int) ≤ (c : Int) := by omega
                have e4 : (d : Int) < (gs.length : Int) := by omega
                have e5 : (0 : Int) ≤ (d : Int) := by omega
                have T1 := Lib.hid t1
                clear t1 t2 hc15 hxn
                by_cases hgt : n < x0
                · have u0 : wr.cell? ⟨g15, c * 2, none⟩ = some (.int .i64 ((x0 : Int) - 1)) := by rw [u0, if_pos hgt]; congr 2; omega
                  go_wp2
                  have f0 := fun x : Later wr => x.get b0
                  have f1 := fun x : Later wr => x.get b1
                  have f2 := fun x : Later wr => x.get u0
                  have f3 := fun x : Later wr => x.get u1
                  refine wp_region_later (by kernel_rfl) (by kernel_rfl) ?_
                  repeat (go_big_quiet_step (fail))
                  refine wpQuiet_nil ?_
                  rintro _ ⟨y, rfl⟩
                  clear f0 f1 f2 f3
                  go_wp2
                  go_roundw
                  case rel => exact ⟨d + 1, by omega, by go_num, by rw [T1.out]; go_num, hb3.trans (y.below.mono hb3.size)⟩
                  case measure => simp [intOf]; omega
                · have u0 : wr.cell? ⟨g15, c * 2, none⟩ = some (.int .i64 (x0 : Int)) := by rw [u0, if_neg hgt]
                  go_wp2
                  have f0 := fun x : Later wr => x.get b0
                  have f1 := fun x : Later wr => x.get b1
                  have f2 := fun x : Later wr => x.get u0
                  have f3 := fun x : Later wr => x.get u1
                  refine wp_region_later (by kernel_rfl) (by kernel_rfl) ?_
                  repeat (go_big_quiet_step (fail))
                  refine wpQuiet_nil ?_
                  rintro _ ⟨y, rfl⟩
                  clear f0 f1 f2 f3
                  go_wp2
                  go_roundw
                  case rel => exact ⟨d + 1, by omega, by go_num, by rw [T1.out]; go_num, hb3.trans (y.below.mono hb3.size)⟩
                  case measure => simp [intOf]; omega
            · obtain rfl : d = gs.length := by omega
              rw [strip_done HStr.out]
              go_wp2
              go_ret
              exact ⟨rfl, hx12.trans ((hb2.trans (hb3.mono hb2.size)).mono hx12.size)⟩
end Go.Proofs.YtakpkaklcjgdkaaDoor
