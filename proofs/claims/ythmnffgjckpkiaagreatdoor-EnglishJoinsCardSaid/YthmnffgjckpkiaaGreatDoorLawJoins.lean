/-
  The walk of 'EnglishJoins'.
-/
import Derived.Test.YthmnffgjckpkiaaGreatDoorJoinS
import Derived.Test.YthmnffgjckpkiaaGreatDoorForG
import Derived.Test.YthmnffgjckpkiaaGreatDoorSmall34
import Derived.Test.YthmnffgjckpkiaaGreatDoorExch
import Derived.Test.YthmnffgjckpkiaaGreatDoorGEngI
import Derived.Test.YthmnffgjckpkiaaGreatDoorWrite
import Derived.Deep.DeepCutAuto
namespace Go.Proofs.YthmnffgjckpkiaaGreatDoor
open Go Go.RowKit Go.Shelf

/-- The word between, and the rule, by the number. -/
def glW (c : Int) : List UInt8 := if c % 4 = 0 then wIff else if c % 4 = 1 then wOr else if c % 4 = 2 then wAnd else wThen
def glR (c : Int) : Int := if c % 4 = 0 then 2 else if c % 4 = 1 then 3 else if c % 4 = 2 then 4 else 1
theorem glue_c (c : Int) : Glue (glW c) (glR c) := by
  unfold Glue glW glR
  by_cases h0 : c % 4 = 0
  · rw [if_pos h0, if_pos h0]; exact .inr (.inl ⟨rfl, rfl⟩)
  · rw [if_neg h0, if_neg h0]
    by_cases h1 : c % 4 = 1
    · rw [if_pos h1, if_pos h1]; exact .inr (.inr (.inl ⟨rfl, rfl⟩))
    · rw [if_neg h1, if_neg h1]
      by_cases h2 : c % 4 = 2
      · rw [if_pos h2, if_pos h2]; exact .inr (.inr (.inr ⟨rfl, rfl⟩))
      · rw [if_neg h2, if_neg h2]; exact .inl ⟨rfl, rfl⟩
theorem short_some {l : List (List UInt8)} (h : shortS l = true) : l.length ≤ 26 := by
  unfold shortS at h
  simp only [Bool.and_eq_true, decide_eq_true_eq] at h
  exact h.1
/-- The cells of words in memory, as news for an append. -/
theorem news_words {W : World} {b off : Nat} {s : List (List UInt8)} {m : Nat} (hc : ∀ j (h : j < s.length), W.cell? ⟨b, off + j, none⟩ = some (.string ⟨s[j].toArray⟩)) (hm : m ≤ s.length) : ∀ j u, ((s.take m).map strVal)[j]? = some u → W.cell? ((⟨b, off, none⟩ : Addr).add j) = some u := by
  intro j u hu
  rw [List.getElem?_map] at hu
  obtain ⟨x, hx, rfl⟩ := Option.map_eq_some_iff.1 hu
  obtain ⟨hj, hx⟩ := List.getElem?_eq_some_iff.1 hx
  have hj' : j < m ∧ j < s.length := by simp at hj; omega
  have hadd : ∀ k, (⟨b, off, none⟩ : Addr).add k = ⟨b, off + k, none⟩ := fun k => by unfold Addr.add; split <;> simp_all
  rw [hadd, hc j hj'.2, ← hx]
  simp [strVal]

theorem two_new (w : World) (o o' : Obj) : ((w.alloc o).alloc o').drew.heap[w.heap.size + 1]? = some o' ∧ ((w.alloc o).alloc o').drew.heap[w.heap.size]? = some o ∧ Below w.heap.size w ((w.alloc o).alloc o').drew := by
  refine ⟨?_, ?_, (((Below.refl w.heap.size w).alloc (Nat.le_refl _) _).alloc (by simp) _).drew⟩
  · show ((w.alloc o).alloc o').heap[w.heap.size + 1]? = some o'
    exact heap_atC (by simp)
  · show ((w.alloc o).alloc o').heap[w.heap.size]? = some o
    exact (Below.heap_alloc _ _ _ (by simp)).trans (heap_atC rfl)
set_option maxRecDepth 100000 in
set_option maxHeartbeats 16000000 in
theorem EnglishJoins_any (W0 w : World) (ht : Tabs W0 w) (lv sv tv : Value) (l : List Ent) (hl : EntSlice w lv l) (s : List (List UInt8)) (hs : StrSlice w sv s) (t : List (List UInt8)) (hts : StrSlice w tv t) (c : Int) (hc0 : 0 ≤ c) (hc1 : c ≤ 255) :
    Calls Tryz.prog 5 #[lv, sv, tv, .int .u8 c] w fun e w' => e = .returned (.bool true) ∧ Below w.heap.size w w' := by
  obtain ⟨i0, hi, hz0, hz1, hz2⟩ := info_parts info_str
  have HL := Lib.hid hl
  have HS := Lib.hid hs
  have HTk := Lib.hid hts
  have HT := Lib.hid ht
  obtain ⟨sa, scap, rfl, hsc, hscm, hsf⟩ := hs
  obtain ⟨ta, tcap, rfl, htc, htcm, htf⟩ := hts
  have HSc := Lib.hid (And.intro hsc hscm)
  have HTc := Lib.hid (And.intro htc htcm)
  have HSf := Lib.hid hsf
  have HTf := Lib.hid htf
  obtain ⟨ns, hns⟩ : ∃ ns, ns = s.length := ⟨_, rfl⟩
  obtain ⟨nt, hnt⟩ : ∃ nt, nt = t.length := ⟨_, rfl⟩
  rw [← hns] at HS
  rw [← hnt] at HTk
  rw [← hns, ← hnt]
  have HNs := Lib.hid hns
  have HNt := Lib.hid hnt
  clear hl ht hsc hscm hsf htc htcm htf hns hnt
  go_enter Tryz.func5, Tryz.ntmps5
  go_wp2_with fail
  refine (awake34_any W0 w HT.out).mono ?_
  rintro _ w1 ⟨rfl, hb1⟩
  have HB1 := Lib.hid hb1
  clear hb1
  obtain ⟨b1, hb1e⟩ : ∃ b, b = smallL l := ⟨_, rfl⟩
  have hSm := Small_any w1 _ l (HL.out.below HB1.out)
  rw [← hb1e] at hSm
  have HSm := Lib.hid hSm
  clear hSm hb1e
  go_wp2_with fail
  refine HSm.out.mono ?_
  rintro _ w1' ⟨rfl, h2⟩
  rw [← h2]
  clear h2 w1' HSm
  cases b1
  · go_wp2
    go_ret
    exact ⟨rfl, HB1.out⟩
  obtain ⟨b2, hb2e⟩ : ∃ b, b = shortS s := ⟨_, rfl⟩
  have hSh := Short34_any w1 _ s (HS.out.below HB1.out)
  rw [← hb2e] at hSh
  have HSh := Lib.hid hSh
  have HSe := Lib.hid hb2e
  clear hSh hb2e
  go_wp2_with fail
  refine HSh.out.mono ?_
  rintro _ _ ⟨rfl, rfl⟩
  clear HSh
  cases b2
  · go_wp2
    go_ret
    exact ⟨rfl, HB1.out⟩
  obtain ⟨b3, hb3e⟩ : ∃ b, b = shortS t := ⟨_, rfl⟩
  have hSh := Short34_any w1 _ t (HTk.out.below HB1.out)
  rw [← hb3e] at hSh
  have HSh := Lib.hid hSh
  have HTe := Lib.hid hb3e
  clear hSh hb3e
  go_wp2_with fail
  refine HSh.out.mono ?_
  rintro _ _ ⟨rfl, rfl⟩
  clear HSh
  cases b3
  · go_wp2
    go_ret
    exact ⟨rfl, HB1.out⟩
  have hs26 := short_some HSe.out.symm
  have ht26 := short_some HTe.out.symm
  rw [← HNs.out] at hs26
  rw [← HNt.out] at ht26
  by_cases hs10 : ns ≤ 10
  case neg =>
    have d1 : decide ((10 : Int) < (ns : Int)) = true := decide_eq_true (by omega)
    have d2 : decide (10 < ns) = true := decide_eq_true (by omega)
    clear hs10 hs26 ht26
    go_wp2
    go_ret
    exact ⟨rfl, HB1.out⟩
  by_cases ht10 : nt ≤ 10
  case neg =>
    have d1 : decide ((10 : Int) < (ns : Int)) = false := decide_eq_false (by omega)
    have d2 : decide (10 < ns) = false := decide_eq_false (by omega)
    have d3 : decide ((10 : Int) < (nt : Int)) = true := decide_eq_true (by omega)
    have d4 : decide (10 < nt) = true := decide_eq_true (by omega)
    clear hs10 ht10 hs26 ht26
    go_wp2
    go_ret
    exact ⟨rfl, HB1.out⟩
  have d1 : decide ((10 : Int) < (ns : Int)) = false := decide_eq_false (by omega)
  have d2 : decide (10 < ns) = false := decide_eq_false (by omega)
  have d3 : decide ((10 : Int) < (nt : Int)) = false := decide_eq_false (by omega)
  have d4 : decide (10 < nt) = false := decide_eq_false (by omega)
  obtain ⟨m, me, ts, pe, hC, hP, hmm, hcase⟩ := parse_cases l s
  have HC := Lib.hid hC
  have HP := Lib.hid hP
  have HCase := Lib.hid hcase
  have hcall := Count_any W0 w1 (HT.out.next HB1.out) lv _ l (HL.out.below HB1.out) s (HS.out.below HB1.out)
  rw [hC] at hcall
  have HCall := Lib.hid hcall
  clear hC hP hcase hcall hs26 ht26
  go_wp2_with fail
  refine HCall.out.mono ?_
  rintro _ w2 ⟨rfl, hb2⟩
  have HB2 := Lib.hid (HB1.out.trans (hb2.mono HB1.out.size))
  clear hb2 HCall
  obtain ⟨n, ne, ts', pe', hC, hP, hmn, hcase⟩ := parse_cases l t
  have HC' := Lib.hid hC
  have HP' := Lib.hid hP
  have HCase' := Lib.hid hcase
  have hcall := Count_any W0 w2 (HT.out.next HB2.out) lv _ l (HL.out.below HB2.out) t (HTk.out.below HB2.out)
  rw [hC] at hcall
  have HCall := Lib.hid hcall
  clear hC hP hcase hcall d1 d2 d3 d4
  go_wp2_with fail
  refine HCall.out.mono ?_
  rintro _ w3 ⟨rfl, hb3⟩
  have HB3 := Lib.hid (HB2.out.trans (hb3.mono HB2.out.size))
  clear hb3 HCall
  have hme : (me = 0 ∧ True) ∨ (me ≠ 0 ∧ True) := by by_cases h : me = 0 <;> simp [h]
  rcases hme with ⟨hme, _⟩ | ⟨hme, _⟩
  case inr =>
    have e1 : (me != 0) = true := by simpa using hme
    have e2 : (me == 0) = false := by simpa using hme
    clear hme
    go_wp2
    go_ret
    exact ⟨rfl, HB3.out⟩
  have hne : (ne = 0 ∧ True) ∨ (ne ≠ 0 ∧ True) := by by_cases h : ne = 0 <;> simp [h]
  rcases hne with ⟨hne, _⟩ | ⟨hne, _⟩
  case inr =>
    have e1 : (ne != 0) = true := by simpa using hne
    have e2 : (ne == 0) = false := by simpa using hne
    subst hme
    clear hne
    go_wp2
    go_ret
    exact ⟨rfl, HB3.out⟩
  subst hme hne
  by_cases hm0 : 0 < m
  case neg =>
    obtain rfl : m = 0 := by omega
    go_wp2
    go_ret
    exact ⟨rfl, HB3.out⟩
  by_cases hn0 : 0 < n
  case neg =>
    obtain rfl : n = 0 := by omega
    have e1 : ((m : Int) == 0) = false := by simp; omega
    have e2 : (m == 0) = false := by simp; omega
    clear hm0
    go_wp2
    go_ret
    exact ⟨rfl, HB3.out⟩
  have e1 : ((m : Int) == 0) = false := by simp; omega
  have e2 : (m == 0) = false := by simp; omega
  have e3 : ((n : Int) == 0) = false := by simp; omega
  have e4 : (n == 0) = false := by simp; omega
  have hmk := few_parses HC.out hm0 (by rw [← HNs.out]; exact hs10)
  have hnk := few_parses HC'.out hn0 (by rw [← HNt.out]; exact ht10)
  have hm1000 : m ≤ 1000 := hmk.1
  have hn1000 : n ≤ 1000 := hnk.1
  obtain ⟨k, hkC, hkm, hkt⟩ := joins_count (glue_c c) HC.out HC'.out hm0 hn0 (by rw [← HNs.out]; exact hs10) (by rw [← HNt.out]; exact ht10)
  have HkC := Lib.hid hkC
  have Hkm := Lib.hid hkm
  have Hkt := Lib.hid hkt
  have HM0 := Lib.hid hm0
  have HN0 := Lib.hid hn0
  clear hmk hnk hkC hkm hkt hm0 hn0 hmm hmn
  go_upto_region 10 with (fail)
  have hq : c % 4 = 0 ∨ c % 4 = 1 ∨ c % 4 = 2 ∨ c % 4 = 3 := by omega
  go_cut [14] (fun s14 wx => s14 = .string ⟨(glW c).toArray⟩ ∧ Below w3.heap.size w3 wx)
  case first =>
    rcases hq with hq | hq | hq | hq
    all_goals
      go_wp2
      go_meet
      exact ⟨by simp [glW, hq, wIff, wOr, wAnd, wThen], (Below.refl _ _).alloc (Nat.le_refl _) _⟩
  case rest =>
  obtain ⟨rfl, hb4⟩ := hcut
  obtain ⟨wd, hwd⟩ : ∃ wd, wd = glW c := ⟨_, rfl⟩
  rw [← hwd] at HkC ⊢
  have HWd := Lib.hid hwd
  have HB4 := Lib.hid hb4
  obtain ⟨w4, hw4⟩ : ∃ w4, w4 = wc := ⟨_, rfl⟩
  rw [← hw4] at HB4 ⊢
  clear hwd hb4 hq hw4 wc
  go_upto_if 85 with (fail)
  obtain ⟨bv, hbv⟩ : ∃ bv : Value, bv = .slice none 0 0 := ⟨_, rfl⟩
  rw [← hbv]
  have HBv := Lib.hid hbv
  clear hbv
  go_cut [13] (fun s13 wx => ∃ a nn cap, s13 = .slice a nn cap ∧ RowN w3.heap.size wx a nn cap (if wd = wThen then [wIf] else []) ∧ Below w3.heap.size w3 wx)
  case first =>
    by_cases hth : wd = wThen
    · have g1 : (wd == [116, 104, 101, 110]) = true := by rw [hth]; rfl
      have HTh := Lib.hid hth
      clear hth
      rw [g1]
      go_wp2_with (at_builtin; refine wpList_append_lies _ rfl (.tmp 86) (.tmp 87) 41 rfl w3.heap.size 9 i0 (.string ByteArray.empty) 1 16 Tryz.underlying41 hi hz0 hz1 hz2 rfl (by decide) bv 0 [] rfl (by rw [HBv.out]; exact World.ownsRow_nil _ _ _ _) ⟨w4.heap.size, 0, none⟩ 1 1 [.string ⟨#[105, 102]⟩] rfl rfl (news_at (World.alloc_heap_new w4 _)) (by simp [Value.oneCell']) (by decide) (by unfold maxLen; omega) (by omega) (Nat.le_trans HB4.out.size (by simp)) _ rfl ?_; intro g6 c6 w6 ho6 hg6 hat6 _)
      go_meet
      refine ⟨_, _, _, rfl, ?_, ?_⟩
      · rw [if_pos HTh.out]
        exact RowN.add (xs := []) [wIf] rfl rfl (by simp [strVal, wIf]) ho6
      · exact (HB4.out.alloc HB4.out.size _).grown hg6 (Nat.le_trans HB4.out.size (by simp)) (fun k hk => by rw [HBv.out] at hk; simp [Value.ownBlock] at hk)
    · have g1 : (wd == [116, 104, 101, 110]) = false := by simpa [wThen] using hth
      have HTh := Lib.hid hth
      clear hth
      rw [g1]
      go_wp2
      go_meet
      refine ⟨_, _, _, HBv.out, ?_, HB4.out⟩
      rw [if_neg HTh.out]
      exact ⟨rfl, World.ownsRow_nil _ _ _ _⟩
  case rest =>
  obtain ⟨ba, bn, bcap, rfl, hrow, hb5⟩ := hcut
  obtain ⟨w5, hw5⟩ : ∃ w5, w5 = wc := ⟨_, rfl⟩
  rw [← hw5] at hrow hb5 ⊢
  have HRow := Lib.hid hrow
  have HB5 := Lib.hid hb5
  have hbn : bn ≤ 1 := by
    rw [hrow.1]
    split <;> simp
  clear hrow hb5 hw5 wc HB4
  obtain ⟨_, _, hsd, hsc⟩ := count_0 HC.out HM0.out
  obtain ⟨_, _, htd, _⟩ := count_0 HC'.out HN0.out
  have hbs : 0 < (bareS s).length := by
    rcases Nat.eq_zero_or_pos (bareS s).length with h | h
    · rw [cntS_zero _ (by omega)] at hsc
      have := HM0.out
      omega
    · exact h
  obtain ⟨ms, rfl⟩ : ∃ ms, ns = ms + 1 := ⟨ns - 1, by have := HNs.out; have h := congrArg List.length hsd; simp at h; omega⟩
  have hms : 0 < ms := by have := HNs.out; have h := congrArg List.length hsd; simp at h; omega
  have hnt0 : 0 < nt := by have := HNt.out; have h := congrArg List.length htd; simp at h; omega
  obtain ⟨sb, soff, rfl, hsc1⟩ := HSf.out.resolve_left (fun h => by have := HNs.out; rw [h] at this; simp at this)
  obtain ⟨tb, toff, rfl, htc1⟩ := HTf.out.resolve_left (fun h => by have := HNt.out; rw [h] at this; simp at this; omega)
  have HSc1 := Lib.hid hsc1
  have HTc1 := Lib.hid htc1
  have hscap : ms + 1 ≤ scap := by have := HNs.out; have := HSc.out.1; omega
  have hscm : scap ≤ maxLen := HSc.out.2
  have y1 : IntKind.i64.wrap (((ms + 1 : Nat) : Int) - 1) = (ms : Int) := by rw [show ((ms + 1 : Nat) : Int) - 1 = (ms : Int) by omega]; exact IntWalk.i64_in _ (by omega)
  have y2 : IntKind.i64.wrap ((ms : Int) + 1 - 1) = (ms : Int) := by rw [show (ms : Int) + 1 - 1 = (ms : Int) by omega]; exact IntWalk.i64_in _ (by omega)
  have y3 : (ms : Int) ≤ (scap : Int) := by omega
  have y4 : ms ≤ scap := by omega
  have y5 : (0 : Int) ≤ (ms : Int) := by omega
  have HMs := Lib.hid hms
  have HNt0 := Lib.hid hnt0
  have HB35 := Lib.hid (HB3.out.trans (HB5.out.mono HB3.out.size))
  clear hsd hsc htd hbs hsc1 htc1 hms hnt0
  go_wp2_with (first
    | (at_builtin; refine wpList_append_lies _ rfl (.tmp 89) (.tmp 94) 41 rfl w3.heap.size 9 i0 (.string ByteArray.empty) 1 16 Tryz.underlying41 hi hz0 hz1 hz2 rfl (by decide) (.slice ba bn bcap) bn _ rfl HRow.out.2 ⟨sb, soff, none⟩ ms scap ((s.take ms).map strVal) rfl (by simp; have := HNs.out; omega) (news_words (fun j h => cell_kept' HB35.out (HSc1.out j h)) (by have := HNs.out; omega)) (by intro u hu; obtain ⟨x, _, rfl⟩ := List.mem_map.1 hu; rfl) HMs.out (by unfold maxLen; omega) (by omega) HB5.out.size _ rfl ?_; intro g6 c6 w6 ho6 hg6 hat6 hlt6; have hr6 := RowN.add (m := ms) (s.take ms) HRow.out.1 (by simp; have := HNs.out; omega) rfl ho6; have hb6 : Below w3.heap.size w3 w6 := HB5.out.grown hg6 HB5.out.size (fun k hk => (HRow.out.2.lt k hk).1); have HRow6 := Lib.hid hr6; have HB6 := Lib.hid hb6; clear ho6 hg6 hat6 hlt6 hr6 hb6)
    | (at_builtin; refine wpList_append_lies _ rfl (.tmp 95) (.tmp 97) 41 rfl w3.heap.size 9 i0 (.string ByteArray.empty) 1 16 Tryz.underlying41 hi hz0 hz1 hz2 rfl (by decide) (.slice (some ⟨g6, 0, none⟩) (bn + ms) c6) (bn + ms) _ rfl (HRow6.out.alloc _).2 ⟨w6.heap.size, 0, none⟩ 1 1 [.string ⟨wd.toArray⟩] rfl rfl (news_at (World.alloc_heap_new w6 _)) (by simp [Value.oneCell']) (by decide) (by unfold maxLen; omega) (by omega) (Nat.le_trans HB6.out.size (by simp)) _ rfl ?_; intro g7 c7 w7 ho7 hg7 hat7 hlt7; have hr7 := RowN.add (m := 1) [wd] (HRow6.out.alloc (.cells #[.string ⟨wd.toArray⟩] 9)).1 rfl (by simp [strVal]) ho7; have hb7 : Below w3.heap.size w3 w7 := (HB6.out.alloc HB6.out.size _).grown hg7 (Nat.le_trans HB6.out.size (by simp)) (fun k hk => (HRow6.out.2.lt k hk).1); have HRow7 := Lib.hid hr7; have HB7 := Lib.hid hb7; clear ho7 hg7 hat7 hlt7 hr7 hb7)
    | (at_builtin; refine wpList_append_lies _ rfl (.tmp 98) (.tmp 99) 41 rfl w3.heap.size 9 i0 (.string ByteArray.empty) 1 16 Tryz.underlying41 hi hz0 hz1 hz2 rfl (by decide) (.slice (some ⟨g7, 0, none⟩) (bn + ms + 1) c7) (bn + ms + 1) _ rfl HRow7.out.2 ⟨tb, toff, none⟩ nt tcap ((t.take nt).map strVal) rfl (by simp; have := HNt.out; omega) (news_words (fun j h => cell_kept' (HB3.out.trans (HB7.out.mono HB3.out.size)) (HTc1.out j h)) (by have := HNt.out; omega)) (by intro u hu; obtain ⟨x, _, rfl⟩ := List.mem_map.1 hu; rfl) HNt0.out (by unfold maxLen; omega) (by omega) HB7.out.size _ rfl ?_; intro g8 c8 w8 ho8 hg8 hat8 hlt8; have hr8 := RowN.add (m := nt) (t.take nt) HRow7.out.1 (by simp; have := HNt.out; omega) rfl ho8; have hb8 : Below w3.heap.size w3 w8 := HB7.out.grown hg8 HB7.out.size (fun k hk => (HRow7.out.2.lt k hk).1); have HRow8 := Lib.hid hr8; have HB8 := Lib.hid hb8; clear ho8 hg8 hat8 hlt8 hr8 hb8)
    | fail)
  have hboth : (if wd = wThen then [wIf] else []) ++ s.take ms ++ [wd] ++ t.take nt = bothS wd s t := by
    unfold bothS
    rw [HNt.out, List.take_length, List.dropLast_eq_take, ← HNs.out, Nat.add_sub_cancel]
  have hR8 := HRow8.out
  rw [hboth] at hR8
  have hST := strSlice_of_owns hR8.row
  have HST := Lib.hid hST
  have HB38 := Lib.hid (HB3.out.trans (HB8.out.mono HB3.out.size))
  obtain ⟨bl, hbl⟩ : ∃ bl, bl = bn + ms + 1 + nt := ⟨_, rfl⟩
  rw [← hbl] at HST ⊢
  clear hboth hR8 hST HRow8 HRow7 HRow6 HB7 HB6 hbl
  have hcall := Count_any W0 w8 (HT.out.next HB38.out) lv _ l (HL.out.below HB38.out) _ HST.out
  rw [HkC.out] at hcall
  have HCall := Lib.hid hcall
  clear hcall y1 y2 y3 y4 y5
  obtain ⟨mn, hmn⟩ : ∃ mn, mn = m * n := ⟨_, rfl⟩
  have hmn6 : mn ≤ 1000000 := by rw [hmn]; exact Nat.mul_le_mul hm1000 hn1000
  have hwmn : IntKind.i64.wrap ((m : Int) * (n : Int)) = (mn : Int) := by
    rw [← Int.natCast_mul, ← hmn]; exact IntWalk.i64_in _ (by omega)
  have hkmn : mn ≤ k := by rw [hmn]; exact Hkm.out
  have q1 : decide ((k : Int) < (mn : Int)) = false := decide_eq_false (by omega)
  have q2 : decide (k < mn) = false := decide_eq_false (by omega)
  have q3 : ¬ k < mn := by omega
  have HMn := Lib.hid hmn
  have Hkmn := Lib.hid hkmn
  clear hmn hkmn
  refine HCall.out.mono ?_
  rintro _ w9 ⟨rfl, hb9⟩
  have HB9 := Lib.hid (HB38.out.trans (hb9.mono HB38.out.size))
  have HST9 := Lib.hid (HST.out.below hb9)
  clear hb9 HCall HST
  obtain ⟨k', ke, ts2, pe2, hC, hP, _, hcase⟩ := parse_cases l (bothS wd s t)
  rw [HkC.out] at hC
  injection hC with hC1 hC2
  subst hC1 hC2
  have HP2 := Lib.hid hP
  have HCase2 := Lib.hid hcase
  have hcall := Parses_any W0 w9 (HT.out.next HB9.out) lv _ l (HL.out.below HB9.out) _ HST9.out
  rw [hP] at hcall
  have HCall := Lib.hid hcall
  clear hcall hP hcase
  go_wp2_with fail
  refine HCall.out.mono ?_
  rintro _ w10 ⟨rv2, rfl, hb10, hF2⟩
  have HF2 := Lib.hid hF2
  have HB10 := Lib.hid (HB9.out.trans (hb10.mono HB9.out.size))
  clear hb10 hF2 HCall
  have hcall := Parses_any W0 w10 (HT.out.next HB10.out) lv _ l (HL.out.below HB10.out) _ (HS.out.below HB10.out)
  rw [HP.out] at hcall
  have HCall := Lib.hid hcall
  clear hcall
  go_wp2_with fail
  refine HCall.out.mono ?_
  rintro _ w11 ⟨rv, rfl, hb11, hF⟩
  have HF := Lib.hid hF
  have HB11 := Lib.hid (HB10.out.trans (hb11.mono HB10.out.size))
  have HF2b := Lib.hid (HF2.out.below hb11)
  clear hb11 hF HCall
  have hcall := Parses_any W0 w11 (HT.out.next HB11.out) lv _ l (HL.out.below HB11.out) _ (HTk.out.below HB11.out)
  rw [HP'.out] at hcall
  have HCall := Lib.hid hcall
  clear hcall
  go_wp2_with fail
  refine HCall.out.mono ?_
  rintro _ w12 ⟨rv', rfl, hb12, hF'⟩
  have HF' := Lib.hid hF'
  have HB12 := Lib.hid (HB11.out.trans (hb12.mono HB11.out.size))
  have HFa := Lib.hid (HF.out.below hb12)
  have HFc := Lib.hid (HF2b.out.below hb12)
  clear hb12 hF' HCall HF HF2 HF2b
  obtain ⟨A, hA⟩ : ∃ A, A = ts.length := ⟨_, rfl⟩
  obtain ⟨B, hB⟩ : ∃ B, B = ts'.length := ⟨_, rfl⟩
  obtain ⟨C, hCd⟩ : ∃ C, C = ts2.length := ⟨_, rfl⟩
  obtain ⟨aa, ac, rfl⟩ : ∃ aa ac, rv = .slice aa A ac := by obtain ⟨_, _, _, _, hown, _⟩ := HFa.out; rw [hA]; exact owns_form hown
  obtain ⟨ba', bc', rfl⟩ : ∃ ba bc, rv' = .slice ba B bc := by obtain ⟨_, _, _, _, hown, _⟩ := HF'.out; rw [hB]; exact owns_form hown
  obtain ⟨ca, cc, rfl⟩ : ∃ ca cc, rv2 = .slice ca C cc := by obtain ⟨_, _, _, _, hown, _⟩ := HFc.out; rw [hCd]; exact owns_form hown
  simp only at HFa HF' HFc
  rw [← hA] at HFa
  rw [← hB] at HF'
  rw [← hCd] at HFc
  have HA := Lib.hid hA
  have HBl := Lib.hid hB
  have HCl := Lib.hid hCd
  clear hA hB hCd
  have hmn0 : 0 < mn := by rw [HMn.out]; exact Nat.mul_pos HM0.out HN0.out
  have hk0 : 0 < k := Nat.lt_of_lt_of_le hmn0 Hkmn.out
  by_cases h64 : 64 < k
  · obtain rfl : pe2 = 5 := by
      rcases HCase2.out with ⟨_, h, _⟩ | ⟨_, _, h, _⟩ | ⟨_, _, h, _⟩ | ⟨_, _, _, _, _, h⟩ | ⟨_, _, _, h, _⟩
      · omega
      · omega
      · omega
      · exact h
      · omega
    clear hmn0 hk0 h64
    go_wp2
    go_ret
    exact ⟨rfl, HB12.out⟩
  have hg : Glue wd (glR c) := by rw [HWd.out]; exact glue_c c
  have hin := joins_in hg HC.out HC'.out HM0.out HN0.out HkC.out Hkm.out h64
  rw [HP.out, HP'.out, HP2.out] at hin
  simp only at hin
  obtain ⟨hla, hlb, rfl, hlc, hmem⟩ := hin
  have hAm : A = m := HA.out.trans hla
  have hBn : B = n := HBl.out.trans hlb
  have hCk : C = k := HCl.out.trans hlc
  subst hAm hBn hCk
  have HMem := Lib.hid hmem
  have hslim : ∀ i (hi : i < ts2.length), Slim ts2[i] := fun i hi => by
    refine (spoken_mem HkC.out hk0 h64 ?_).2.2.2
    rw [HP2.out]; exact List.getElem_mem hi
  have HSlim := Lib.hid hslim
  have hm64 : A ≤ 64 := by have h1 : A ≤ A * B := Nat.le_mul_of_pos_right A HN0.out; have := Hkm.out; omega
  have hn64 : B ≤ 64 := by have h1 : B ≤ A * B := Nat.le_mul_of_pos_left B HM0.out; have := Hkm.out; omega
  have hk64 : C ≤ 64 := by omega
  have hmn64 : mn ≤ 64 := Nat.le_trans Hkmn.out hk64
  clear hg hmem hla hlb hlc hslim hmn0 hk0 h64
  obtain ⟨rr, hrr⟩ : ∃ rr, rr = glR c := ⟨_, rfl⟩
  have HRr := Lib.hid hrr
  clear hrr
  go_upto_region 22 with (fail)
  have hq : c % 4 = 0 ∨ c % 4 = 1 ∨ c % 4 = 2 ∨ c % 4 = 3 := by omega
  go_cut [23] (fun s23 wx => s23 = .int .u8 rr ∧ Below w12.heap.size w12 wx)
  case first =>
    rcases hq with hq | hq | hq | hq
    all_goals
      go_wp2
      go_meet
      exact ⟨by rw [HRr.out]; simp [glR, hq], (Below.refl _ _).alloc (Nat.le_refl _) _⟩
  case rest =>
  obtain ⟨rfl, hb13⟩ := hcut
  obtain ⟨w13, hw13⟩ : ∃ w13, w13 = wc := ⟨_, rfl⟩
  rw [← hw13] at hb13 ⊢
  have HB13 := Lib.hid hb13
  clear hb13 hq hw13 wc
  go_wp2
  go_loopw [24] (fun q wr => ∃ i : Nat, i ≤ mn ∧ q = .int .i64 i ∧ Below w12.heap.size w12 wr) (fun q _ => mn - (intOf q).toNat)
  case atStart => exact ⟨0, Nat.zero_le _, rfl, HB13.out⟩
  case round =>
    obtain ⟨i, hi, rfl, hbr⟩ := hrel
    have HBr := Lib.hid hbr
    by_cases hlt : i < mn
    · have hd : decide ((i : Int) < (mn : Int)) = true := decide_eq_true (by omega)
      obtain ⟨im, him⟩ : ∃ im, im = i % A := ⟨_, rfl⟩
      obtain ⟨iq, hiq⟩ : ∃ iq, iq = i / A := ⟨_, rfl⟩
      have him2 : im < A := by rw [him]; exact Nat.mod_lt _ HM0.out
      have hiq2 : iq < B := by rw [hiq]; exact Nat.div_lt_of_lt_mul (by rw [← HMn.out]; exact hlt)
      have hta : im < ts.length := by rw [← HA.out]; exact him2
      have htb : iq < ts'.length := by rw [← HBl.out]; exact hiq2
      obtain ⟨ga, q0, rfl, htq, a0, a1, a2, a3⟩ := forG_get HFa.out him2 hta
      obtain ⟨gb, q1, rfl, htp, b0, b1, b2, b3⟩ := forG_get HF'.out hiq2 htb
      have c0 := cell_kept' hbr a0
      have c1 := cell_kept' hbr a1
      have c2 := cell_kept' hbr a2
      have c3 := cell_kept' hbr a3
      have d0 := cell_kept' hbr b0
      have d1 := cell_kept' hbr b1
      have d2 := cell_kept' hbr b2
      have d3 := cell_kept' hbr b3
      have HTq := Lib.hid htq
      have HTp := Lib.hid htp
      have t1 : Int.tmod (i : Int) (A : Int) = (im : Int) := by rw [him]; exact (Int.ofNat_tmod i A).symm
      have t2 : Int.tdiv (i : Int) (A : Int) = (iq : Int) := by rw [hiq]; exact (Int.ofNat_tdiv i A).symm
      have t3 : IntKind.i64.wrap (im : Int) = (im : Int) := IntWalk.i64_in _ (by omega)
      have t4 : IntKind.i64.wrap (iq : Int) = (iq : Int) := IntWalk.i64_in _ (by omega)
      have t5 : (im : Int) < (A : Int) := by omega
      have t6 : (iq : Int) < (B : Int) := by omega
      have t7 : (0 : Int) ≤ (im : Int) := by omega
      have t8 : (0 : Int) ≤ (iq : Int) := by omega
      have hkp : ∀ (o : Obj) (b k : Nat) (v : Value), wr.cell? ⟨b, k, none⟩ = some v → ((wr.alloc o).drew).cell? ⟨b, k, none⟩ = some v := fun o b k v h => cell_kept' (((Below.refl wr.heap.size wr).alloc (Nat.le_refl _) o).drew) h
      have x0 := fun o => hkp o _ _ _ c0
      have x1 := fun o => hkp o _ _ _ c1
      have x2 := fun o => hkp o _ _ _ c2
      have x3 := fun o => hkp o _ _ _ c3
      have z0 := fun o => hkp o _ _ _ d0
      have z1 := fun o => hkp o _ _ _ d1
      have z2 := fun o => hkp o _ _ _ d2
      have z3 := fun o => hkp o _ _ _ d3
      have hA0 : ¬ A = 0 := by omega
      have hA1 : ((A : Int) == 0) = false := by simp; omega
      clear hkp hbr him hiq a0 a1 a2 a3 b0 b1 b2 b3 htq htp
      obtain ⟨X, hX⟩ : ∃ X, X = Tr.node rr 0 [] [ts[im], ts'[iq]] := ⟨_, rfl⟩
      have hXin : X ∈ ts2 := by rw [hX, HRr.out]; exact HMem.out _ (List.getElem_mem hta) _ (List.getElem_mem htb)
      have HXe := Lib.hid hX
      have HXin := Lib.hid hXin
      clear hX hXin
      go_wp2
      go_cut [25] (fun s25 wx => ∃ Z Y, s25 = .pointer (some ⟨Z, 0, none⟩) ∧ wx.heap[Z]? = some (.cells #[.int .u8 rr, .int .i64 0, .string ⟨#[]⟩, .slice (some ⟨Y, 0, none⟩) 2 2] 36 (0, 0)) ∧
        wx.heap[Y]? = some (.cells #[.int .u8 q0.r, .int .i64 q0.e, .string q0.w, .slice q0.a q0.n q0.c, .int .u8 q1.r, .int .i64 q1.e, .string q1.w, .slice q1.a q1.n q1.c] 36 (0, 0)) ∧ Below wr.heap.size wr wx)
      case first =>
        go_region
        · clear HTq HTp HXe x0 x1 x2 x3 z0 z1 z2 z3 c0 c1 c2 c3 d0 d1 d2 d3 t1 t2 t3 t4 t5 t6 t7 t8 hA0 hA1 hta htb him2 hiq2
          first
            | (go_step; go_step; go_meet; exact ⟨_, _, rfl, (two_new wr _ _).1, (two_new wr _ _).2.1, (two_new wr _ _).2.2⟩)
            | (go_step; rename_i hmeet; refine hmeet _ _ ?_; go_meet; exact ⟨_, _, rfl, (two_new wr _ _).1, (two_new wr _ _).2.1, (two_new wr _ _).2.2⟩)
            | (go_step; go_meet; exact ⟨_, _, rfl, (two_new wr _ _).1, (two_new wr _ _).2.1, (two_new wr _ _).2.2⟩)
            | (go_wp2_with fail; go_meet; exact ⟨_, _, rfl, (two_new wr _ _).1, (two_new wr _ _).2.1, (two_new wr _ _).2.2⟩)
        · clear HTq HTp HXe x0 x1 x2 x3 z0 z1 z2 z3 c0 c1 c2 c3 d0 d1 d2 d3 t1 t2 t3 t4 t5 t6 t7 t8 hA0 hA1 hta htb him2 hiq2
          first
            | (go_step; go_step; go_meet; exact ⟨_, _, rfl, (two_new wr _ _).2.1, (two_new wr _ _).1, (two_new wr _ _).2.2⟩)
            | (go_step; rename_i hmeet; refine hmeet _ _ ?_; go_meet; exact ⟨_, _, rfl, (two_new wr _ _).2.1, (two_new wr _ _).1, (two_new wr _ _).2.2⟩)
            | (go_step; go_meet; exact ⟨_, _, rfl, (two_new wr _ _).2.1, (two_new wr _ _).1, (two_new wr _ _).2.2⟩)
            | (go_wp2_with fail; go_meet; exact ⟨_, _, rfl, (two_new wr _ _).2.1, (two_new wr _ _).1, (two_new wr _ _).2.2⟩)
      case rest =>
      obtain ⟨Z, Y, rfl, hZ, hY, hbx⟩ := hcut
      obtain ⟨wx, hwx⟩ : ∃ wx, wx = wc := ⟨_, rfl⟩
      rw [← hwx] at hZ hY hbx ⊢
      have hb12x : Below w12.heap.size w12 wx := HBr.out.trans (hbx.mono HBr.out.size)
      have HBx := Lib.hid hb12x
      have hW := tree_two (ok := fun _ => True) q0 q1 hY trivial (HTq.out.move (fun b _ h => ⟨trivial, by obtain ⟨_, _, h⟩ := h; exact hb12x.block b (cell_lt h)⟩)) (HTp.out.move (fun b _ h => ⟨trivial, by obtain ⟨_, _, h⟩ := h; exact hb12x.block b (cell_lt h)⟩)) rr 0 [] #[] rfl
      rw [← HXe.out] at hW
      have HWt := Lib.hid hW
      have m0 : wx.cell? ⟨Z, 0, none⟩ = some (.int .u8 rr) := (cell_rowC hZ 0).trans rfl
      have m1 : wx.cell? ⟨Z, 1, none⟩ = some (.int .i64 0) := (cell_rowC hZ 1).trans rfl
      have m2 : wx.cell? ⟨Z, 2, none⟩ = some (.string ⟨#[]⟩) := (cell_rowC hZ 2).trans rfl
      have m3 : wx.cell? ⟨Z, 3, none⟩ = some (.slice (some ⟨Y, 0, none⟩) 2 2) := (cell_rowC hZ 3).trans rfl
      clear HTq HTp HXe hwx wc hZ hY hbx hb12x hW c0 c1 c2 c3 d0 d1 d2 d3 x0 x1 x2 x3 z0 z1 z2 z3 t1 t2 t3 t4 t5 t6 t7 t8 hta htb him2 hiq2
      go_wp2
      go_loopw [26, 27] (fun f q wr2 => ∃ j : Nat, j ≤ C ∧ q = .int .i64 j ∧ f = .bool ((ts2.take j).any (fun x => eqT x X)) ∧ Below wx.heap.size wx wr2) (fun _ q _ => C - (intOf q).toNat)
      case atStart => exact ⟨0, Nat.zero_le _, rfl, by simp, Below.refl _ _⟩
      case round =>
        obtain ⟨j, hj, rfl, rfl, hbj⟩ := hrel
        obtain ⟨f, hf⟩ : ∃ f, f = (ts2.take j).any (fun x => eqT x X) := ⟨_, rfl⟩
        rw [← hf]
        have HFd := Lib.hid hf
        have HBj := Lib.hid hbj
        clear hf
        by_cases hltj : j < C
        · have hdj : decide ((j : Int) < (C : Int)) = true := decide_eq_true (by omega)
          have hjj : (j : Int) < (C : Int) := by omega
          have hjt : j < ts2.length := by rw [← HCl.out]; exact hltj
          have hnext : (ts2.take (j + 1)).any (fun x => eqT x X) = (f || eqT ts2[j] X) := by
            rw [List.take_succ_eq_append_getElem hjt, List.any_append, ← HFd.out]; simp
          have HNx := Lib.hid hnext
          obtain ⟨gc, p, rfl, htc, a0, a1, a2, a3⟩ := forG_get HFc.out hltj hjt
          have hb12j : Below w12.heap.size w12 wr := HBx.out.trans (hbj.mono HBx.out.size)
          have o0 := fun x : Later wr => x.get (cell_kept' hb12j a0)
          have o1 := fun x : Later wr => x.get (cell_kept' hb12j a1)
          have o2 := fun x : Later wr => x.get (cell_kept' hb12j a2)
          have o3 := fun x : Later wr => x.get (cell_kept' hb12j a3)
          have n0 := fun x : Later wr => x.get (cell_kept' hbj m0)
          have n1 := fun x : Later wr => x.get (cell_kept' hbj m1)
          have n2 := fun x : Later wr => x.get (cell_kept' hbj m2)
          have n3 := fun x : Later wr => x.get (cell_kept' hbj m3)
          obtain ⟨R, hR⟩ : ∃ R, R = eqT ts2[j] X := ⟨_, rfl⟩
          have hCs : ∀ x : Later wr, Calls Tryz.prog 18 #[p.val, .agg #[.int .u8 rr, .int .i64 0, .string ⟨#[]⟩, .slice (some ⟨Y, 0, none⟩) 2 2]] x.w fun e w' => e = .returned (.bool R) ∧ Below x.w.heap.size x.w w' := fun x => by
            rw [hR]
            have hx12 : Below w12.heap.size w12 x.w := hb12j.trans (x.below.mono hb12j.size)
            have hxx : Below wx.heap.size wx x.w := hbj.trans (x.below.mono hbj.size)
            exact Same34_any ts2[j] (HSlim.out j hjt) X x.w p.val _ (htc.move (fun b _ h => ⟨trivial, by obtain ⟨_, _, h⟩ := h; exact hx12.block b (cell_lt h)⟩)) (HWt.out.move (fun b _ h => ⟨trivial, by obtain ⟨_, _, h⟩ := h; exact hxx.block b (cell_lt h)⟩))
          have HCs := Lib.hid hCs
          have HR := Lib.hid hR
          unfold TV.val at HCs
          clear hbj hnext htc a0 a1 a2 a3 hb12j hCs hR
          cases f
          · go_wp2
            refine wp_region_later (by kernel_rfl) (by kernel_rfl) ?_
            repeat (go_big_quiet_step ((go_at_call 18; exact later_call (HCs.out _))))
            refine wpQuiet_nil ?_
            rintro _ ⟨x, rfl⟩
            have HBy := Lib.hid (HBj.out.trans (x.below.mono HBj.out.size))
            go_wp2
            go_roundw
            case rel => exact ⟨j + 1, by omega, by go_num, by rw [HNx.out, ← HR.out]; simp, HBy.out⟩
            case measure => simp [intOf]; omega
          · go_wp2
            refine wp_region_later (by kernel_rfl) (by kernel_rfl) ?_
            repeat (go_big_quiet_step (fail))
            refine wpQuiet_nil ?_
            rintro _ ⟨x, rfl⟩
            have HBy := Lib.hid (HBj.out.trans (x.below.mono HBj.out.size))
            go_wp2
            go_roundw
            case rel => exact ⟨j + 1, by omega, by go_num, by rw [HNx.out]; simp, HBy.out⟩
            case measure => simp [intOf]; omega
        · have hdj : decide ((j : Int) < (C : Int)) = false := decide_eq_false (by omega)
          obtain rfl : j = C := by omega
          have hft : f = true := by
            rw [HFd.out, HCl.out, List.take_length, List.any_eq_true]
            exact ⟨X, HXin.out, eqT_refl X⟩
          subst hft
          have HBe := Lib.hid (HBx.out.trans (HBj.out.mono HBx.out.size))
          clear hbj
          go_wp2
          go_roundw
          case rel => exact ⟨i + 1, by omega, by go_num, HBe.out⟩
          case measure => simp [intOf]; omega
    · have hd : decide ((i : Int) < (mn : Int)) = false := decide_eq_false (by omega)
      obtain rfl : i = mn := by omega
      have HBe := Lib.hid (HB12.out.trans (hbr.mono HB12.out.size))
      clear hbr
      go_wp2
      go_ret
      exact ⟨rfl, HBe.out⟩
end Go.Proofs.YthmnffgjckpkiaaGreatDoor
