/-
  The walk of 'WordsFound'.
-/
import Derived.Test.YtakpkaklcjgdkaaDoorSmall
import Derived.Test.YtakpkaklcjgdkaaDoorThirdLaw
namespace Go.Proofs.YtakpkaklcjgdkaaDoor
open Go Go.RowKit

theorem thoseTo_more (p : Ent → Bool) (l : List Ent) (n j : Nat) : thoseTo p l n <+: thoseTo p l (n + j) := by
  unfold thoseTo
  rw [List.range_add, List.filter_append]
  exact List.prefix_append _ _
theorem those_index {p : Ent → Bool} {l : List Ent} {n : Nat} (h : n < l.length) (hp : p l[n] = true) :
    (thoseTo p l n).length < (thoseS p l).length ∧ (thoseS p l)[(thoseTo p l n).length]? = some n := by
  obtain ⟨r, hr⟩ := thoseTo_more p l (n + 1) (l.length - (n + 1))
  rw [show n + 1 + (l.length - (n + 1)) = l.length by omega, thoseTo_yes h hp] at hr
  have e : thoseS p l = thoseTo p l n ++ n :: r := by unfold thoseS; rw [← hr]; simp
  rw [e]
  exact ⟨by simp, by simp⟩
theorem look_index {tok : List UInt8} {l : List Ent} {n : Nat} (h : n < l.length) (hp : formS tok l[n] = true) :
    (thoseTo (formS tok) l n).length < (lookS tok l).length ∧ (lookS tok l)[(thoseTo (formS tok) l n).length]? = some (n, l[n].w != tok) := by
  obtain ⟨h1, h2⟩ := those_index (p := formS tok) h hp
  refine ⟨by simpa [lookS] using h1, ?_⟩
  rw [lookS, List.getElem?_map, h2, Option.map_some, formAt_eq tok h]
theorem valid_right {l : List Ent} (h : validS l = true) {n : Nat} (hn : n < l.length) : rightS l[n] = true := by
  simp only [validS, Bool.and_eq_true] at h
  have := List.all_eq_true.1 h.2 n (by simpa using hn)
  rw [stepS_eq hn] at this
  simp only [Bool.and_eq_true] at this
  exact this.1
theorem right_verb {e : Ent} (h : rightS e = true) (hv : e.cat = 4 ∨ e.cat = 5) : plainS e.w = true := by
  unfold rightS at h
  rw [if_neg (by omega), if_pos (by omega)] at h
  simp only [Bool.and_eq_true] at h
  exact h.1
theorem third_other {l : List UInt8} (h : plainS l = true) : thirdE l = 0 ∧ thirdV l ≠ l := by
  refine ⟨by simp [thirdE, h], ?_⟩
  have hne : l ≠ [] := by
    rintro rfl; revert h; decide
  have := (third_len l hne).1
  have e : thirdV l = thirdS l := by simp [thirdV, h]
  rw [e]
  intro e'
  rw [e'] at this
  omega

theorem tok_bne (e : Ent) (tok : ByteArray) : (e.w != tok.data.toList) = !(tok.toList == e.word.toList) := by
  have h : ∀ a b : List UInt8, (a != b) = !(b == a) := fun a b => by rw [bne, Bool.beq_comm]
  rw [h, ByteArray.toList_eq, ByteArray.toList_eq]; rfl

/-- One entry in the loop of 'WordsFound': what was found is counted. -/
def FoundI (tok : List UInt8) (l : List Ent) (W : World) (k i : Value) (w : World) : Prop :=
  ∃ n : Nat, n ≤ l.length ∧ i = .int .i64 n ∧ k = .int .i64 (thoseTo (formS tok) l n).length ∧ Below W.heap.size W w

set_option maxRecDepth 100000 in
set_option maxHeartbeats 8000000 in
theorem WordsFound_any (W0 w : World) (ht : Tabs W0 w) (v : Value) (l : List Ent) (hl : EntSlice w v l) (tok : ByteArray) (htok : tok.size ≤ 9223372036854775807) :
    Calls Tryd.prog 4 #[v, .string tok] w fun e w' => e = .returned (.bool true) ∧ Below w.heap.size w w' := by
  have HA := Lib.hid (awake_any W0 w ht)
  have HL := Lib.hid hl
  cases hsm : smallL l
  · have HS := Lib.hid hsm
    clear hsm
    go_enter Tryd.func4, Tryd.ntmps4
    go_wp2_with fail
    refine HA.out.mono ?_
    rintro e w1 ⟨rfl, hb1⟩
    go_wp2_with fail
    refine (HS.out ▸ Small_any _ v l (HL.out.below hb1)).mono ?_
    rintro e w2 ⟨rfl, rfl⟩
    go_wp2
    go_ret
    exact ⟨rfl, hb1⟩
  have HS := Lib.hid hsm
  by_cases h40 : tok.size ≤ 40
  case neg =>
    clear hsm
    go_enter Tryd.func4, Tryd.ntmps4
    go_wp2_with fail
    refine HA.out.mono ?_
    rintro e w1 ⟨rfl, hb1⟩
    go_wp2_with fail
    refine (HS.out ▸ Small_any _ v l (HL.out.below hb1)).mono ?_
    rintro e w2 ⟨rfl, rfl⟩
    go_wp2
    go_ret
    exact ⟨rfl, hb1⟩
  cases hv : validS l
  · have HV := Lib.hid hv
    clear hsm hv
    go_enter Tryd.func4, Tryd.ntmps4
    go_wp2_with fail
    refine HA.out.mono ?_
    rintro e w1 ⟨rfl, hb1⟩
    go_wp2_with fail
    refine (HS.out ▸ Small_any _ v l (HL.out.below hb1)).mono ?_
    rintro e w2 ⟨rfl, rfl⟩
    go_wp2_with fail
    refine (Look_no W0 _ (ht.next hb1) v l (HL.out.below hb1) tok HV.out).mono ?_
    rintro e w2 ⟨rfl, hb2⟩
    have hq2 := hb1.trans (hb2.mono hb1.size)
    go_wp2_with fail
    refine (HV.out ▸ Valid_any W0 _ (ht.next hq2) v l (HL.out.below hq2)).mono ?_
    rintro e w3 ⟨rfl, hb3⟩
    go_wp2
    go_ret
    exact ⟨rfl, hq2.trans (hb3.mono hq2.size)⟩
  have HV := Lib.hid hv
  clear hsm hv
  go_enter Tryd.func4, Tryd.ntmps4
  go_wp2_with fail
  refine HA.out.mono ?_
  rintro e w1 ⟨rfl, hb1⟩
  go_wp2_with fail
  refine (HS.out ▸ Small_any _ v l (HL.out.below hb1)).mono ?_
  rintro e w2 ⟨rfl, rfl⟩
  go_wp2_with fail
  refine (Look_yes W0 _ (ht.next hb1) v l (HL.out.below hb1) tok HV.out).mono ?_
  rintro e w2 ⟨vf, rfl, hvf, hb2⟩
  have hq2 := hb1.trans (hb2.mono hb1.size)
  go_wp2_with fail
  refine (HV.out ▸ Valid_any W0 _ (ht.next hq2) v l (HL.out.below hq2)).mono ?_
  rintro e w3 ⟨rfl, hb3⟩
  have hq3 := hq2.trans (hb3.mono hq2.size)
  have hvf3 := hvf.below hb3
  have hl3 := HL.out.below hq3
  obtain ⟨af, capf, rfl, hcf⟩ := hvf3
  obtain ⟨⟨a, cap, rfl, hcap, hcm, hform⟩, hok⟩ := hl3
  have h100 : l.length ≤ 100 := by have := HV.out; simp [validS] at this; exact this.1
  have HF := Lib.hid hcf
  have HFo := Lib.hid hform
  have HOk := Lib.hid hok
  have ht3 := ht.next hq3
  clear hcf hform hok hvf hb1 hb2 hb3 hq2 hl HL HA
  obtain ⟨N, hN⟩ : ∃ N, N = (lookS tok.data.toList l).length := ⟨_, rfl⟩
  rw [← hN]
  have HN := Lib.hid hN
  clear hN
  go_wp2
  go_loopw [7, 8] (FoundI tok.data.toList l w3) (fun _ i _ => l.length - (intOf i).toNat)
  case atStart => exact ⟨0, Nat.zero_le _, rfl, rfl, Below.refl _ _⟩
  case round =>
    obtain ⟨n, hn, rfl, rfl, hb⟩ := hrel
    have hsz := hb.size
    by_cases hlt : n < l.length
    · rcases HFo.out with h0 | ⟨b, off, rfl, hbl, hc⟩
      · rw [h0] at hlt; exact absurd hlt (by simp)
      · obtain ⟨c0, c1, _⟩ := hc n hlt
        have d0 := cell_kept' hb c0
        have d1 := cell_kept' hb c1
        have hrt := valid_right HV.out hlt
        have hke := HOk.out _ (List.getElem_mem hlt)
        have hlook := look_index (tok := tok.data.toList) (l := l) (n := n) hlt
        have hyes := thoseTo_yes (p := formS tok.data.toList) hlt
        have hno := thoseTo_no (p := formS tok.data.toList) hlt
        obtain ⟨e, he⟩ : ∃ e, e = l[n] := ⟨_, rfl⟩
        rw [← he] at d0 d1 hrt hke hlook hyes hno c0 c1
        obtain ⟨m, hm⟩ : ∃ m, m = (thoseTo (formS tok.data.toList) l n).length := ⟨_, rfl⟩
        rw [← hm] at hlook ⊢
        have hmm : m ≤ 100 := by rw [hm]; have := thoseTo_len (formS tok.data.toList) l n; omega
        have HM := Lib.hid hm
        have HY := Lib.hid hyes
        have HNo := Lib.hid hno
        have HLk := Lib.hid hlook
        have hwz : e.word.size ≤ 9223372036854775807 := by have := hke.1; unfold maxLen at this; omega
        have hT := Third_any W0 wr (ht3.next hb) e.word hwz
        obtain ⟨x, hx⟩ : ∃ x : ByteArray, x = ⟨(thirdV e.word.data.toList).toArray⟩ := ⟨_, rfl⟩
        have hxl : x.toList = thirdV e.w := by rw [hx, bytes_list]; rfl
        rw [← hx] at hT
        have hwl : e.word.toList = e.w := ByteArray.toList_eq _
        have htl : tok.toList = tok.data.toList := ByteArray.toList_eq _
        clear he hc hm hyes hno hlook hx c0 c1
        by_cases hverb : e.cat = 4 ∨ e.cat = 5
        · obtain ⟨t1, t2⟩ := third_other (right_verb hrt hverb)
          have hxw : (x.toList == e.word.toList) = false := by rw [hxl, hwl]; simpa using t2
          have t1' : thirdE e.word.data.toList = 0 := t1
          rw [t1'] at hT
          have HT := Lib.hid hT
          have hverbB : (e.cat == 4 || e.cat == 5) = true := by simpa using hverb
          have hfs : formS tok.data.toList e = ((e.word.toList == tok.toList) || (x.toList == tok.toList)) := by
            simp only [formS, isThird, hwl, htl, hxl, t1, hverbB]; simp
          have HFs := Lib.hid hfs
          have HXw := Lib.hid hxw
          clear hT t1 t2 t1' hfs hxl hrt hwl htl hverbB
          have hc4 : (e.cat == 4) = true ∨ ((e.cat == 4) = false ∧ (e.cat == 5) = true) := by
            rcases hverb with h | h
            · exact .inl (by simpa using h)
            · exact .inr ⟨by simp; omega, by simpa using h⟩
          clear hverb
          cases hE : (tok.toList == e.word.toList)
          · cases hX : (tok.toList == x.toList)
            · have hfalse : formS tok.data.toList e = false := by rw [HFs.out, Bool.beq_comm, hE, Bool.beq_comm, hX]; rfl
              have HFa := Lib.hid hfalse
              clear hfalse
              rcases hc4 with hc4 | ⟨hc4, hc5⟩
              all_goals
                go_wp2_with (go_at_call 19; refine HT.out.mono ?_; rintro e' w4 ⟨rfl, hb4⟩; have d2 := cell_kept' hb4 d0)
                go_roundw
                case rel => exact ⟨n + 1, by omega, by go_num, by rw [HNo.out HFa.out, HM.out], hb.trans (hb4.mono hsz)⟩
                case measure => simp [intOf]; omega
            · have htrue : formS tok.data.toList e = true := by rw [HFs.out, Bool.beq_comm, hE, Bool.beq_comm, hX]; rfl
              have HTr := Lib.hid htrue
              obtain ⟨hmN, hmi⟩ := HLk.out htrue
              have hbn : (e.w != tok.data.toList) = true := by rw [tok_bne, hE]; rfl
              rw [hbn] at hmi
              rw [← HN.out] at hmN
              rcases HF.out with hf0 | ⟨g, rfl, hcg⟩
              · exact absurd hmN (by rw [HN.out, hf0]; simp)
              · have hgm := hcg m (by rw [← HN.out]; exact hmN)
                rw [(List.getElem?_eq_some_iff.1 hmi).2] at hgm
                obtain ⟨g0, g1⟩ := hgm
                have g0 := cell_kept' hb g0
                have g1 := cell_kept' hb g1
                clear htrue hmi hbn hcg
                have e1 : ((m : Int) == (N : Int)) = false := by simp; omega
                have e2 : (m : Int) < (N : Int) := by omega
                have e3 : (0 : Int) ≤ (m : Int) := by omega
                have e4 : (n : Int) < (l.length : Int) := by omega
                have e5 : (0 : Int) ≤ (n : Int) := by omega
                rcases hc4 with hc4 | ⟨hc4, hc5⟩
                all_goals
                  go_wp2_with (go_at_call 19; refine HT.out.mono ?_; rintro e' w4 ⟨rfl, hb4⟩; have d2 := cell_kept' hb4 d0; have k0 := cell_kept' hb4 g0; have k1 := cell_kept' hb4 g1; clear d0 g0 g1)
                  have f0 := fun y : Later w4 => y.get d2
                  have f1 := fun y : Later w4 => y.get k0
                  have f2 := fun y : Later w4 => y.get k1
                  refine wp_region_later (by kernel_rfl) (by kernel_rfl) ?_
                  repeat (go_big_quiet_step (fail))
                  refine wpQuiet_nil ?_
                  rintro _ ⟨y, rfl⟩
                  clear f0 f1 f2 d2 k0 k1
                  go_wp2
                  go_roundw
                  case rel => exact ⟨n + 1, by omega, by go_num, by rw [HY.out HTr.out, List.length_append, ← HM.out]; go_num, (hb.trans (hb4.mono hsz)).trans (y.below.mono (by have := hb4.size; omega))⟩
                  case measure => simp [intOf]; omega
          · have htrue : formS tok.data.toList e = true := by rw [HFs.out, Bool.beq_comm, hE]; rfl
            have HTr := Lib.hid htrue
            obtain ⟨hmN, hmi⟩ := HLk.out htrue
            have hbn : (e.w != tok.data.toList) = false := by rw [tok_bne, hE]; rfl
            rw [hbn] at hmi
            rw [← HN.out] at hmN
            rcases HF.out with hf0 | ⟨g, rfl, hcg⟩
            · exact absurd hmN (by rw [HN.out, hf0]; simp)
            · have hgm := hcg m (by rw [← HN.out]; exact hmN)
              rw [(List.getElem?_eq_some_iff.1 hmi).2] at hgm
              obtain ⟨g0, g1⟩ := hgm
              have g0 := cell_kept' hb g0
              have g1 := cell_kept' hb g1
              clear htrue hmi hbn hcg
              have e1 : ((m : Int) == (N : Int)) = false := by simp; omega
              have e2 : (m : Int) < (N : Int) := by omega
              have e3 : (0 : Int) ≤ (m : Int) := by omega
              have e4 : (n : Int) < (l.length : Int) := by omega
              have e5 : (0 : Int) ≤ (n : Int) := by omega
              rcases hc4 with hc4 | ⟨hc4, hc5⟩
              all_goals
                go_wp2_with (go_at_call 19; refine HT.out.mono ?_; rintro e' w4 ⟨rfl, hb4⟩; have d2 := cell_kept' hb4 d0; have k0 := cell_kept' hb4 g0; have k1 := cell_kept' hb4 g1; clear d0 g0 g1)
                have f0 := fun y : Later w4 => y.get d2
                have f1 := fun y : Later w4 => y.get k0
                have f2 := fun y : Later w4 => y.get k1
                refine wp_region_later (by kernel_rfl) (by kernel_rfl) ?_
                repeat (go_big_quiet_step (fail))
                refine wpQuiet_nil ?_
                rintro _ ⟨y, rfl⟩
                clear f0 f1 f2 d2 k0 k1
                go_wp2
                go_roundw
                case rel => exact ⟨n + 1, by omega, by go_num, by rw [HY.out HTr.out, List.length_append, ← HM.out]; go_num, (hb.trans (hb4.mono hsz)).trans (y.below.mono (by have := hb4.size; omega))⟩
                case measure => simp [intOf]; omega
        · have hc4 : (e.cat == 4) = false := by simp; omega
          have hc5 : (e.cat == 5) = false := by simp; omega
          obtain ⟨z, hz⟩ : ∃ z, z = thirdE e.word.data.toList := ⟨_, rfl⟩
          rw [← hz] at hT
          have HT := Lib.hid hT
          have hfs : formS tok.data.toList e = (e.word.toList == tok.toList) := by
            simp only [formS, isThird, hwl, htl, hc4, hc5]; simp
          have HFs := Lib.hid hfs
          clear hT hz hfs hxl hrt hwl htl hverb
          cases hE : (tok.toList == e.word.toList)
          · have hfalse : formS tok.data.toList e = false := by rw [HFs.out, Bool.beq_comm, hE]
            have HFa := Lib.hid hfalse
            clear hfalse
            go_wp2_with (go_at_call 19; refine HT.out.mono ?_; rintro e' w4 ⟨rfl, hb4⟩; have d2 := cell_kept' hb4 d0)
            go_roundw
            case rel => exact ⟨n + 1, by omega, by go_num, by rw [HNo.out HFa.out, HM.out], hb.trans (hb4.mono hsz)⟩
            case measure => simp [intOf]; omega
          · have htrue : formS tok.data.toList e = true := by rw [HFs.out, Bool.beq_comm, hE]
            have HTr := Lib.hid htrue
            obtain ⟨hmN, hmi⟩ := HLk.out htrue
            have hbn : (e.w != tok.data.toList) = false := by rw [tok_bne, hE]; rfl
            rw [hbn] at hmi
            rw [← HN.out] at hmN
            rcases HF.out with hf0 | ⟨g, rfl, hcg⟩
            · exact absurd hmN (by rw [HN.out, hf0]; simp)
            · have hgm := hcg m (by rw [← HN.out]; exact hmN)
              rw [(List.getElem?_eq_some_iff.1 hmi).2] at hgm
              obtain ⟨g0, g1⟩ := hgm
              have g0 := cell_kept' hb g0
              have g1 := cell_kept' hb g1
              clear htrue hmi hbn hcg
              have e1 : ((m : Int) == (N : Int)) = false := by simp; omega
              have e2 : (m : Int) < (N : Int) := by omega
              have e3 : (0 : Int) ≤ (m : Int) := by omega
              have e4 : (n : Int) < (l.length : Int) := by omega
              have e5 : (0 : Int) ≤ (n : Int) := by omega
              go_wp2_with (go_at_call 19; refine HT.out.mono ?_; rintro e' w4 ⟨rfl, hb4⟩; have d2 := cell_kept' hb4 d0; have k0 := cell_kept' hb4 g0; have k1 := cell_kept' hb4 g1; clear d0 g0 g1)
              have f0 := fun y : Later w4 => y.get d2
              have f1 := fun y : Later w4 => y.get k0
              have f2 := fun y : Later w4 => y.get k1
              refine wp_region_later (by kernel_rfl) (by kernel_rfl) ?_
              repeat (go_big_quiet_step (fail))
              refine wpQuiet_nil ?_
              rintro _ ⟨y, rfl⟩
              clear f0 f1 f2 d2 k0 k1
              go_wp2
              go_roundw
              case rel => exact ⟨n + 1, by omega, by go_num, by rw [HY.out HTr.out, List.length_append, ← HM.out]; go_num, (hb.trans (hb4.mono hsz)).trans (y.below.mono (by have := hb4.size; omega))⟩
              case measure => simp [intOf]; omega
    · obtain rfl : n = l.length := by omega
      have hNe : (thoseTo (formS tok.data.toList) l l.length).length = N := by rw [HN.out]; simp [lookS, thoseS]
      rw [hNe]
      clear hNe
      go_wp2
      go_ret
      exact ⟨ret_bool (by simp), hq3.trans (hb.mono hq3.size)⟩
end Go.Proofs.YtakpkaklcjgdkaaDoor
