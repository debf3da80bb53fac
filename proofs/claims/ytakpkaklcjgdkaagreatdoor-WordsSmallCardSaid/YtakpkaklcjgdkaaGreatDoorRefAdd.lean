/-
  Contract of the reference's 'Add'.
-/
import Derived.Test.YtakpkaklcjgdkaaGreatDoorRefValid
import Derived.Test.YtakpkaklcjgdkaaGreatDoorGiven
namespace Go.Proofs.YtakpkaklcjgdkaaGreatDoor
open Go Go.RowKit

theorem addTo_len (l : List Ent) (e : Ent) (k : Nat) : (addTo l e k).length ≤ k + 1 := by
  unfold addTo putAt
  split
  · simp; omega
  · simp; omega
theorem addTo_len1 (l : List Ent) (e : Ent) (k : Nat) : (addTo l e k ++ [e]).length ≤ k + 2 := by
  have := addTo_len l e k
  rw [List.length_append, List.length_singleton]; omega
theorem ownsR_app {w : World} {base : Nat} {v : Value} {p q : List Ent} {n : Nat} {xs : List Value} (hn : n = p.length + q.length) (hx : xs = p.flatMap entCells ++ q.flatMap entCells) (h : w.ownsRow base 57 3 v n xs) : OwnEntsR w base v (p ++ q) := by
  unfold OwnEntsR
  rw [List.length_append, List.flatMap_append, ← hn, ← hx]
  exact h

theorem ret_b {a b : Bool} (h : a = b) : Value.bool a = Value.bool b := by rw [h]

set_option maxRecDepth 100000 in
set_option maxHeartbeats 16000000 in
theorem rAdd_any (w : World) (v : Value) (l : List Ent) (hl : EntSlice w v l) (hn : l.length ≤ 1000000) (e : Ent) (he : e.ok) :
    Calls Tryz.prog 30 #[v, .agg #[.string e.word, .int .u8 e.cat, .string e.sym]] w fun r w' => ∃ v', r = .returned (.tuple #[v', .int .i64 (addS l e).2]) ∧ OwnEntsR w' w.heap.size v' (addS l e).1 ∧ Below w.heap.size w w' := by
  obtain ⟨i0, hi, hz0, hz1, hz2⟩ := info_parts info_entR
  have HL := Lib.hid hl
  have HE := Lib.hid he
  clear hl he
  have hBb : Below w.heap.size w (w.alloc (.cells #[.string e.word, .int .u8 e.cat, .string e.sym] 57)) := (Below.refl _ _).alloc (Nat.le_refl _) _
  have d0 : (w.alloc (.cells #[.string e.word, .int .u8 e.cat, .string e.sym] 57)).cell? ⟨w.heap.size, 0, none⟩ = some (.string e.word) := by simp
  have d1 : (w.alloc (.cells #[.string e.word, .int .u8 e.cat, .string e.sym] 57)).cell? ⟨w.heap.size, 1, none⟩ = some (.int .u8 e.cat) := by simp
  have d2 : (w.alloc (.cells #[.string e.word, .int .u8 e.cat, .string e.sym] 57)).cell? ⟨w.heap.size, 2, none⟩ = some (.string e.sym) := by simp
  go_enter Tryz.func30, Tryz.ntmps30
  go_wp2_with fail
  refine (rValid_any _ v l (HL.out.below hBb)).mono ?_
  rintro r w1 ⟨rfl, hb1⟩
  have hx1 := hBb.trans (hb1.mono hBb.size)
  have q0 := cell_kept' hb1 d0
  have q1 := cell_kept' hb1 d1
  have q2 := cell_kept' hb1 d2
  clear d0 d1 d2 hb1
  obtain ⟨b1, hb1e⟩ : ∃ b, b = validS l := ⟨_, rfl⟩
  rw [← hb1e]
  have HB1 := Lib.hid hb1e
  clear hb1e
  cases b1
  · go_wp2
    go_ret2
    rw [addS_bad (by rw [← HB1.out]; rfl)]
    exact ⟨_, rfl, World.ownsRow_nil _ _ _ _, hx1⟩
  go_wp2_with fail
  refine (rRight_any _ e HE.out).mono ?_
  rintro r w2 ⟨rfl, hb2⟩
  have hx2 := hx1.trans (hb2.mono hx1.size)
  have q0 := cell_kept' hb2 q0
  have q1 := cell_kept' hb2 q1
  have q2 := cell_kept' hb2 q2
  obtain ⟨b2, hb2e⟩ : ∃ b, b = rightS e := ⟨_, rfl⟩
  rw [← hb2e]
  have HB2 := Lib.hid hb2e
  clear hb2e hb2
  cases b2
  · go_wp2
    go_ret2
    rw [addS_bad (by rw [← HB2.out, Bool.and_false])]
    exact ⟨_, rfl, World.ownsRow_nil _ _ _ _, hx2⟩
  have HVR : Hid ((validS l && rightS e) = true) := Lib.hid (by rw [← HB1.out, ← HB2.out]; rfl)
  have hsort := ((valid_iff l).1 HB1.out.symm).2.2.1
  have HSo := Lib.hid hsort
  have HL2 := Lib.hid (HL.out.below hx2)
  obtain ⟨⟨a, cap, rfl, hcap, hcm, hform⟩, _⟩ := HL2.out
  have HFo := Lib.hid hform
  clear hform hsort
  obtain ⟨n, hnA⟩ : ∃ n, n = nAhead l e := ⟨_, rfl⟩
  have HN := Lib.hid hnA
  clear hnA
  go_wp2
  go_loopw [6, 7, 8] (fun o p i wr => ∃ k : Nat, k ≤ l.length ∧ i = .int .i64 k ∧ OwnEntsR wr w2.heap.size o (addTo l e k) ∧ p = .bool (decide (n < k)) ∧ (∀ j (h : j < l.length), j < k → ¬ (l[j].w = e.w ∧ l[j].cat = e.cat)) ∧ Below w2.heap.size w2 wr) (fun _ _ i _ => l.length - (intOf i).toNat)
  case atStart => exact ⟨0, Nat.zero_le _, rfl, World.ownsRow_nil _ _ _ _, rfl, fun j h hj => by omega, Below.refl _ _⟩
  case round =>
    obtain ⟨k, hk, rfl, hown, rfl, hno, hb⟩ := hrel
    have HO := Lib.hid hown
    have HNo := Lib.hid hno
    clear hown hno
    by_cases hlt : k < l.length
    · rcases HFo.out with h0 | ⟨b, off, rfl, hbl, hc⟩
      · rw [h0] at hlt; exact absurd hlt (by simp)
      obtain ⟨c0, c1, c2⟩ := hc k hlt
      have HTw := Lib.hid (fun h => addS_twice HVR.out hlt h)
      have HMo := Lib.hid (fun h => addTo_more (e := e) hlt h)
      have HPu := Lib.hid (fun h => addTo_put (e := e) hlt h)
      have HAh := Lib.hid (fun h => ahead_at (e := e) HSo.out hlt h)
      have HNo2 : Hid (∀ h : ¬ (l[k].w = e.w ∧ l[k].cat = e.cat), (∀ j (h : j < l.length), j < k + 1 → ¬ (l[j].w = e.w ∧ l[j].cat = e.cat))) := Lib.hid (fun h j hj hjk => by
        rcases Nat.lt_succ_iff_lt_or_eq.1 hjk with h' | rfl
        · exact HNo.out j hj h'
        · exact h)
      obtain ⟨o, ho⟩ : ∃ o, o = l[k] := ⟨_, rfl⟩
      rw [← ho] at c0 c1 c2 HTw HMo HPu HAh HNo2
      have HCo := Lib.hid (And.intro c0 (And.intro c1 c2))
      have c0 := cell_kept' hb c0
      have c1 := cell_kept' hb c1
      have c2 := cell_kept' hb c2
      have p0 := cell_kept' hb q0
      have p1 := cell_kept' hb q1
      have p2 := cell_kept' hb q2
      have f0 := fun x : Later wr => x.get c0
      have f1 := fun x : Later wr => x.get c1
      have f2 := fun x : Later wr => x.get p0
      have f3 := fun x : Later wr => x.get p1
      have e3 : (k : Int) < (l.length : Int) := by omega
      have e5 : (0 : Int) ≤ k := by omega
      have hwd : (o.w = e.w) ↔ o.word.toList = e.word.toList := by unfold Ent.w; rw [ByteArray.toList_eq, ByteArray.toList_eq]
      have HWd := Lib.hid hwd
      clear ho hc hwd
      have hcases : (o.word.toList = e.word.toList ∧ o.cat = e.cat) ∨ (o.word.toList = e.word.toList ∧ (o.cat == e.cat) = false) ∨ (o.word.toList == e.word.toList) = false := by
        by_cases hw : o.word.toList = e.word.toList
        · by_cases hca : o.cat = e.cat
          · exact .inl ⟨hw, hca⟩
          · exact .inr (.inl ⟨hw, beq_eq_false_iff_ne.2 hca⟩)
        · exact .inr (.inr (beq_eq_false_iff_ne.2 hw))
      rcases hcases with ⟨hw, hca⟩ | hcases
      · have HQ := Lib.hid (And.intro (HWd.out.2 hw) hca)
        go_wp2
        refine wp_region_later (by kernel_rfl) (by kernel_rfl) ?_
        repeat (go_big_quiet_step (fail))
        refine wpQuiet_nil ?_
        rintro _ ⟨x, rfl⟩
        go_wp2
        go_ret2
        rw [HTw.out HQ.out]
        exact ⟨_, rfl, World.ownsRow_nil _ _ _ _, hx2.trans ((hb.trans (x.below.mono hb.size)).mono hx2.size)⟩
      have HQ : Hid (¬ (o.w = e.w ∧ o.cat = e.cat)) := Lib.hid (fun h => by
        rcases hcases with h' | h'
        · exact (beq_eq_false_iff_ne.1 h'.2) h.2
        · rw [beq_eq_false_iff_ne] at h'; exact h' (HWd.out.1 h.1))
      rcases hcases with ⟨hw1, hw2⟩ | hw1
      all_goals
        go_wp2
        refine wp_region_later (by kernel_rfl) (by kernel_rfl) ?_
        repeat (go_big_quiet_step (fail))
        refine wpQuiet_nil ?_
        rintro wy ⟨y, hy⟩
        have hby : Below wr.heap.size wr wy := hy ▸ y.below
        clear hy y f0 f1 f2 f3 hw1
        have c0 := cell_kept' hby c0
        have c1 := cell_kept' hby c1
        have c2 := cell_kept' hby c2
        have p0 := cell_kept' hby p0
        have p1 := cell_kept' hby p1
        have p2 := cell_kept' hby p2
        have f0 := fun x : Later wy => x.get c0
        have f1 := fun x : Later wy => x.get c1
        have f2 := fun x : Later wy => x.get c2
        have f3 := fun x : Later wy => x.get p0
        have f4 := fun x : Later wy => x.get p1
        have f5 := fun x : Later wy => x.get p2
        have CA := Lib.hid (fun x : Later wy => rahead_any x.w e o)
        have HOy := Lib.hid (ownsRow_below HO.out hby)
        have hbY := hb.trans (hby.mono hb.size)
        rcases Nat.lt_trichotomy n k with hnk | hnk | hnk
        · have hp : decide (n < k) = true := by simp [hnk]
          have HMo2 := Lib.hid (HMo.out (by rw [← HN.out]; omega))
          have HD := Lib.hid (show true = decide (n < k + 1) by simp; omega)
          clear hnk
          try clear hw2
          go_wp2
          refine wp_region_later (by kernel_rfl) (by kernel_rfl) ?_
          repeat (go_big_quiet_step (fail))
          refine wpQuiet_nil ?_
          rintro wz ⟨z, hz⟩
          have hbz : Below wy.heap.size wy wz := hz ▸ z.below
          clear hz z f0 f1 f2 f3 f4 f5
          have c0 := cell_kept' hbz c0
          have c1 := cell_kept' hbz c1
          have c2 := cell_kept' hbz c2
          have p0 := cell_kept' hbz p0
          have p1 := cell_kept' hbz p1
          have p2 := cell_kept' hbz p2
          have HOz := Lib.hid (ownsRow_below HOy.out hbz)
          have hbZ := hbY.trans (hbz.mono hbY.size)
          go_wp2_with (at_builtin; refine wpList_append_own _ rfl _ _ 51 rfl w2.heap.size 57 i0 _ 3 40 Tryz.underlying51 hi hz0 hz1 hz2 rfl (by decide) _ (addTo l e k).length ((addTo l e k).flatMap entCells) rfl (HOz.out.alloc _) ⟨wz.heap.size, 0, none⟩ 1 1 (entCells o) rfl rfl (news_at (heap_alloc_new _ _)) (ent_one _) (by have := addTo_len l e k; unfold maxLen; omega) (by have := addTo_len l e k; omega) (by have := hbZ.size; simp; omega) ?_)
          intro v' w9 hown9 hgrow _
          have hb9 : Below w2.heap.size w2 w9 := (hbZ.alloc hbZ.size _).grown hgrow (by have := hbZ.size; simp; omega) (fun k hk => (HOz.out.lt k hk).1)
          have HO9 := Lib.hid hown9
          clear hown9 hgrow
          go_wp2
          go_roundw
          case rel => exact ⟨k + 1, by omega, by go_num, by rw [HMo2.out]; exact ownsR_app (by simp) (by simp) HO9.out, ret_b HD.out, HNo2.out HQ.out, hb9⟩
          case measure => simp [intOf]; omega
        · have hp : decide (n < k) = false := by simp; omega
          have HPu2 := Lib.hid (HPu.out (by rw [← HN.out]; exact hnk))
          have HD := Lib.hid (show true = decide (n < k + 1) by simp; omega)
          have hah : aheadS e o = true := by rw [HAh.out HQ.out, ← HN.out]; simp; omega
          rw [hah] at CA
          clear hnk hah
          try clear hw2
          go_wp2
          refine wp_region_later (by kernel_rfl) (by kernel_rfl) ?_
          repeat (go_big_quiet_step (((go_at_call 68; exact later_call (CA.out _)))))
          refine wpQuiet_nil ?_
          rintro wz ⟨z, hz⟩
          have hbz : Below wy.heap.size wy wz := hz ▸ z.below
          clear hz z f0 f1 f2 f3 f4 f5
          have c0 := cell_kept' hbz c0
          have c1 := cell_kept' hbz c1
          have c2 := cell_kept' hbz c2
          have p0 := cell_kept' hbz p0
          have p1 := cell_kept' hbz p1
          have p2 := cell_kept' hbz p2
          have HOz := Lib.hid (ownsRow_below HOy.out hbz)
          have hbZ := hbY.trans (hbz.mono hbY.size)
          go_wp2_with (at_builtin; refine wpList_append_own _ rfl _ _ 51 rfl w2.heap.size 57 i0 _ 3 40 Tryz.underlying51 hi hz0 hz1 hz2 rfl (by decide) _ (addTo l e k).length ((addTo l e k).flatMap entCells) rfl (HOz.out.alloc _) ⟨wz.heap.size, 0, none⟩ 1 1 (entCells e) rfl rfl (news_at (heap_alloc_new _ _)) (ent_one _) (by have := addTo_len l e k; unfold maxLen; omega) (by have := addTo_len l e k; omega) (by have := hbZ.size; simp; omega) ?_)
          intro v' w9 hown9 hgrow _
          have hb9 : Below w2.heap.size w2 w9 := (hbZ.alloc hbZ.size _).grown hgrow (by have := hbZ.size; simp; omega) (fun k hk => (HOz.out.lt k hk).1)
          have HO9 : Hid (OwnEntsR w9 w2.heap.size v' (addTo l e k ++ [e])) := Lib.hid (ownsR_app (by simp) (by simp) hown9)
          clear hown9 hgrow p0 p1 p2 c0 c1 c2
          have c0 := cell_kept' hb9 HCo.out.1
          have c1 := cell_kept' hb9 HCo.out.2.1
          have c2 := cell_kept' hb9 HCo.out.2.2
          go_wp2_with (at_builtin; refine wpList_append_own _ rfl _ _ 51 rfl w2.heap.size 57 i0 _ 3 40 Tryz.underlying51 hi hz0 hz1 hz2 rfl (by decide) _ (addTo l e k ++ [e]).length ((addTo l e k ++ [e]).flatMap entCells) rfl (HO9.out.alloc _) ⟨w9.heap.size, 0, none⟩ 1 1 (entCells o) rfl rfl (news_at (heap_alloc_new _ _)) (ent_one _) (by have := addTo_len1 l e k; unfold maxLen; omega) (by have := addTo_len1 l e k; omega) (by have := hb9.size; simp; omega) ?_)
          intro v'' w10 hown10 hgrow _
          have hb10 : Below w2.heap.size w2 w10 := (hb9.alloc hb9.size _).grown hgrow (by have := hb9.size; simp; omega) (fun k hk => (HO9.out.lt k hk).1)
          have HO10 := Lib.hid hown10
          clear hown10 hgrow
          go_wp2
          go_roundw
          case rel => exact ⟨k + 1, by omega, by go_num, by rw [HPu2.out]; exact ownsR_app (by simp) (by simp) HO10.out, ret_b HD.out, HNo2.out HQ.out, hb10⟩
          case measure => simp [intOf]; omega
        · have hp : decide (n < k) = false := by simp; omega
          have HMo2 := Lib.hid (HMo.out (by rw [← HN.out]; omega))
          have HD := Lib.hid (show false = decide (n < k + 1) by simp; omega)
          have hah : aheadS e o = false := by rw [HAh.out HQ.out, ← HN.out]; simp; omega
          rw [hah] at CA
          clear hnk hah
          try clear hw2
          go_wp2
          refine wp_region_later (by kernel_rfl) (by kernel_rfl) ?_
          repeat (go_big_quiet_step (((go_at_call 68; exact later_call (CA.out _)))))
          refine wpQuiet_nil ?_
          rintro wz ⟨z, hz⟩
          have hbz : Below wy.heap.size wy wz := hz ▸ z.below
          clear hz z f0 f1 f2 f3 f4 f5
          have c0 := cell_kept' hbz c0
          have c1 := cell_kept' hbz c1
          have c2 := cell_kept' hbz c2
          have p0 := cell_kept' hbz p0
          have p1 := cell_kept' hbz p1
          have p2 := cell_kept' hbz p2
          have HOz := Lib.hid (ownsRow_below HOy.out hbz)
          have hbZ := hbY.trans (hbz.mono hbY.size)
          go_wp2_with (at_builtin; refine wpList_append_own _ rfl _ _ 51 rfl w2.heap.size 57 i0 _ 3 40 Tryz.underlying51 hi hz0 hz1 hz2 rfl (by decide) _ (addTo l e k).length ((addTo l e k).flatMap entCells) rfl (HOz.out.alloc _) ⟨wz.heap.size, 0, none⟩ 1 1 (entCells o) rfl rfl (news_at (heap_alloc_new _ _)) (ent_one _) (by have := addTo_len l e k; unfold maxLen; omega) (by have := addTo_len l e k; omega) (by have := hbZ.size; simp; omega) ?_)
          intro v' w9 hown9 hgrow _
          have hb9 : Below w2.heap.size w2 w9 := (hbZ.alloc hbZ.size _).grown hgrow (by have := hbZ.size; simp; omega) (fun k hk => (HOz.out.lt k hk).1)
          have HO9 := Lib.hid hown9
          clear hown9 hgrow
          go_wp2
          go_roundw
          case rel => exact ⟨k + 1, by omega, by go_num, by rw [HMo2.out]; exact ownsR_app (by simp) (by simp) HO9.out, ret_b HD.out, HNo2.out HQ.out, hb9⟩
          case measure => simp [intOf]; omega
    · obtain rfl : k = l.length := by omega
      have HR := Lib.hid (addS_rest HVR.out (fun j hj => HNo.out j hj hj))
      have HAl := Lib.hid (addTo_all l e)
      by_cases hnl : n < l.length
      · have hp : decide (n < l.length) = true := by simp [hnl]
        have HW : Hid (OwnEntsR wr w2.heap.size _ (putAt l (nAhead l e) e)) := Lib.hid (by rw [← HAl.out, if_pos (by rw [← HN.out]; exact hnl)]; exact HO.out)
        have p0 := cell_kept' hb q0
        have p1 := cell_kept' hb q1
        have p2 := cell_kept' hb q2
        have hxW := hx2.trans (hb.mono hx2.size)
        obtain ⟨cl, hcl⟩ : ∃ cl, cl = l.any (fun o => clashS o e) := ⟨_, rfl⟩
        rw [← hcl] at HR
        go_wp2_with fail
        refine (rclash_any _ _ l (HL.out.below hxW) e).mono ?_
        rintro r w11 ⟨rfl, hb11⟩
        rw [← hcl]
        have hx11 := hxW.trans (hb11.mono hxW.size)
        have HW11 := Lib.hid (ownsRow_below HW.out hb11)
        clear hcl
        cases cl
        · by_cases h100 : 100 ≤ l.length
          · have hl100 : l.length = 100 := by have := ((valid_iff l).1 HB1.out.symm).1; omega
            have HHl := Lib.hid hl100
            have hbq : ((l.length : Int) == 100) = true := by simp; omega
            have HRR := Lib.hid (by rw [HR.out]; simp [h100] : addS l e = ([], 5))
            clear hl100 h100
            go_wp2
            go_ret2
            rw [HRR.out]
            exact ⟨_, rfl, World.ownsRow_nil _ _ _ _, hx11⟩
          · have hbq : ((l.length : Int) == 100) = false := by simp; omega
            have HRR := Lib.hid (by rw [HR.out]; simp [h100] : addS l e = (putAt l (nAhead l e) e, 0))
            clear h100
            go_wp2
            go_ret2
            rw [HRR.out]
            exact ⟨_, rfl, owns_base HW11.out hx2.size, hx11⟩
        · have HRR := Lib.hid (by rw [HR.out]; simp : addS l e = ([], 331))
          go_wp2
          go_ret2
          rw [HRR.out]
          exact ⟨_, rfl, World.ownsRow_nil _ _ _ _, hx11⟩
      · have hp : decide (n < l.length) = false := by simp; omega
        have p0 := cell_kept' hb q0
        have p1 := cell_kept' hb q1
        have p2 := cell_kept' hb q2
        go_wp2_with (at_builtin; refine wpList_append_own _ rfl _ _ 51 rfl w2.heap.size 57 i0 _ 3 40 Tryz.underlying51 hi hz0 hz1 hz2 rfl (by decide) _ (addTo l e l.length).length ((addTo l e l.length).flatMap entCells) rfl (HO.out.alloc _) ⟨wr.heap.size, 0, none⟩ 1 1 (entCells e) rfl rfl (news_at (heap_alloc_new _ _)) (ent_one _) (by have := addTo_len l e l.length; unfold maxLen; omega) (by have := addTo_len l e l.length; omega) (by have := hb.size; simp; omega) ?_)
        intro v' w9 hown9 hgrow _
        have hb9 : Below w2.heap.size w2 w9 := (hb.alloc hb.size _).grown hgrow (by have := hb.size; simp; omega) (fun k hk => (HO.out.lt k hk).1)
        have HW : Hid (OwnEntsR w9 w2.heap.size v' (putAt l (nAhead l e) e)) := Lib.hid (by rw [← HAl.out, if_neg (by rw [← HN.out]; exact hnl)]; exact ownsR_app (by simp) (by simp) hown9)
        clear hown9 hgrow
        have p0 := cell_kept' hb9 q0
        have p1 := cell_kept' hb9 q1
        have p2 := cell_kept' hb9 q2
        have hxW := hx2.trans (hb9.mono hx2.size)
        obtain ⟨cl, hcl⟩ : ∃ cl, cl = l.any (fun o => clashS o e) := ⟨_, rfl⟩
        rw [← hcl] at HR
        go_wp2_with fail
        refine (rclash_any _ _ l (HL.out.below hxW) e).mono ?_
        rintro r w11 ⟨rfl, hb11⟩
        rw [← hcl]
        have hx11 := hxW.trans (hb11.mono hxW.size)
        have HW11 := Lib.hid (ownsRow_below HW.out hb11)
        clear hcl
        cases cl
        · by_cases h100 : 100 ≤ l.length
          · have hl100 : l.length = 100 := by have := ((valid_iff l).1 HB1.out.symm).1; omega
            have HHl := Lib.hid hl100
            have hbq : ((l.length : Int) == 100) = true := by simp; omega
            have HRR := Lib.hid (by rw [HR.out]; simp [h100] : addS l e = ([], 5))
            clear hl100 h100
            go_wp2
            go_ret2
            rw [HRR.out]
            exact ⟨_, rfl, World.ownsRow_nil _ _ _ _, hx11⟩
          · have hbq : ((l.length : Int) == 100) = false := by simp; omega
            have HRR := Lib.hid (by rw [HR.out]; simp [h100] : addS l e = (putAt l (nAhead l e) e, 0))
            clear h100
            go_wp2
            go_ret2
            rw [HRR.out]
            exact ⟨_, rfl, owns_base HW11.out hx2.size, hx11⟩
        · have HRR := Lib.hid (by rw [HR.out]; simp : addS l e = ([], 331))
          go_wp2
          go_ret2
          rw [HRR.out]
          exact ⟨_, rfl, World.ownsRow_nil _ _ _ _, hx11⟩
end Go.Proofs.YtakpkaklcjgdkaaGreatDoor
