/-
  Contracts of 'SameTexts' and 'CopyTexts' of the laws' kit.
-/
import Derived.Test.YthmnffgjckpkiaaGreatDoorGTok
import Derived.Test.YthmnffgjckpkiaaGreatDoorGLow
import Derived.Laws.AppendOwnNone
namespace Go.Proofs.YthmnffgjckpkiaaGreatDoor
open Go Go.RowKit

theorem bytes_list (l : List UInt8) : (⟨l.toArray⟩ : ByteArray).toList = l := by rw [ByteArray.toList_eq]
theorem take_eq_succ {α : Type} {a b : List α} {k : Nat} (ha : k < a.length) (hb : k < b.length) (h : a.take k = b.take k) (he : a[k] = b[k]) : a.take (k + 1) = b.take (k + 1) := by
  rw [List.take_succ_eq_append_getElem ha, List.take_succ_eq_append_getElem hb, h, he]

set_option maxRecDepth 100000 in
set_option maxHeartbeats 1000000 in
theorem SameTexts_any (w : World) (va vb : Value) (la lb : List (List UInt8)) (ha : StrSlice w va la) (hb : StrSlice w vb lb) (hn : la.length ≤ 1000000000) :
    Calls Tryz.prog 32 #[va, vb] w fun e w' => e = .returned (.bool (la == lb)) ∧ Below w.heap.size w w' := by
  obtain ⟨a, cap, rfl, hcap, hcm, ha⟩ := ha
  obtain ⟨b, cap', rfl, hcap', hcm', hb⟩ := hb
  by_cases hlen : la.length = lb.length
  · have HA := Lib.hid ha
    have HB := Lib.hid hb
    clear ha hb
    go_enter Tryz.func32, Tryz.ntmps32
    go_wp2

    go_loopw [5] (fun i wr => ∃ k : Nat, k ≤ la.length ∧ i = .int .i64 k ∧ la.take k = lb.take k ∧ Below w.heap.size w wr) (fun i _ => la.length - (intOf i).toNat)
    case atStart => exact ⟨0, Nat.zero_le _, rfl, rfl, Below.refl _ _⟩
    case round =>
      obtain ⟨k, hk, rfl, hpre, hbw⟩ := hrel
      have HP := Lib.hid hpre
      clear hpre
      by_cases hlt : k < la.length
      · rcases HA.out with h0 | ⟨ga, oa, rfl, ca⟩
        · rw [h0] at hlt; exact absurd hlt (by simp)
        rcases HB.out with h0 | ⟨gb, ob, rfl, cb⟩
        · rw [hlen, h0] at hlt; exact absurd hlt (by simp)
        have c1 := ca k hlt
        have c2 := cb k (hlen ▸ hlt)
        obtain ⟨s, hs⟩ : ∃ s, s = (⟨la[k].toArray⟩ : ByteArray) := ⟨_, rfl⟩
        obtain ⟨t, ht⟩ : ∃ t, t = (⟨(lb[k]'(hlen ▸ hlt)).toArray⟩ : ByteArray) := ⟨_, rfl⟩
        rw [← hs] at c1
        rw [← ht] at c2
        have e1 : s.toList = la[k] := by rw [hs, bytes_list]
        have e2 : t.toList = lb[k]'(hlen ▸ hlt) := by rw [ht, bytes_list]
        have E1 := Lib.hid e1
        have E2 := Lib.hid e2
        have hlt2 : k < lb.length := hlen ▸ hlt
        have d1 := cell_kept' hbw c1
        have d2 := cell_kept' hbw c2
        have f1 := fun x : Later wr => x.get d1
        have f2 := fun x : Later wr => x.get d2
        have e3 : (k : Int) < (la.length : Int) := by omega
        have e4 : (k : Int) < (lb.length : Int) := by omega
        have e5 : (0 : Int) ≤ k := by omega
        clear ca cb hs ht e1 e2 c1 c2
        cases hq : (s.toList == t.toList)
        · go_wp2
          refine wp_region_later (by kernel_rfl) (by kernel_rfl) ?_
          repeat (go_big_quiet_step (fail))
          refine wpQuiet_nil ?_
          rintro _ ⟨x, rfl⟩
          go_wp2
          go_ret
          refine ⟨ret_bool ?_, hbw.trans (x.below.mono hbw.size)⟩
          have hne : la ≠ lb := fun e => by
            have : s.toList = t.toList := by rw [E1.out, E2.out]; simp [e]
            rw [this] at hq; simp at hq
          simp [hne]
        · go_wp2
          refine wp_region_later (by kernel_rfl) (by kernel_rfl) ?_
          repeat (go_big_quiet_step (fail))
          refine wpQuiet_nil ?_
          rintro _ ⟨x, rfl⟩
          go_wp2
          go_roundw
          case rel => exact ⟨k + 1, by omega, by go_num, take_eq_succ hlt hlt2 HP.out (by rw [← E1.out, ← E2.out]; simpa using hq), hbw.trans (x.below.mono hbw.size)⟩
          case measure => simp [intOf]; omega
      · obtain rfl : k = la.length := by omega
        go_wp2
        go_ret
        have := HP.out
        rw [List.take_length, hlen, List.take_length] at this
        exact ⟨ret_bool (by simp [this]), hbw⟩
  · have hne : (la == lb) = false := by simp; intro e; exact hlen (by rw [e])
    rw [hne]
    clear ha hb hne
    go_enter Tryz.func32, Tryz.ntmps32
    go_wp2
    go_ret
    exact ⟨rfl, Below.refl _ _⟩

set_option maxRecDepth 100000 in
set_option maxHeartbeats 1000000 in
theorem CopyTexts_any (w : World) (v : Value) (l : List (List UInt8)) (hl : StrSlice w v l) (hn : l.length ≤ 1000000000) (h0 : ∀ n cap, v = .slice none n cap → v = .slice none 0 0) :
    Calls Tryz.prog 25 #[v] w fun e w' => ∃ v', e = .returned v' ∧ w'.ownsRow w.heap.size 9 1 v' l.length (l.map strVal) ∧ Below w.heap.size w w' := by
  obtain ⟨i0, hi, hz0, hz1, hz2⟩ := info_parts info_string
  obtain ⟨a, cap, rfl, hcap, hcm, hl⟩ := hl
  cases a with
  | none =>
    have e := h0 _ _ rfl
    have hl0 : l = [] := by rcases hl with h | ⟨b, off, h, _⟩; exact h; cases h
    subst hl0
    obtain rfl : cap = 0 := by simpa using e
    clear h0 e hl
    go_enter Tryz.func25, Tryz.ntmps25
    go_wp2_with (at_builtin; refine wpList_append_own_none rfl _ _ 41 rfl w.heap.size 9 i0 1 Tryz.underlying41 hi _ _ _ rfl (World.ownsRow_nil _ _ _ _) rfl ?_)
    go_ret
    exact ⟨_, rfl, World.ownsRow_nil _ _ _ _, Below.refl _ _⟩
  | some ad =>
    have hnews : ∀ j u, (l.map strVal)[j]? = some u → w.cell? (ad.add j) = some u := by
      intro j u hu
      rcases hl with rfl | ⟨b, off, hb, hc⟩
      · simp at hu
      · cases hb
        have hj : j < l.length := by
          rcases Nat.lt_or_ge j l.length with h | h
          · exact h
          · rw [List.getElem?_eq_none (by simpa using h)] at hu; cases hu
        have hadd : (⟨b, off, none⟩ : Addr).add j = ⟨b, off + j, none⟩ := by unfold Addr.add; split <;> simp_all
        rw [hadd, hc j hj]
        rw [List.getElem?_map, List.getElem?_eq_getElem hj] at hu
        exact hu
    clear hl h0
    have HN := Lib.hid hnews
    clear hnews
    go_enter Tryz.func25, Tryz.ntmps25
    go_wp2_with (at_builtin; go_loud (refine wpList_append_own _ rfl _ _ 41 rfl w.heap.size 9 i0 (.string ByteArray.empty) 1 16 Tryz.underlying41 hi hz0 hz1 hz2 rfl (by decide) _ _ _ rfl (World.ownsRow_nil _ _ _ _) ad l.length cap (l.map strVal) rfl (by simp) HN.out (by simp [strVal, Value.oneCell']) (by unfold maxLen; omega) (by omega) (Nat.le_refl _) ?_; intro v' w1 hown hgrow _))
    go_ret
    exact ⟨_, rfl, by simpa using hown, (Below.refl _ _).grown hgrow (Nat.le_refl _) (fun k hk => by have h2 : (Value.slice none 0 0).ownBlock = some k := hk; simp [Value.ownBlock] at h2)⟩
end Go.Proofs.YthmnffgjckpkiaaGreatDoor
