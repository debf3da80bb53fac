/-
  Contract of 'Remove' of package words.
-/
import Derived.Test.YtakpkaklcjgdkaaGreatDoorAdd
namespace Go.Proofs.YtakpkaklcjgdkaaGreatDoor
open Go Go.RowKit

set_option maxRecDepth 100000 in
theorem cat_call2 (w w5 : World) (hx : Below w.heap.size w w5) (v0 v2 : Value) (p r : List Ent) (h0 : EntSlice w5 v0 p) (h2 : EntSlice w5 v2 r)
    (n0 : ∀ n cap, v0 = .slice none n cap → v0 = .slice none 0 0) (n2 : ∀ n cap, v2 = .slice none n cap → v2 = .slice none 0 0) (hlen : p.length + r.length ≤ 1000) :
    Calls Tryz.prog 67 #[.slice (some ⟨w5.heap.size, 0, none⟩) 2 2] (w5.alloc (.cells #[v0, v2] 24)).drew fun r' w' =>
      ∃ v, r' = .returned v ∧ OwnEnts w' w.heap.size v (p ++ r) ∧ Below w.heap.size w w' := by
  have hb5 : Below w5.heap.size w5 (w5.alloc (.cells #[v0, v2] 24)).drew := ((Below.refl _ _).alloc (Nat.le_refl _) _).drew
  have c0 : (w5.alloc (.cells #[v0, v2] 24)).drew.cell? ⟨w5.heap.size, 0, none⟩ = some v0 := by
    rw [World.cell?_drew, World.cell?_alloc_at _ _ _ _ rfl]; rfl
  have c1 : (w5.alloc (.cells #[v0, v2] 24)).drew.cell? ⟨w5.heap.size, 1, none⟩ = some v2 := by
    rw [World.cell?_drew, World.cell?_alloc_at _ _ _ _ rfl]; rfl
  generalize (w5.alloc (.cells #[v0, v2] 24)).drew = W at *
  have hrows : RowsOf W w5.heap.size [p, r] := by
    intro j hj
    match j, hj with
    | 0, _ => exact ⟨v0, c0, h0.below hb5, n0⟩
    | 1, _ => exact ⟨v2, c1, h2.below hb5, n2⟩
  have hfl : [p, r].flatten = p ++ r := by simp
  have h := Concat_any W w5.heap.size 2 [p, r] rfl hrows (by rw [hfl]; simp; omega) (by decide)
  rw [hfl] at h
  refine h.mono ?_
  rintro r' w' ⟨v, rfl, ho, hb⟩
  have hxW := hx.trans (hb5.mono hx.size)
  exact ⟨v, rfl, owns_base ho hxW.size, hxW.trans (hb.mono hxW.size)⟩

theorem ents_drop_if {w : World} {b off cap : Nat} {l : List Ent} (h : EntSlice w (.slice (some ⟨b, off, none⟩) l.length cap) l) (k : Nat) (hk : k ≤ l.length) :
    EntSlice w (.slice (if cap = k then some ⟨b, off, none⟩ else some ⟨b, off + k * 3, none⟩) (l.length - k) (cap - k)) (l.drop k) := by
  have hat : (⟨b, off, none⟩ : Addr).add (k * 3) = ⟨b, off + k * 3, none⟩ := by unfold Addr.add; split <;> simp_all
  have h2 := ents_drop_any h k hk
  rw [hat] at h2
  by_cases hc : cap = k
  · obtain ⟨⟨a, cap', hv, h1, hm, _⟩, _⟩ := h
    injection hv with _ _ hcap
    have hl : l.length = k := by omega
    rw [if_pos hc, show l.drop k = [] by rw [← hl]; simp, show l.length - k = 0 by omega]
    exact ents_empty _ _ _ (by omega)
  · rw [if_neg hc]; exact h2
/-- Whether an entry is the one to be removed. -/
def isIt (word : ByteArray) (cat : Int) (o : Ent) : Bool := o.word.toList == word.toList && o.cat == cat
/-- What 'Remove' returns. -/
def removeS (l : List Ent) (word : ByteArray) (cat : Int) : List Ent × Int :=
  if validS l then (match thoseS (isIt word cat) l with | [] => ([], 6) | k :: _ => (l.take k ++ l.drop (k + 1), 0)) else ([], 2)

set_option maxRecDepth 100000 in
set_option maxHeartbeats 16000000 in
theorem Remove_any (W0 w : World) (ht : Tabs W0 w) (v : Value) (l : List Ent) (hl : EntSlice w v l) (word : ByteArray) (cat : Int) :
    Calls Tryz.prog 31 #[v, .string word, .int .u8 cat] w fun r w' => ∃ v', r = .returned (.tuple #[v', .int .i64 (removeS l word cat).2]) ∧ OwnEnts w' w.heap.size v' (removeS l word cat).1 ∧ Below w.heap.size w w' := by
  have HL := Lib.hid hl
  obtain ⟨S, hS⟩ : ∃ S, S = removeS l word cat := ⟨_, rfl⟩
  rw [← hS]
  have HS := Lib.hid hS
  clear hS
  have hBb : Below w.heap.size w ((w.alloc (.cells #[.string word] 9)).alloc (.cells #[.int .u8 cat] 5)) := ((Below.refl _ _).alloc (Nat.le_refl _) _).alloc (by simp) _
  have d0 : ((w.alloc (.cells #[.string word] 9)).alloc (.cells #[.int .u8 cat] 5)).cell? ⟨w.heap.size, 0, none⟩ = some (.string word) := by simp
  have d1 : ((w.alloc (.cells #[.string word] 9)).alloc (.cells #[.int .u8 cat] 5)).cell? ⟨w.heap.size + 1, 0, none⟩ = some (.int .u8 cat) := by simp
  have ht1 := ht.next hBb
  have hl1 := hl.below hBb
  have hz1 : ((w.alloc (.cells #[.string word] 9)).alloc (.cells #[.int .u8 cat] 5)).heap.size = w.heap.size + 2 := by simp
  cases hv : validS l
  · have HV := Lib.hid (hv ▸ Valid_any W0 _ ht1 v l hl1)
    have hSe : removeS l word cat = ([], 2) := by simp [removeS, hv]
    have HSe := Lib.hid (HS.out.trans hSe)
    clear hv hSe d0 d1 hl
    go_enter Tryz.func31, Tryz.ntmps31
    go_wp2_with fail
    refine HV.out.mono ?_
    rintro r w1 ⟨rfl, hb1⟩
    go_wp2
    go_ret2
    exact ⟨_, by rw [HSe.out]; rfl, by rw [HSe.out]; exact ownEnts_nil _ _, hBb.trans (hb1.mono (by rw [hz1]; omega))⟩
  · have HV := Lib.hid (hv ▸ Valid_any W0 _ ht1 v l hl1)
    have HVv := Lib.hid hv
    clear hv hl
    go_enter Tryz.func31, Tryz.ntmps31
    go_wp2_with fail
    refine HV.out.mono ?_
    rintro r w1 ⟨rfl, hb1⟩
    have hx1 := hBb.trans (hb1.mono (by rw [hz1]; omega))
    have q0 := cell_kept' hb1 d0
    have q1 := cell_kept' hb1 d1
    have h100 : l.length ≤ 100 := by have := HVv.out; simp [validS] at this; exact this.1
    have T1 := those_any w1 v l (HL.out.below hx1) (by omega) 70 #[.pointer (some ⟨w.heap.size, 0, none⟩), .pointer (some ⟨w.heap.size + 1, 0, none⟩)] (isIt word cat) (fun _ _ => by kernel_rfl) (fun w' o hw' _ => Remove1_any w' o word cat w.heap.size (w.heap.size + 1) (cell_kept' hw' q0) (cell_kept' hw' q1))
    go_wp2_with fail
    refine T1.mono ?_
    rintro r w3 ⟨r', rfl, ⟨a3, c3, rfl, hidx⟩, hb3⟩
    have hx3 := hx1.trans (hb3.mono hx1.size)
    have hmem : ∀ i ∈ thoseS (isIt word cat) l, i < l.length := fun i hi => by
      unfold thoseS thoseTo at hi
      simpa using (List.mem_filter.1 hi).1
    obtain ⟨n1, hn1⟩ : ∃ n, n = thoseS (isIt word cat) l := ⟨_, rfl⟩
    rw [← hn1] at hidx hmem ⊢
    have HN1 := Lib.hid hn1
    clear hn1 T1
    cases n1 with
    | nil =>
      have hSe : removeS l word cat = ([], 6) := by
        unfold removeS
        rw [HVv.out, ← HN1.out]; simp
      have HSe := Lib.hid (HS.out.trans hSe)
      clear hSe hidx hmem
      go_wp2
      go_ret2
      exact ⟨_, by rw [HSe.out]; rfl, by rw [HSe.out]; exact ownEnts_nil _ _, hx3⟩
    | cons k r1 =>
      have hk : k < l.length := hmem k (by simp)
      have hSe : removeS l word cat = (l.take k ++ l.drop (k + 1), 0) := by
        unfold removeS
        rw [HVv.out, ← HN1.out]; simp
      have HSe := Lib.hid (HS.out.trans hSe)
      rcases hidx with h | ⟨g, rfl, hc⟩
      · cases h
      have ck := hc 0 (by simp)
      simp only [List.getElem_cons_zero] at ck
      obtain ⟨⟨a, cap, rfl, hcap, hcm, hform⟩, hok⟩ := HL.out
      have HEs := Lib.hid (HL.out.below hx3)
      rcases hform with rfl | ⟨b, off, rfl, hbl, _⟩
      · exact absurd hk (by simp)
      have hes0 := ents_take_any HEs.out k (by omega)
      have hes2 := ents_drop_if HEs.out (k + 1) (by omega)
      have hk63 : (k : Int) ≤ 100 := by omega
      have i1 : (0 : Int) ≤ (k : Int) := by omega
      have i2 : (k : Int) + 1 ≤ (l.length : Int) := by omega
      have i3 : (k : Int) + 1 ≤ (cap : Int) := by omega
      have i4 : (l.length : Int) ≤ (cap : Int) := by omega
      have i6 : (k : Int) ≤ (cap : Int) := by omega
      have i7 : IntKind.i64.wrap ((k : Int) + 1) = (k : Int) + 1 := IntWalk.i64_in _ (by omega)
      have i8 : ((k : Int) + 1).toNat = k + 1 := by omega
      have i9 : (0 : Int) ≤ (k : Int) + 1 := by omega
      have hll : 0 < (k :: r1).length := by simp
      by_cases hkc : cap = k + 1
      · rw [if_pos hkc] at hes2
        subst hkc
        have hl1 : l.length = k + 1 := by omega
        have e0 : l.length - (k + 1) = 0 := by omega
        have e1 : k + 1 - (k + 1) = 0 := by omega
        rw [e0, e1] at hes2
        have CC := Lib.hid (cat_call2 w w3 hx3 _ _ (l.take k) (l.drop (k + 1)) hes0 hes2 (fun _ _ h => by simp at h) (fun _ _ h => by simp at h) (by simp; omega))
        clear hmem hes0 hes2 hc hSe hok hcm hl1 e0 e1
        go_wp2
        go_region_with (go_at_call 67; refine CC.out.mono ?_; rintro r6 w6 ⟨v6, rfl, ho6, hb6⟩)
        all_goals
          go_wp2
          go_ret2
          exact ⟨_, by rw [HSe.out]; rfl, by rw [HSe.out]; exact ho6, hb6⟩
      · rw [if_neg hkc] at hes2
        have CC := Lib.hid (cat_call2 w w3 hx3 _ _ (l.take k) (l.drop (k + 1)) hes0 hes2 (fun _ _ h => by simp at h) (fun _ _ h => by simp at h) (by simp; omega))
        clear hmem hes0 hes2 hc hSe hok hcm
        go_wp2
        go_region_with (go_at_call 67; refine CC.out.mono ?_; rintro r6 w6 ⟨v6, rfl, ho6, hb6⟩)
        all_goals
          go_wp2
          go_ret2
          exact ⟨_, by rw [HSe.out]; rfl, by rw [HSe.out]; exact ho6, hb6⟩
end Go.Proofs.YtakpkaklcjgdkaaGreatDoor
