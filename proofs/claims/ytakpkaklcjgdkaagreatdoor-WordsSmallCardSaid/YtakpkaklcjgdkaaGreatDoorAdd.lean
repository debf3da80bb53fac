/-
  Contracts of 'Add' and 'Remove' of package words.
-/
import Derived.Test.YtakpkaklcjgdkaaGreatDoorConcat
import Derived.RegionTactic
import Derived.ChangeAlike
import Derived.Deep.RegionWith
namespace Go.Proofs.YtakpkaklcjgdkaaGreatDoor
open Go Go.RowKit

theorem Add1_any (w : World) (e o : Ent) (b : Nat) (h0 : w.cell? ⟨b, 0, none⟩ = some (.string e.word)) (h1 : w.cell? ⟨b, 1, none⟩ = some (.int .u8 e.cat)) (h2 : w.cell? ⟨b, 2, none⟩ = some (.string e.sym)) :
    Calls Tryz.prog 64 #[.agg #[.string o.word, .int .u8 o.cat, .string o.sym], .pointer (some ⟨b, 0, none⟩)] w fun r w' => r = .returned (.bool (compareS o e == 0)) ∧ Below w.heap.size w w' := by
  have hlt := cell_lt h0
  simp only at hlt
  go_enter Tryz.func64, Tryz.ntmps64
  go_wp2_with (go_at_call 61; refine (compare_any _ o e).mono ?_; rintro r w1 ⟨rfl, hb⟩)
  go_ret
  exact ⟨rfl, ((Below.refl _ _).alloc (Nat.le_refl _) _).trans (hb.mono (by simp))⟩
theorem Add2_any (w : World) (e o : Ent) (b : Nat) (h0 : w.cell? ⟨b, 0, none⟩ = some (.string e.word)) (h1 : w.cell? ⟨b, 1, none⟩ = some (.int .u8 e.cat)) (h2 : w.cell? ⟨b, 2, none⟩ = some (.string e.sym)) :
    Calls Tryz.prog 65 #[.agg #[.string o.word, .int .u8 o.cat, .string o.sym], .pointer (some ⟨b, 0, none⟩)] w fun r w' => r = .returned (.bool (clashS o e)) ∧ Below w.heap.size w w' := by
  have hlt := cell_lt h0
  simp only at hlt
  go_enter Tryz.func65, Tryz.ntmps65
  go_wp2_with (go_at_call 63; refine (clash_any _ o e).mono ?_; rintro r w1 ⟨rfl, hb⟩)
  go_ret
  exact ⟨rfl, ((Below.refl _ _).alloc (Nat.le_refl _) _).trans (hb.mono (by simp))⟩
theorem Add3_any (w : World) (e o : Ent) (b : Nat) (h0 : w.cell? ⟨b, 0, none⟩ = some (.string e.word)) (h1 : w.cell? ⟨b, 1, none⟩ = some (.int .u8 e.cat)) (h2 : w.cell? ⟨b, 2, none⟩ = some (.string e.sym)) :
    Calls Tryz.prog 66 #[.agg #[.string o.word, .int .u8 o.cat, .string o.sym], .pointer (some ⟨b, 0, none⟩)] w fun r w' => r = .returned (.bool (decide (compareS o e < 0))) ∧ Below w.heap.size w w' := by
  have hlt := cell_lt h0
  simp only at hlt
  go_enter Tryz.func66, Tryz.ntmps66
  go_wp2_with (go_at_call 61; refine (compare_any _ o e).mono ?_; rintro r w1 ⟨rfl, hb⟩)
  go_ret
  exact ⟨rfl, ((Below.refl _ _).alloc (Nat.le_refl _) _).trans (hb.mono (by simp))⟩
theorem Remove1_any (w : World) (o : Ent) (word : ByteArray) (cat : Int) (b c : Nat) (h0 : w.cell? ⟨b, 0, none⟩ = some (.string word)) (h1 : w.cell? ⟨c, 0, none⟩ = some (.int .u8 cat)) :
    Calls Tryz.prog 70 #[.agg #[.string o.word, .int .u8 o.cat, .string o.sym], .pointer (some ⟨b, 0, none⟩), .pointer (some ⟨c, 0, none⟩)] w fun r w' => r = .returned (.bool (o.word.toList == word.toList && o.cat == cat)) ∧ Below w.heap.size w w' := by
  have hlt := cell_lt h0
  have hlt1 := cell_lt h1
  simp only at hlt hlt1
  cases hq : (o.word.toList == word.toList)
  all_goals
    go_enter Tryz.func70, Tryz.ntmps70
    go_wp2
    go_ret
    exact ⟨ret_bool (by simp), (Below.refl _ _).alloc (Nat.le_refl _) _⟩

/-- A new lexicon that lies in a row of its own. -/
def OwnEnts (w : World) (base : Nat) (v : Value) (l : List Ent) : Prop := w.ownsRow base 26 3 v l.length (l.flatMap entCells)
theorem ownEnts_nil (w : World) (base : Nat) : OwnEnts w base (.slice none 0 0) [] := World.ownsRow_nil _ _ _ _
theorem owns_base {w : World} {base base' : Nat} {e : TypeId} {size : Nat} {v : Value} {n : Nat} {xs : List Value} (h : w.ownsRow base e size v n xs) (hb : base' ≤ base) : w.ownsRow base' e size v n xs := by
  obtain ⟨h1, h2⟩ := h
  refine ⟨h1, ?_⟩
  rcases h2 with h2 | ⟨g, cap, cur, a, b, c⟩
  · exact .inl h2
  · exact .inr ⟨g, cap, cur, a, Nat.le_trans hb b, c⟩
theorem ents_take_any {w : World} {ad : Addr} {cap : Nat} {l : List Ent} (h : EntSlice w (.slice (some ad) l.length cap) l) (k : Nat) (hk : k ≤ l.length) : EntSlice w (.slice (some ad) k cap) (l.take k) := by
  obtain ⟨⟨a, cap', hv, h1, h2, h3⟩, h4⟩ := h
  injection hv with ha _ hcap
  subst ha hcap
  have e : (l.take k).length = k := by rw [List.length_take]; omega
  refine ⟨⟨some ad, cap, by rw [e], by rw [e]; omega, h2, ?_⟩, fun x hx => h4 x (List.mem_of_mem_take hx)⟩
  rcases h3 with rfl | ⟨b, off, hb, hlt, hc⟩
  · exact .inl (by simp)
  · cases hb
    refine .inr ⟨b, off, rfl, hlt, fun j hj => ?_⟩
    have := hc j (by rw [e] at hj; omega)
    simpa using this
theorem ents_drop_any {w : World} {ad : Addr} {cap : Nat} {l : List Ent} (h : EntSlice w (.slice (some ad) l.length cap) l) (k : Nat) (hk : k ≤ l.length) : EntSlice w (.slice (some (ad.add (k * 3))) (l.length - k) (cap - k)) (l.drop k) := by
  obtain ⟨⟨a, cap', hv, h1, h2, h3⟩, h4⟩ := h
  injection hv with ha _ hcap
  subst ha hcap
  have e : (l.drop k).length = l.length - k := by simp
  refine ⟨⟨_, cap - k, by rw [e], by rw [e]; omega, by omega, ?_⟩, fun x hx => h4 x (List.mem_of_mem_drop hx)⟩
  rcases h3 with rfl | ⟨b, off, hb, hlt, hc⟩
  · exact .inl (by simp)
  · cases hb
    have hat : (⟨b, off, none⟩ : Addr).add (k * 3) = ⟨b, off + k * 3, none⟩ := by unfold Addr.add; split <;> simp_all
    refine .inr ⟨b, off + k * 3, by rw [hat], hlt, fun j hj => ?_⟩
    have hj' : k + j < l.length := by rw [e] at hj; omega
    have := hc (k + j) hj'
    rw [show off + (k + j) * 3 = off + k * 3 + j * 3 by omega] at this
    simpa using this
theorem ents_empty (w : World) (ad : Addr) (cap : Nat) (hc : cap ≤ maxLen) : EntSlice w (.slice (some ad) 0 cap) [] := ⟨⟨some ad, cap, rfl, Nat.zero_le _, hc, .inl rfl⟩, fun e he => by simp at he⟩
theorem ents_none (w : World) : EntSlice w (.slice none 0 0) [] := ⟨⟨none, 0, rfl, Nat.le_refl _, Nat.zero_le _, .inl rfl⟩, fun e he => by simp at he⟩

set_option maxRecDepth 100000 in
theorem cat_call (w w5 : World) (hx : Below w.heap.size w w5) (v0 v2 : Value) (p r : List Ent) (e : Ent) (he : e.ok) (h0 : EntSlice w5 v0 p) (h2 : EntSlice w5 v2 r)
    (n0 : ∀ n cap, v0 = .slice none n cap → v0 = .slice none 0 0) (n2 : ∀ n cap, v2 = .slice none n cap → v2 = .slice none 0 0) (hlen : p.length + r.length ≤ 1000) :
    Calls Tryz.prog 67 #[.slice (some ⟨w5.heap.size + 1, 0, none⟩) 3 3] ((w5.alloc (.cells #[.string e.word, .int .u8 e.cat, .string e.sym] 26)).alloc (.cells #[v0, .slice (some ⟨w5.heap.size, 0, none⟩) 1 1, v2] 24)).drew fun r' w' =>
      ∃ v, r' = .returned v ∧ OwnEnts w' w.heap.size v (p ++ ([e] ++ r)) ∧ Below w.heap.size w w' := by
  have hb5 : Below w5.heap.size w5 ((w5.alloc (.cells #[.string e.word, .int .u8 e.cat, .string e.sym] 26)).alloc (.cells #[v0, .slice (some ⟨w5.heap.size, 0, none⟩) 1 1, v2] 24)).drew := (((Below.refl _ _).alloc (Nat.le_refl _) _).alloc (by simp) _).drew
  have hsz : ((w5.alloc (.cells #[.string e.word, .int .u8 e.cat, .string e.sym] 26)).alloc (.cells #[v0, .slice (some ⟨w5.heap.size, 0, none⟩) 1 1, v2] 24)).drew.heap.size = w5.heap.size + 2 := by simp
  have c0 : ((w5.alloc (.cells #[.string e.word, .int .u8 e.cat, .string e.sym] 26)).alloc (.cells #[v0, .slice (some ⟨w5.heap.size, 0, none⟩) 1 1, v2] 24)).drew.cell? ⟨w5.heap.size + 1, 0, none⟩ = some v0 := by
    rw [World.cell?_drew, World.cell?_alloc_at _ _ _ _ (by simp)]; rfl
  have c1 : ((w5.alloc (.cells #[.string e.word, .int .u8 e.cat, .string e.sym] 26)).alloc (.cells #[v0, .slice (some ⟨w5.heap.size, 0, none⟩) 1 1, v2] 24)).drew.cell? ⟨w5.heap.size + 1, 1, none⟩ = some (.slice (some ⟨w5.heap.size, 0, none⟩) 1 1) := by
    rw [World.cell?_drew, World.cell?_alloc_at _ _ _ _ (by simp)]; rfl
  have c2 : ((w5.alloc (.cells #[.string e.word, .int .u8 e.cat, .string e.sym] 26)).alloc (.cells #[v0, .slice (some ⟨w5.heap.size, 0, none⟩) 1 1, v2] 24)).drew.cell? ⟨w5.heap.size + 1, 2, none⟩ = some v2 := by
    rw [World.cell?_drew, World.cell?_alloc_at _ _ _ _ (by simp)]; rfl
  have e0 : ((w5.alloc (.cells #[.string e.word, .int .u8 e.cat, .string e.sym] 26)).alloc (.cells #[v0, .slice (some ⟨w5.heap.size, 0, none⟩) 1 1, v2] 24)).drew.cell? ⟨w5.heap.size, 0, none⟩ = some (.string e.word) := by simp
  have e1 : ((w5.alloc (.cells #[.string e.word, .int .u8 e.cat, .string e.sym] 26)).alloc (.cells #[v0, .slice (some ⟨w5.heap.size, 0, none⟩) 1 1, v2] 24)).drew.cell? ⟨w5.heap.size, 1, none⟩ = some (.int .u8 e.cat) := by simp
  have e2 : ((w5.alloc (.cells #[.string e.word, .int .u8 e.cat, .string e.sym] 26)).alloc (.cells #[v0, .slice (some ⟨w5.heap.size, 0, none⟩) 1 1, v2] 24)).drew.cell? ⟨w5.heap.size, 2, none⟩ = some (.string e.sym) := by simp
  generalize ((w5.alloc (.cells #[.string e.word, .int .u8 e.cat, .string e.sym] 26)).alloc (.cells #[v0, .slice (some ⟨w5.heap.size, 0, none⟩) 1 1, v2] 24)).drew = W at *
  have hone : EntSlice W (.slice (some ⟨w5.heap.size, 0, none⟩) 1 1) [e] := by
    refine ⟨⟨_, 1, rfl, Nat.le_refl _, by decide, .inr ⟨w5.heap.size, 0, rfl, by omega, fun j hj => ?_⟩⟩, fun x hx => by rw [List.mem_singleton.1 hx]; exact he⟩
    obtain rfl : j = 0 := by simp at hj; omega
    exact ⟨e0, e1, e2⟩
  have hrows : RowsOf W (w5.heap.size + 1) [p, [e], r] := by
    intro j hj
    match j, hj with
    | 0, _ => exact ⟨v0, c0, h0.below hb5, n0⟩
    | 1, _ => exact ⟨_, c1, hone, fun n cap h => by simp at h⟩
    | 2, _ => exact ⟨v2, c2, h2.below hb5, n2⟩
  have hfl : [p, [e], r].flatten = p ++ ([e] ++ r) := by simp
  have h := Concat_any W (w5.heap.size + 1) 3 [p, [e], r] rfl hrows (by rw [hfl]; simp; omega) (by decide)
  rw [hfl] at h
  refine h.mono ?_
  rintro r' w' ⟨v, rfl, ho, hb⟩
  have hxW := hx.trans (hb5.mono hx.size)
  exact ⟨v, rfl, owns_base ho hxW.size, hxW.trans (hb.mono hxW.size)⟩

/-- What 'Add' returns. -/
def addS (l : List Ent) (e : Ent) : List Ent × Int :=
  if validS l && rightS e then
    if thoseS (fun o => compareS o e == 0) l ≠ [] then ([], 330)
    else if thoseS (fun o => clashS o e) l ≠ [] then ([], 331)
    else if 100 ≤ l.length then ([], 5)
    else (l.take (thoseS (fun o => decide (compareS o e < 0)) l).length ++ ([e] ++ l.drop (thoseS (fun o => decide (compareS o e < 0)) l).length), 0)
  else ([], 2)
set_option maxRecDepth 100000 in
set_option maxHeartbeats 16000000 in
theorem Add_any (W0 w : World) (ht : Tabs W0 w) (v : Value) (l : List Ent) (hl : EntSlice w v l) (h0 : ∀ n cap, v = .slice none n cap → v = .slice none 0 0) (e : Ent) (he : e.ok) :
    Calls Tryz.prog 29 #[v, .agg #[.string e.word, .int .u8 e.cat, .string e.sym]] w fun r w' => ∃ v', r = .returned (.tuple #[v', .int .i64 (addS l e).2]) ∧ OwnEnts w' w.heap.size v' (addS l e).1 ∧ Below w.heap.size w w' := by
  have HL := Lib.hid hl
  have HE := Lib.hid he
  have H0 := Lib.hid h0
  obtain ⟨S, hS⟩ : ∃ S, S = addS l e := ⟨_, rfl⟩
  rw [← hS]
  have HS := Lib.hid hS
  clear h0 hS he
  have hBb : Below w.heap.size w (w.alloc (.cells #[.string e.word, .int .u8 e.cat, .string e.sym] 26)) := (Below.refl _ _).alloc (Nat.le_refl _) _
  have d0 : (w.alloc (.cells #[.string e.word, .int .u8 e.cat, .string e.sym] 26)).cell? ⟨w.heap.size, 0, none⟩ = some (.string e.word) := by simp
  have d1 : (w.alloc (.cells #[.string e.word, .int .u8 e.cat, .string e.sym] 26)).cell? ⟨w.heap.size, 1, none⟩ = some (.int .u8 e.cat) := by simp
  have d2 : (w.alloc (.cells #[.string e.word, .int .u8 e.cat, .string e.sym] 26)).cell? ⟨w.heap.size, 2, none⟩ = some (.string e.sym) := by simp
  have ht1 := ht.next hBb
  have hl1 := hl.below hBb
  have hz1 : (w.alloc (.cells #[.string e.word, .int .u8 e.cat, .string e.sym] 26)).heap.size = w.heap.size + 1 := by simp
  cases hv : validS l
  · have HV := Lib.hid (hv ▸ Valid_any W0 _ ht1 v l hl1)
    have hSe : addS l e = ([], 2) := by simp [addS, hv]
    have HSe := Lib.hid (HS.out.trans hSe)
    clear hv hSe d0 d1 d2 hl
    go_enter Tryz.func29, Tryz.ntmps29
    go_wp2_with fail
    refine HV.out.mono ?_
    rintro r w1 ⟨rfl, hb1⟩
    go_wp2
    go_ret2
    exact ⟨_, by rw [HSe.out]; rfl, by rw [HSe.out]; exact ownEnts_nil _ _, hBb.trans (hb1.mono (by rw [hz1]; omega))⟩
  · have HV := Lib.hid (hv ▸ Valid_any W0 _ ht1 v l hl1)
    have HVv := Lib.hid hv
    clear hv
    cases hr : rightS e
    · have hSe : addS l e = ([], 2) := by simp [addS, hr]
      have HSe := Lib.hid (HS.out.trans hSe)
      have HR := Lib.hid (fun w ht => hr ▸ Right_any W0 w ht e HE.out)
      clear hr hSe hl
      go_enter Tryz.func29, Tryz.ntmps29
      go_wp2_with fail
      refine HV.out.mono ?_
      rintro r w1 ⟨rfl, hb1⟩
      have q0 := cell_kept' hb1 d0
      have q1 := cell_kept' hb1 d1
      have q2 := cell_kept' hb1 d2
      go_wp2_with fail
      refine (HR.out _ (ht1.next hb1)).mono ?_
      rintro r w2 ⟨rfl, hb2⟩
      have hx := (hBb.trans (hb1.mono (by rw [hz1]; omega))).trans (hb2.mono (by have := hb1.size; rw [hz1] at this; omega))
      go_wp2
      go_ret2
      exact ⟨_, by rw [HSe.out]; rfl, by rw [HSe.out]; exact ownEnts_nil _ _, hx⟩
    · have HR := Lib.hid (fun w ht => hr ▸ Right_any W0 w ht e HE.out)
      have HRr := Lib.hid hr
      clear hr hl
      go_enter Tryz.func29, Tryz.ntmps29
      go_wp2_with fail
      refine HV.out.mono ?_
      rintro r w1 ⟨rfl, hb1⟩
      have q0 := cell_kept' hb1 d0
      have q1 := cell_kept' hb1 d1
      have q2 := cell_kept' hb1 d2
      go_wp2_with fail
      refine (HR.out _ (ht1.next hb1)).mono ?_
      rintro r w2 ⟨rfl, hb2⟩
      have hx2 := (hBb.trans (hb1.mono (by rw [hz1]; omega))).trans (hb2.mono (by have := hb1.size; rw [hz1] at this; omega))
      have q0 := cell_kept' hb2 q0
      have q1 := cell_kept' hb2 q1
      have q2 := cell_kept' hb2 q2
      have h100 : l.length ≤ 100 := by have := HVv.out; simp [validS] at this; exact this.1
      have T1 := those_any w2 v l (HL.out.below hx2) (by omega) 64 #[.pointer (some ⟨w.heap.size, 0, none⟩)] (fun o => compareS o e == 0) (fun _ _ => by kernel_rfl) (fun w' o hw' _ => Add1_any w' e o w.heap.size (cell_kept' hw' q0) (cell_kept' hw' q1) (cell_kept' hw' q2))
      go_wp2_with fail
      refine T1.mono ?_
      rintro r w3 ⟨r', rfl, ⟨a3, c3, rfl, _⟩, hb3⟩
      have hx3 := hx2.trans (hb3.mono hx2.size)
      have q0 := cell_kept' hb3 q0
      have q1 := cell_kept' hb3 q1
      have q2 := cell_kept' hb3 q2
      obtain ⟨n1, hn1⟩ : ∃ n, n = thoseS (fun o => compareS o e == 0) l := ⟨_, rfl⟩
      rw [← hn1]
      have HN1 := Lib.hid hn1
      clear hn1 T1
      cases n1 with
      | cons i1 r1 =>
        have hSe : addS l e = ([], 330) := by
          unfold addS
          rw [HVv.out, HRr.out, ← HN1.out]; simp
        have HSe := Lib.hid (HS.out.trans hSe)
        clear hSe
        go_wp2
        go_ret2
        exact ⟨_, by rw [HSe.out]; rfl, by rw [HSe.out]; exact ownEnts_nil _ _, hx3⟩
      | nil =>
        have T2 := those_any w3 v l (HL.out.below hx3) (by omega) 65 #[.pointer (some ⟨w.heap.size, 0, none⟩)] (fun o => clashS o e) (fun _ _ => by kernel_rfl) (fun w' o hw' _ => Add2_any w' e o w.heap.size (cell_kept' hw' q0) (cell_kept' hw' q1) (cell_kept' hw' q2))
        go_wp2_with fail
        refine T2.mono ?_
        rintro r w4 ⟨r', rfl, ⟨a4, c4, rfl, _⟩, hb4⟩
        have hx4 := hx3.trans (hb4.mono hx3.size)
        have q0 := cell_kept' hb4 q0
        have q1 := cell_kept' hb4 q1
        have q2 := cell_kept' hb4 q2
        obtain ⟨n2, hn2⟩ : ∃ n, n = thoseS (fun o => clashS o e) l := ⟨_, rfl⟩
        rw [← hn2]
        have HN2 := Lib.hid hn2
        clear hn2 T2
        cases n2 with
        | cons i1 r1 =>
          have hSe : addS l e = ([], 331) := by
            unfold addS
            rw [HVv.out, HRr.out, ← HN1.out, ← HN2.out]; simp
          have HSe := Lib.hid (HS.out.trans hSe)
          clear hSe
          go_wp2
          go_ret2
          exact ⟨_, by rw [HSe.out]; rfl, by rw [HSe.out]; exact ownEnts_nil _ _, hx4⟩
        | nil =>
          obtain ⟨⟨a, cap, rfl, hcap, hcm, hform⟩, hok⟩ := HL.out
          have HForm := Lib.hid hform
          clear hform hok
          by_cases hl100 : 100 ≤ l.length
          · have hSe : addS l e = ([], 5) := by
              unfold addS
              rw [HVv.out, HRr.out, ← HN1.out, ← HN2.out]; simp [hl100]
            have HSe := Lib.hid (HS.out.trans hSe)
            clear hSe
            go_wp2
            go_ret2
            exact ⟨_, by rw [HSe.out]; rfl, by rw [HSe.out]; exact ownEnts_nil _ _, hx4⟩
          · have hlt100 : l.length < 100 := by omega
            have T3 := those_any w4 _ l (HL.out.below hx4) (by omega) 66 #[.pointer (some ⟨w.heap.size, 0, none⟩)] (fun o => decide (compareS o e < 0)) (fun _ _ => by kernel_rfl) (fun w' o hw' _ => Add3_any w' e o w.heap.size (cell_kept' hw' q0) (cell_kept' hw' q1) (cell_kept' hw' q2))
            go_wp2_with fail
            refine T3.mono ?_
            rintro r w5 ⟨r', rfl, ⟨a5, c5, rfl, _⟩, hb5⟩
            have hx5 := hx4.trans (hb5.mono hx4.size)
            have q0 := cell_kept' hb5 q0
            have q1 := cell_kept' hb5 q1
            have q2 := cell_kept' hb5 q2
            obtain ⟨k, hk⟩ : ∃ k, k = (thoseS (fun o => decide (compareS o e < 0)) l).length := ⟨_, rfl⟩
            have hkl : k ≤ l.length := by rw [hk]; exact thoseTo_len _ _ _
            rw [← hk]
            have hSe : addS l e = (l.take k ++ ([e] ++ l.drop k), 0) := by
              unfold addS
              rw [HVv.out, HRr.out, ← HN1.out, ← HN2.out, ← hk]; simp [hl100]
            have HSe := Lib.hid (HS.out.trans hSe)
            clear hSe hk T3 hl100
            have hk63 : (k : Int) ≤ 100 := by omega
            have i1 : (0 : Int) ≤ (k : Int) := by omega
            have i2 : (k : Int) ≤ (l.length : Int) := by omega
            have i3 : (k : Int) ≤ (cap : Int) := by omega
            have i4 : (l.length : Int) ≤ (cap : Int) := by omega
            have icap : (cap : Int) ≤ 9223372036854775807 := by unfold maxLen at hcm; omega
            have HSv := HSe.out
            have HQ0 := Lib.hid hx5
            have HEs := Lib.hid (HL.out.below hx5)
            cases a with
            | none =>
              have e0 := H0.out _ _ rfl
              have hl0 : l = [] := by rcases HForm.out with h | ⟨b, off, h, _⟩; exact h; cases h
              subst hl0
              obtain rfl : cap = 0 := by simpa using e0
              obtain rfl : k = 0 := by simpa using hkl
              have CC := Lib.hid (cat_call w w5 HQ0.out (.slice none 0 0) (.slice none 0 0) [] [] e HE.out (ents_none _) (ents_none _) (fun _ _ _ => rfl) (fun _ _ _ => rfl) (by simp))
              clear e0 HSv
              go_wp2
              go_region_with (go_at_call 67; refine CC.out.mono ?_; rintro r6 w6 ⟨v6, rfl, ho6, hb6⟩)
              all_goals
                go_wp2
                go_ret2
                exact ⟨_, by rw [HSe.out]; rfl, by rw [HSe.out]; exact ho6, hb6⟩
            | some ad =>
              have hes0 := ents_take_any HEs.out k hkl
              by_cases hkc : cap = k
              · have hkl2 : k = l.length := by omega
                have hd : l.drop k = [] := by rw [hkl2]; simp
                have CC := Lib.hid (cat_call w w5 HQ0.out (.slice (some ad) k cap) (.slice (some ad) 0 0) (l.take k) (l.drop k) e HE.out hes0 (by rw [hd]; exact ents_empty _ _ _ (Nat.zero_le _)) (fun _ _ h => by simp at h) (fun _ _ h => by simp at h) (by simp; omega))
                clear HSv hd hes0 hkl2
                subst hkc
                go_wp2
                go_region_with (go_at_call 67; refine CC.out.mono ?_; rintro r6 w6 ⟨v6, rfl, ho6, hb6⟩)
                all_goals
                  go_wp2
                  go_ret2
                  exact ⟨_, by rw [HSe.out]; rfl, by rw [HSe.out]; exact ho6, hb6⟩
              · have i5 : ¬ (cap : Int) = (k : Int) := by omega
                have CC := Lib.hid (cat_call w w5 HQ0.out (.slice (some ad) k cap) (.slice (some (ad.add (k * 3))) (l.length - k) (cap - k)) (l.take k) (l.drop k) e HE.out hes0 (ents_drop_any HEs.out k hkl) (fun _ _ h => by simp at h) (fun _ _ h => by simp at h) (by simp; omega))
                clear HSv hes0
                go_wp2
                go_region_with (go_at_call 67; refine CC.out.mono ?_; rintro r6 w6 ⟨v6, rfl, ho6, hb6⟩)
                all_goals
                  go_wp2
                  go_ret2
                  exact ⟨_, by rw [HSe.out]; rfl, by rw [HSe.out]; exact ho6, hb6⟩
end Go.Proofs.YtakpkaklcjgdkaaGreatDoor
