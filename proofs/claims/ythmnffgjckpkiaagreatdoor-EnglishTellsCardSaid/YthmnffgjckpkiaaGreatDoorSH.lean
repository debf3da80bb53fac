/-
  The contract of 'Over' of the laws of chapter 34: parses in memory of their own are overwritten, and nothing else.
  Whether tokens are examined.
-/
import Derived.Test.YthmnffgjckpkiaaGreatDoorSG
import Derived.Test.YthmnffgjckpkiaaGreatDoorSC
import Derived.Great.Walk
import Derived.Test.YthmnffgjckpkiaaGreatDoorGEngH
namespace Go.Proofs.YthmnffgjckpkiaaGreatDoor
open Go Go.RowKit Go.Shelf

/-- Nothing changes outside of the blocks between lo and hi, but cells of the block g from o on, up to e; the block stays what it is. -/
structure Keeps (lo hi g o e : Nat) (W W' : World) : Prop where
  os : W'.os = W.os
  tape : W'.tape = W.tape
  output : W'.output = W.output
  size : W.heap.size ≤ W'.heap.size
  same : ∀ b, b < W.heap.size → b ≠ g → (b < lo ∨ hi ≤ b) → W'.heap[b]? = W.heap[b]?
  row : ∀ cs T, W.heap[g]? = some (.cells cs T (0, 0)) → ∃ cs', W'.heap[g]? = some (.cells cs' T (0, 0)) ∧ ∀ i, (i < o ∨ e ≤ i) → cs'[i]? = cs[i]?
theorem Keeps.refl (lo hi g o e : Nat) (W : World) : Keeps lo hi g o e W W := ⟨rfl, rfl, rfl, Nat.le_refl _, fun _ _ _ _ => rfl, fun cs _ h => ⟨cs, h, fun _ _ => rfl⟩⟩
theorem Keeps.trans {lo hi g o e : Nat} {W X Y : World} (h : Keeps lo hi g o e W X) (k : Keeps lo hi g o e X Y) : Keeps lo hi g o e W Y := by
  refine ⟨k.os.trans h.os, k.tape.trans h.tape, k.output.trans h.output, Nat.le_trans h.size k.size, fun b hb hg hr => (k.same b (Nat.lt_of_lt_of_le hb h.size) hg hr).trans (h.same b hb hg hr), fun cs T hc => ?_⟩
  obtain ⟨cs', h1, h2⟩ := h.row cs T hc
  obtain ⟨cs'', k1, k2⟩ := k.row cs' T h1
  exact ⟨cs'', k1, fun i hi => (k2 i hi).trans (h2 i hi)⟩
/-- Overwriting the parts of a parse. -/
theorem Keeps.inner {lo hi g o e L H b n : Nat} {W X : World} (hb : L ≤ b ∧ b < H) (hL : lo ≤ L) (hH : H ≤ hi) (hg : g < L ∨ H ≤ g) (h : Keeps L H b 0 n W X) : Keeps lo hi g o e W X := by
  refine ⟨h.os, h.tape, h.output, h.size, fun c hc hcg hr => h.same c hc (by omega) (by omega), fun cs T hc => ?_⟩
  have hlt := (Array.getElem?_eq_some_iff.1 hc).1
  exact ⟨cs, (h.same g hlt (by omega) (by omega)).trans hc, fun _ _ => rfl⟩
theorem store4_at {W : World} {g k : Nat} {cs : Array Value} {T : TypeId} {a b c d : Value} (h : W.heap[g]? = some (.cells cs T (0, 0))) :
    ∃ cs', (store4 W g k a b c d).heap[g]? = some (.cells cs' T (0, 0)) ∧ ∀ i, (i < k ∨ k + 4 ≤ i) → cs'[i]? = cs[i]? := by
  refine ⟨_, store4_heap h, fun i hi => ?_⟩
  rw [Array.getElem?_setIfInBounds_ne (by omega), Array.getElem?_setIfInBounds_ne (by omega), Array.getElem?_setIfInBounds_ne (by omega), Array.getElem?_setIfInBounds_ne (by omega)]
theorem Keeps.store {lo hi g o e k : Nat} {W : World} {a b c d : Value} (ho : o ≤ k) (he : k + 4 ≤ e) : Keeps lo hi g o e W (store4 W g k a b c d) := by
  refine ⟨rfl, rfl, rfl, Nat.le_of_eq store4_size.symm, fun x _ hx _ => store4_other hx, fun cs T hc => ?_⟩
  obtain ⟨cs', h1, h2⟩ := store4_at (k := k) (a := a) (b := b) (c := c) (d := d) hc
  exact ⟨cs', h1, fun i hi => h2 i (by omega)⟩
/-- Parses apart from each other in a row at a place of a block. -/
structure RowO (W : World) (ts : List Tr) (vs : Nat → Value) (L H : Nat → Nat) (lo hi g o from_ : Nat) : Prop where
  row : ∃ cs T, W.heap[g]? = some (.cells cs T (0, 0))
  cells : ∀ j, from_ ≤ j → j < ts.length → CellsAt W g (o + j * 4) (vs j)
  trees : ∀ j (hj : j < ts.length), from_ ≤ j → TreeI W (vs j) ts[j] (L j) (H j)
  out : ∀ j, j < ts.length → g < L j ∨ H j ≤ g
  inn : ∀ j, j < ts.length → lo ≤ L j ∧ H j ≤ hi
  dis : ∀ i j, i < j → j < ts.length → H i ≤ L j
theorem cellsAt_row {W X : World} {g x : Nat} {cs cs' : Array Value} {T : TypeId} {v : Value} (h : CellsAt W g x v) (hc : W.heap[g]? = some (.cells cs T (0, 0))) (hc' : X.heap[g]? = some (.cells cs' T (0, 0))) (he : ∀ i, x ≤ i → i < x + 4 → cs'[i]? = cs[i]?) : CellsAt X g x v := by
  obtain ⟨x0, x1, x2, x3, hv, c0, c1, c2, c3⟩ := h
  rw [cell_rowC hc] at c0 c1 c2 c3
  refine ⟨x0, x1, x2, x3, hv, ?_, ?_, ?_, ?_⟩ <;> rw [cell_rowC hc', he _ (by omega) (by omega)] <;> assumption
/-- Behind the parts of the parse i: the others are as they were. -/
theorem RowO.behind {W X : World} {ts : List Tr} {vs : Nat → Value} {L H : Nat → Nat} {lo hi g o i b n : Nat} (h : RowO W ts vs L H lo hi g o i) (hil : i < ts.length) (hb : L i ≤ b ∧ b < H i) (hk : Keeps (L i) (H i) b 0 n W X) : RowO X ts vs L H lo hi g o (i + 1) ∧ X.heap[g]? = W.heap[g]? := by
  obtain ⟨cs, T, hr⟩ := h.row
  have hlt := (Array.getElem?_eq_some_iff.1 hr).1
  have hg := hk.same g hlt (by have := h.out i hil; omega) (by have := h.out i hil; omega)
  refine ⟨⟨⟨cs, T, hg.trans hr⟩, fun j h1 h2 => (h.cells j (by omega) h2).kept hg, fun j hj h1 => (h.trees j hj (by omega)).move (fun c c1 c2 ⟨_, _, hc⟩ => hk.same c (cell_lt hc) ?_ ?_), h.out, h.inn, h.dis⟩, hg⟩
  · have := h.dis i j (by omega) hj
    omega
  · have := h.dis i j (by omega) hj
    omega
theorem RowO.skip {W : World} {ts : List Tr} {vs : Nat → Value} {L H : Nat → Nat} {lo hi g o i : Nat} (h : RowO W ts vs L H lo hi g o i) : RowO W ts vs L H lo hi g o (i + 1) :=
  ⟨h.row, fun j h1 h2 => h.cells j (by omega) h2, fun j hj h1 => h.trees j hj (by omega), h.out, h.inn, h.dis⟩
theorem RowO.store {W : World} {ts : List Tr} {vs : Nat → Value} {L H : Nat → Nat} {lo hi g o i : Nat} {a b c d : Value} (h : RowO W ts vs L H lo hi g o (i + 1)) : RowO (store4 W g (o + i * 4) a b c d) ts vs L H lo hi g o (i + 1) := by
  obtain ⟨cs, T, hr⟩ := h.row
  obtain ⟨cs', h1, h2⟩ := store4_at (k := o + i * 4) (a := a) (b := b) (c := c) (d := d) hr
  refine ⟨⟨cs', T, h1⟩, fun j a1 a2 => cellsAt_row (h.cells j a1 a2) hr h1 (fun x x1 x2 => h2 x (by omega)), fun j hj a1 => (h.trees j hj a1).move (fun c c1 c2 _ => store4_other (by have := h.out j hj; omega)), h.out, h.inn, h.dis⟩

set_option maxRecDepth 100000 in
set_option maxHeartbeats 8000000 in
theorem over_any : ∀ (N : Nat) (ts : List Tr), sizesT ts ≤ N → ts.length ≤ 1000 → (∀ t ∈ ts, Slim t) → ∀ (w : World) (a : Option Addr) (cap g o lo hi : Nat) (vs : Nat → Value) (L H : Nat → Nat), (ts ≠ [] → a = some ⟨g, o, none⟩ ∧ RowO w ts vs L H lo hi g o 0) →
    Calls Tryz.prog 45 #[.slice a ts.length cap] w fun e w' => (∃ v, e = .returned v) ∧ (ts = [] → w' = w) ∧ (ts ≠ [] → Keeps lo hi g o (o + ts.length * 4) w w') := by
  intro N
  induction N using Nat.strongRecOn with
  | ind N ih =>
    intro ts hsz hlen hsl w a cap g o lo hi vs L H hrow
    by_cases h0 : ts = []
    · subst h0
      clear ih hsz hlen hsl hrow
      go_enter Tryz.func45, Tryz.ntmps45
      go_wp2
      go_loopw [2] (fun iv wr => iv = .int .i64 ((0 : Nat) : Int) ∧ wr = w) (fun _ _ => 0)
      case atStart => exact ⟨rfl, rfl⟩
      case round =>
        obtain ⟨rfl, rfl⟩ := hrel
        go_wp2
        exact Go.Great.bodyPost_end0 rfl rfl ⟨⟨_, rfl⟩, fun _ => rfl, fun h => absurd rfl h⟩
    · obtain ⟨rfl, hr⟩ := hrow h0
      obtain ⟨n, hn⟩ : ∃ n, n = ts.length := ⟨_, rfl⟩
      rw [← hn] at hlen ⊢
      have HN := Lib.hid hn
      have HIh := Lib.hid ih
      have HSz := Lib.hid hsz
      have HSl := Lib.hid hsl
      have HR := Lib.hid hr
      have H0 := Lib.hid h0
      clear ih hn hsz hsl hr h0 hrow
      go_enter Tryz.func45, Tryz.ntmps45
      go_wp2
      go_loopw [2] (fun iv wr => ∃ i : Nat, i ≤ n ∧ iv = .int .i64 i ∧ RowO wr ts vs L H lo hi g o i ∧ Keeps lo hi g o (o + n * 4) w wr) (fun iv _ => n - (intOf iv).toNat)
      case atStart => exact ⟨0, Nat.zero_le _, rfl, HR.out, Keeps.refl _ _ _ _ _ _⟩
      case round =>
        obtain ⟨i, hin0, rfl, hro, hke⟩ := hrel
        have HRo := Lib.hid hro
        have HKe := Lib.hid hke
        clear hke
        by_cases hlt : i < n
        · have hd : decide ((i : Int) < (n : Int)) = true := decide_eq_true (by omega)
          have hd2 : decide (i < n) = true := decide_eq_true hlt
          have yi : IntKind.i64.wrap ((i : Int) + 1) = ((i + 1 : Nat) : Int) := by rw [show (i : Int) + 1 = ((i + 1 : Nat) : Int) by omega]; exact IntWalk.i64_in _ (by omega)
          have his : i < ts.length := by rw [← HN.out]; exact hlt
          have hti := hro.trees i his (Nat.le_refl _)
          obtain ⟨x0, x1, x2, x3, hv, c0, c1, c2, c3⟩ := hro.cells i (Nat.le_refl _) his
          have hsli := HSl.out ts[i] (List.getElem_mem his)
          have hszi : sizeT ts[i] ≤ N := by
            have h1 := sizesT_take ts i his
            have h2 := sizesT_le ts (i + 1)
            have := HSz.out
            omega
          obtain ⟨t, htt⟩ : ∃ t, t = ts[i] := ⟨_, rfl⟩
          rw [← htt] at hti hsli hszi
          rw [hv] at hti
          obtain ⟨cs, T, hcs⟩ := hro.row
          have hz : ∀ k, wr.frozen? ⟨g, k, none⟩ = false := fun k => by simp [World.frozen?, hcs]
          cases hti with
          | mk r e wd sub sa scap lo' hi' b vs' L' H' hs hout hin hdis hsub =>
            cases hsli with
            | mk _ _ _ _ hl6 hss =>
              have hsub2 : sizesT sub < N := by simp only [sizeT] at hszi; omega
              obtain ⟨m, hm⟩ : ∃ m, m = sub.length := ⟨_, rfl⟩
              have hcall := HIh.out (sizesT sub) hsub2 sub (Nat.le_refl _) hl6 hss wr sa scap b 0 (L i) (H i) vs' L' H' (fun hne => by
                obtain ⟨ha, _, _, hrw, hcl⟩ := hs.resolve_left hne
                exact ⟨ha, ⟨hrw, fun j _ hj => by rw [Nat.zero_add]; exact hcl j hj, fun j hj _ => hsub j hj, hout, hin, hdis⟩⟩)
              have hbin : sub ≠ [] → L i ≤ b ∧ b < H i := fun hne => by
                obtain ⟨_, h1, h2, _⟩ := hs.resolve_left hne
                exact ⟨h1, h2⟩
              rw [← hm] at hcall c3
              have HCall := Lib.hid hcall
              have HBin := Lib.hid hbin
              have HCs := Lib.hid hcs
              have b1 : (0 : Int) ≤ (i : Int) := by omega
              have b2 : (i : Int) < (n : Int) := by omega
              have HC := Lib.hid (And.intro c0 (And.intro c1 (And.intro c2 c3)))
              have HHis := Lib.hid his
              clear hs hout hin hdis hsub hss hcall hbin htt hv hszi hsub2 hm hl6 hro his hcs
              go_wp2_with fail
              refine HCall.out.mono ?_
              rintro _ w2 ⟨⟨rv, rfl⟩, hw0, hwk⟩
              have hnext : RowO w2 ts vs L H lo hi g o (i + 1) ∧ w2.heap[g]? = wr.heap[g]? ∧ Keeps lo hi g o (o + n * 4) w w2 := by
                by_cases hne : sub = []
                · rw [hw0 hne]
                  exact ⟨HRo.out.skip, rfl, HKe.out⟩
                · have hb := HBin.out hne
                  have hk := hwk hne
                  have h1 := HRo.out.behind HHis.out hb hk
                  exact ⟨h1.1, h1.2, HKe.out.trans (Keeps.inner hb (HRo.out.inn i HHis.out).1 (HRo.out.inn i HHis.out).2 (HRo.out.out i HHis.out) hk)⟩
              have hgs := hnext.2.1
              have k0 : w2.cell? ⟨g, o + i * 4, none⟩ = some (.int .u8 r) := (World.cell?_of_block (a := ⟨g, o + i * 4, none⟩) hgs).trans HC.out.1
              have k1 : w2.cell? ⟨g, o + i * 4 + 1, none⟩ = some (.int .i64 e) := (World.cell?_of_block (a := ⟨g, o + i * 4 + 1, none⟩) hgs).trans HC.out.2.1
              have k2 : w2.cell? ⟨g, o + i * 4 + 2, none⟩ = some (.string ⟨wd.toArray⟩) := (World.cell?_of_block (a := ⟨g, o + i * 4 + 2, none⟩) hgs).trans HC.out.2.2.1
              have k3 : w2.cell? ⟨g, o + i * 4 + 3, none⟩ = some (.slice sa m scap) := (World.cell?_of_block (a := ⟨g, o + i * 4 + 3, none⟩) hgs).trans HC.out.2.2.2
              have kz : ∀ k, w2.frozen? ⟨g, k, none⟩ = false := fun k => (World.frozen?_of_block (a := ⟨g, k, none⟩) hgs).trans (hz k)
              have HNext := Lib.hid hnext
              clear hnext hgs hw0 hwk c0 c1 c2 c3 hz
              go_wp2
              go_roundw
              case rel => exact ⟨i + 1, by omega, by go_num, HNext.out.1.store, HNext.out.2.2.trans (Keeps.store (k := o + i * 4) (by omega) (by omega))⟩
              case measure => simp [intOf]; omega
        · have hd : decide ((i : Int) < (n : Int)) = false := decide_eq_false (by omega)
          have hd2 : decide (i < n) = false := decide_eq_false hlt
          clear hro
          go_wp2
          exact Go.Great.bodyPost_end0 rfl rfl ⟨⟨_, rfl⟩, fun h => absurd h H0.out, fun _ => HKe.out⟩
end Go.Proofs.YthmnffgjckpkiaaGreatDoor
namespace Go.Proofs.YthmnffgjckpkiaaGreatDoor
open Go Go.RowKit Go.Shelf

/-- Whether tokens are examined. -/
def shortS (l : List (List UInt8)) : Bool := decide (l.length ≤ 26) && l.all fun t => decide (t.length ≤ 40)
theorem short_no {l : List (List UInt8)} {k : Nat} (h : k < l.length) (hk : k = 26 ∨ 40 < l[k].length) : shortS l = false := by
  unfold shortS
  rcases hk with rfl | hk
  · rw [decide_eq_false (by omega)]; rfl
  · have : (l.all fun t => decide (t.length ≤ 40)) = false := by rw [List.all_eq_false]; exact ⟨l[k], List.getElem_mem h, by simp; omega⟩
    rw [this, Bool.and_false]
set_option maxHeartbeats 1000000 in
theorem Short34_any (w : World) (v : Value) (l : List (List UInt8)) (hl : StrSlice w v l) :
    Calls Tryz.prog 20 #[v] w fun r w' => r = .returned (.bool (shortS l)) ∧ w = w' := by
  obtain ⟨a, cap, rfl, hcap, hcm, hform⟩ := hl
  have HFo := Lib.hid hform
  obtain ⟨n, hn⟩ : ∃ n, n = l.length := ⟨_, rfl⟩
  rw [← hn] at hcap ⊢
  have HN := Lib.hid hn
  have hlm : n ≤ 9223372036854775807 := by unfold maxLen at hcm; omega
  clear hform hn
  go_enter Tryz.func20, Tryz.ntmps20
  go_wp2
  go_loop [3] (fun i => ∃ k : Nat, k ≤ n ∧ i = .int .i64 k ∧ k ≤ 26 ∧ ∀ j (h : j < l.length), j < k → l[j].length ≤ 40) (fun i => n - (intOf i).toNat)
  case atStart => exact ⟨0, Nat.zero_le _, rfl, by omega, fun j _ h => absurd h (Nat.not_lt_zero _)⟩
  case round =>
    obtain ⟨k, hk, rfl, h26, hall⟩ := hrel
    have HA := Lib.hid hall
    clear hall
    by_cases hlt : k < n
    · have hkl : k < l.length := by rw [← HN.out]; exact hlt
      obtain ⟨tb, off, rfl, hc⟩ := HFo.out.resolve_left (by intro h; rw [h] at hkl; simp at hkl)
      have c0 := hc k hkl
      obtain ⟨tk, htk⟩ : ∃ tk, tk = l[k] := ⟨_, rfl⟩
      rw [← htk] at c0
      have HTk := Lib.hid htk
      have hsz : (⟨tk.toArray⟩ : ByteArray).size = tk.length := by simp [ByteArray.size]
      clear htk hc
      by_cases h3 : k = 26
      · have hd : ((k : Int) == 26) = true := by simp; omega
        have H3 := Lib.hid h3
        clear h3
        go_wp2
        go_ret
        exact ⟨ret_bool (short_no hkl (.inl H3.out)).symm, rfl⟩
      · have hd : ((k : Int) == 26) = false := by simp; omega
        have H3 := Lib.hid h3
        clear h3
        by_cases h40 : tk.length ≤ 40
        · have hd2 : decide (40 < (tk.length : Int)) = false := decide_eq_false (by omega)
          have hd3 : decide (40 < tk.length) = false := decide_eq_false (by omega)
          have H40 := Lib.hid h40
          go_wp2
          go_round
          case rel => exact ⟨k + 1, by omega, by go_num, by have := H3.out; omega, fun j h1 h2 => by
            by_cases hj : j = k
            · subst hj; rw [← HTk.out]; exact H40.out
            · exact HA.out j h1 (by omega)⟩
          case measure => simp [intOf]; omega
        · have hd2 : decide (40 < (tk.length : Int)) = true := decide_eq_true (by omega)
          have hd3 : decide (40 < tk.length) = true := decide_eq_true (by omega)
          have H40 := Lib.hid h40
          clear h40
          go_wp2
          go_ret
          exact ⟨ret_bool (short_no hkl (.inr (by rw [← HTk.out]; have := H40.out; omega))).symm, rfl⟩
    · obtain rfl : k = n := by omega
      go_wp2
      go_ret
      refine ⟨ret_bool ?_, rfl⟩
      unfold shortS
      rw [← HN.out, decide_eq_true h26, Bool.true_and, eq_comm, List.all_eq_true]
      intro x hx
      obtain ⟨j, hj, rfl⟩ := List.getElem_of_mem hx
      exact decide_eq_true (HA.out j hj (by rw [HN.out]; exact hj))
end Go.Proofs.YthmnffgjckpkiaaGreatDoor
