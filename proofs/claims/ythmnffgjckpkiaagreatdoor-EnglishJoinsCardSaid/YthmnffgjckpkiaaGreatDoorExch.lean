/-
  The contracts of 'exchanged' and 'Short' of the laws of chapter 34.
-/
import Derived.Test.YthmnffgjckpkiaaGreatDoorSwap2
namespace Go.Proofs.YthmnffgjckpkiaaGreatDoor
open Go Go.RowKit Go.Shelf
attribute [local go_sem] Oper.semAt_some

/-- Whether tokens are examined. -/
def shortS (l : List (List UInt8)) : Bool := decide (l.length ≤ 26) && l.all fun t => decide (t.length ≤ 40)
theorem short_no {l : List (List UInt8)} {k : Nat} (h : k < l.length) (hk : k = 26 ∨ 40 < l[k].length) : shortS l = false := by
  unfold shortS
  rcases hk with rfl | hk
  · rw [decide_eq_false (by omega)]; rfl
  · have : (l.all fun t => decide (t.length ≤ 40)) = false := by rw [List.all_eq_false]; exact ⟨l[k], List.getElem_mem h, by simp; omega⟩
    rw [this, Bool.and_false]
set_option maxHeartbeats 1000000 in
theorem Short34_any (w : World) (v : Value) (l : List (List UInt8)) (hl : StrSlice w v l) :
    Calls Tryz.prog 20 #[v] w fun r w' => r = .returned (.bool (shortS l)) ∧ w = w' := by
  obtain ⟨a, cap, rfl, hcap, hcm, hform⟩ := hl
  have HFo := Lib.hid hform
  obtain ⟨n, hn⟩ : ∃ n, n = l.length := ⟨_, rfl⟩
  rw [← hn] at hcap ⊢
  have HN := Lib.hid hn
  have hlm : n ≤ 9223372036854775807 := by unfold maxLen at hcm; omega
  clear hform hn
  go_enter Tryz.func20, Tryz.ntmps20
  go_wp2
  go_loop [3] (fun i => ∃ k : Nat, k ≤ n ∧ i = .int .i64 k ∧ k ≤ 26 ∧ ∀ j (h : j < l.length), j < k → l[j].length ≤ 40) (fun i => n - (intOf i).toNat)
  case atStart => exact ⟨0, Nat.zero_le _, rfl, by omega, fun j _ h => absurd h (Nat.not_lt_zero _)⟩
  case round =>
    obtain ⟨k, hk, rfl, h26, hall⟩ := hrel
    have HA := Lib.hid hall
    clear hall
    by_cases hlt : k < n
    · have hkl : k < l.length := by rw [← HN.out]; exact hlt
      obtain ⟨tb, off, rfl, hc⟩ := HFo.out.resolve_left (by intro h; rw [h] at hkl; simp at hkl)
      have c0 := hc k hkl
      obtain ⟨tk, htk⟩ : ∃ tk, tk = l[k] := ⟨_, rfl⟩
      rw [← htk] at c0
      have HTk := Lib.hid htk
      have hsz : (⟨tk.toArray⟩ : ByteArray).size = tk.length := by simp [ByteArray.size]
      clear htk hc
      by_cases h3 : k = 26
      · have hd : ((k : Int) == 26) = true := by simp; omega
        have H3 := Lib.hid h3
        clear h3
        go_wp2
        go_ret
        exact ⟨ret_bool (short_no hkl (.inl H3.out)).symm, rfl⟩
      · have hd : ((k : Int) == 26) = false := by simp; omega
        have H3 := Lib.hid h3
        clear h3
        by_cases h40 : tk.length ≤ 40
        · have hd2 : decide (40 < (tk.length : Int)) = false := decide_eq_false (by omega)
          have hd3 : decide (40 < tk.length) = false := decide_eq_false (by omega)
          have H40 := Lib.hid h40
          go_wp2
          go_round
          case rel => exact ⟨k + 1, by omega, by go_num, by have := H3.out; omega, fun j h1 h2 => by
            by_cases hj : j = k
            · subst hj; rw [← HTk.out]; exact H40.out
            · exact HA.out j h1 (by omega)⟩
          case measure => simp [intOf]; omega
        · have hd2 : decide (40 < (tk.length : Int)) = true := decide_eq_true (by omega)
          have hd3 : decide (40 < tk.length) = true := decide_eq_true (by omega)
          have H40 := Lib.hid h40
          clear h40
          go_wp2
          go_ret
          exact ⟨ret_bool (short_no hkl (.inr (by rw [← HTk.out]; have := H40.out; omega))).symm, rfl⟩
    · obtain rfl : k = n := by omega
      go_wp2
      go_ret
      refine ⟨ret_bool ?_, rfl⟩
      unfold shortS
      rw [← HN.out, decide_eq_true h26, Bool.true_and, eq_comm, List.all_eq_true]
      intro x hx
      obtain ⟨j, hj, rfl⟩ := List.getElem_of_mem hx
      exact decide_eq_true (HA.out j hj (by rw [HN.out]; exact hj))

/-- The entry of a name is one of the two. -/
inductive NameOk : Tr → Prop
  | mk (r e : Int) (w : List UInt8) (sub : List Tr) (h : r = 6 → e = 0 ∨ e = 1) (hs : ∀ t ∈ sub, NameOk t) : NameOk (.node r e w sub)
theorem trees_names {g : Gr} (hl : g.l = exL) : ∀ (d k f t : Nat), t - f ≤ d → t ≤ g.toks.length → ∀ x ∈ treesS g k f t, NameOk x := by
  intro d
  induction d with
  | zero => intro k f t hd ht x hx; rw [treesS_none g (cntS_zero g (by omega))] at hx; cases hx
  | succ d ih =>
    intro k f t hd ht x hx
    by_cases hlt : f < t
    · by_cases hk : k = 0 ∨ 7 < k
      · rw [treesS_none g (kind_none g hk)] at hx; cases hx
      · rw [trees_steps g (by omega) (by omega) ht] at hx
        obtain ⟨s, hs, hx⟩ := List.mem_flatMap.1 hx
        have hok := steps_ok hl (k := k) hlt s hs
        unfold stepTrees at hx
        split at hx
        · cases hx
        · obtain ⟨sub, hsub, rfl⟩ := List.mem_map.1 hx
          refine .mk _ _ _ _ (fun h6 => ?_) (fun y hy => ?_)
          · have := hok.2 (by omega)
            omega
          · have h2 := hok.1.1
            have hp := hok.1.2
            generalize s.parts = ps at hsub h2 hp
            rcases ps with _ | ⟨p, _ | ⟨q, _ | ⟨r, rs⟩⟩⟩
            · simp [subsS] at hsub
              subst hsub
              cases hy
            · rw [subsS_one] at hsub
              obtain ⟨z, hz, rfl⟩ := List.mem_map.1 hsub
              obtain rfl := List.mem_singleton.1 hy
              have := hp p (by simp)
              exact ih _ _ _ (by omega) (by omega) _ hz
            · rw [subsS_two] at hsub
              obtain ⟨z, hz, hsub⟩ := List.mem_flatMap.1 hsub
              obtain ⟨u, hu, rfl⟩ := List.mem_map.1 hsub
              have h3 := hp p (by simp)
              have h4 := hp q (by simp)
              simp only [List.mem_cons, List.not_mem_nil, or_false] at hy
              rcases hy with rfl | rfl
              · exact ih _ _ _ (by omega) (by omega) _ hz
              · exact ih _ _ _ (by omega) (by omega) _ hu
            · simp at h2
    · rw [treesS_none g (cntS_zero g (by omega))] at hx; cases hx
theorem ForG.setBelow {B0 : Nat} {v : Value} {ts : List Tr} {k : Nat} {W : World} {a : Addr} (h : ForG B0 v ts k W) (ha : a.block < B0) (u : Value) : ForG B0 v ts k (W.setCell a u) := by
  obtain ⟨qs, L, H, hk, hown, ht, hin, hdis, hrow⟩ := h
  exact ⟨qs, L, H, hk, ownsRow_setCell_below hown ha u, fun j h1 h2 => (ht j h1 h2).move (fun c hc _ _ => Below.heap_setCell _ _ _ _ (by have := (hin j (by omega)).1; omega)), fun j hj => by have := hin j hj; simp; exact this, hdis, fun b hb => by have := hrow b hb; simp; exact this⟩

set_option maxRecDepth 100000 in
set_option maxHeartbeats 8000000 in
/-- **exchanged.** -/
theorem exchanged_any : ∀ (t : Tr), Slim t → NameOk t → ∀ (w : World) (v : Value), TreeV (fun _ => True) w v t →
    Calls Tryz.prog 26 #[v] w fun e w' => ∃ v', e = .returned v' ∧ TreeI w' v' (exchT t) w.heap.size w'.heap.size ∧ Below w.heap.size w w' := by
  obtain ⟨i0, hi, hz0, hz1, hz2⟩ := info_parts info_tree
  intro t
  induction t using Tr.ind with
  | h r e wd sub ih =>
    intro hslim hname w v hv
    cases hslim with
    | mk _ _ _ _ hlen hss =>
    cases hname with
    | mk _ _ _ _ hne hns =>
    cases hv with
    | mk _ _ _ _ a cap vs hs hsub =>
    obtain ⟨e', he'⟩ : ∃ e', e' = exch1 r e := ⟨_, rfl⟩
    have hex : exchT (.node r e wd sub) = .node r e' wd (sub.map exchT) := by simp only [exchT, exchTs_map]; rw [he']
    rw [hex]
    obtain ⟨n, hn⟩ : ∃ n, n = sub.length := ⟨_, rfl⟩
    rw [← hn] at hlen ⊢
    have HN := Lib.hid hn
    have HS := Lib.hid hs
    have HSub := Lib.hid hsub
    have HIh := Lib.hid ih
    have HSS0 := Lib.hid hss
    have HNS := Lib.hid hns
    have HE := Lib.hid he'
    clear hn hs hsub ih hss hns hex he'
    by_cases h6 : r = 6
    · have hd6 : (r == 6) = true := by simpa using h6
      have hee := hne h6
      have hwr : IntKind.i64.wrap (1 - e) = e' := by
        rw [HE.out]
        unfold exch1
        rw [if_pos h6]
        exact IntWalk.i64_in _ (by omega)
      clear h6 hee hne
      refine (callsIn_wide (n := 3)).1 ?_
      refine callsIn_of_wp Tryz.func26 rfl trivial ?_ rfl
      simp only [Tryz.ntmps26, List.size_toArray, List.length_cons, List.length_nil, Nat.reduceAdd, Nat.reduceSub, Array.replicate_succ, Array.replicate_zero, List.push_toArray, List.append_toArray, List.nil_append, List.cons_append]
      have hfw : ∀ f, Fence.wide.fn f := fun _ => trivial
      gi_wp2
      obtain ⟨W1, hW1⟩ : ∃ W1, W1 = ((w.alloc (.cells #[.int .u8 r, .int .i64 e, .string ⟨wd.toArray⟩, .slice a n cap] 36)).alloc (.cells #[.int .u8 0, .int .i64 0, .string ⟨#[]⟩, .slice none 0 0] 36)).alloc (.cells #[.int .u8 r, .int .i64 e', .string ⟨wd.toArray⟩, .slice none 0 0] 36) := ⟨_, rfl⟩
      have hB1 : Below w.heap.size w W1 := by rw [hW1]; exact (((Below.refl _ _).alloc (by first | (simp; done) | (simp; omega)) _).alloc (by first | (simp; done) | (simp; omega)) _).alloc (by first | (simp; done) | (simp; omega)) _
      have x1 : W1.heap[w.heap.size]? = some (.cells #[.int .u8 r, .int .i64 e, .string ⟨wd.toArray⟩, .slice a n cap] 36 (0, 0)) := by rw [hW1, Below.heap_alloc _ _ _ (by simp; omega), Below.heap_alloc _ _ _ (by simp)]; exact heap_atC rfl
      have x2 : W1.heap[w.heap.size + 1]? = some (.cells #[.int .u8 0, .int .i64 0, .string ⟨#[]⟩, .slice none 0 0] 36 (0, 0)) := by rw [hW1, Below.heap_alloc _ _ _ (by simp)]; exact heap_atC (by simp)
      have x3 : W1.heap[w.heap.size + 1 + 1]? = some (.cells #[.int .u8 r, .int .i64 e', .string ⟨wd.toArray⟩, .slice none 0 0] 36 (0, 0)) := by rw [hW1]; exact heap_atC (by simp)
      rw [← hW1]
      have HX := Lib.hid (And.intro hB1 (And.intro x1 (And.intro x2 x3)))
      clear hW1 hB1 x1 x2 x3
      gi_loopw [4] (fun q wr => ∃ (k : Nat) (v : Value), k ≤ n ∧ q = .int .i64 k ∧ wr.heap[w.heap.size + 1 + 1]? = some (.cells #[.int .u8 r, .int .i64 e', .string ⟨wd.toArray⟩, v] 36 (0, 0)) ∧ ForG (w.heap.size + 3) v (sub.map exchT) k wr ∧
        wr.heap[w.heap.size]? = some (.cells #[.int .u8 r, .int .i64 e, .string ⟨wd.toArray⟩, .slice a n cap] 36 (0, 0)) ∧ wr.heap[w.heap.size + 1]? = some (.cells #[.int .u8 0, .int .i64 0, .string ⟨#[]⟩, .slice none 0 0] 36 (0, 0)) ∧ Below w.heap.size w wr ∧ w.heap.size + 3 ≤ wr.heap.size) (fun q _ => n - (intOf q).toNat)
      case atStart => exact ⟨0, _, Nat.zero_le _, rfl, HX.out.2.2.2, ForG.nil _ _ _, HX.out.2.1, HX.out.2.2.1, HX.out.1, by have := (Array.getElem?_eq_some_iff.1 HX.out.2.2.2).1; omega⟩
      case round =>
        obtain ⟨k, v0, hk, rfl, x3, hF, x1, x2, hBw, hsz3⟩ := hrel
        obtain ⟨va, vc, hv0⟩ : ∃ va vc, v0 = .slice va k vc := by obtain ⟨_, _, _, _, hown, _⟩ := hF; exact owns_form hown
        subst hv0
        have c13 : wr.cell? ⟨w.heap.size, 3, none⟩ = some (.slice a n cap) := (cell_rowC x1 3).trans rfl
        have c33 : wr.cell? ⟨w.heap.size + 1 + 1, 3, none⟩ = some (.slice va k vc) := (cell_rowC x3 3).trans rfl
        have HF := Lib.hid hF
        have HX1 := Lib.hid x1
        have HX2 := Lib.hid x2
        have HX3 := Lib.hid x3
        have HB := Lib.hid hBw
        have HC33 := Lib.hid c33
        have HC13 := Lib.hid c13
        clear hF x1 x2 x3 hBw c33
        by_cases hlt : k < n
        · have hd : decide ((k : Int) < (n : Int)) = true := decide_eq_true (by omega)
          have hkk : (k : Int) < (n : Int) := by omega
          have hsb : sub ≠ [] := by intro h; have := HN.out; rw [h] at this; simp at this; omega
          obtain ⟨b, off, rfl, _, hc⟩ := HS.out.resolve_left hsb
          have hkl : k < sub.length := by rw [← HN.out]; exact hlt
          have htv := HSub.out k hkl
          obtain ⟨q, hq⟩ := htv.form
          obtain ⟨y0, y1, y2, y3, hy, g0, g1, g2, g3⟩ := hc k hkl
          rw [hq] at hy htv
          unfold TV.val at hy
          simp only [Value.agg.injEq, Array.mk.injEq, List.cons.injEq, and_true] at hy
          obtain ⟨rfl, rfl, rfl, rfl⟩ := hy
          have HTv := Lib.hid htv
          have HG := Lib.hid (And.intro (cell_kept' HB.out g0) (And.intro (cell_kept' HB.out g1) (And.intro (cell_kept' HB.out g2) (cell_kept' HB.out g3))))
          clear htv hq hc g0 g1 g2 g3
          obtain ⟨S, hS⟩ : ∃ S : World → Prop, S = fun V => Below wr.heap.size wr V := ⟨_, rfl⟩
          have f0 : ∀ V, S V → V.cell? ⟨w.heap.size + 1 + 1, 3, none⟩ = some (.slice va k vc) := fun V h => by rw [hS] at h; exact cell_kept' h HC33.out
          have f1 : ∀ V, S V → V.cell? ⟨w.heap.size, 3, none⟩ = some (.slice (some ⟨b, off, none⟩) n cap) := fun V h => by rw [hS] at h; exact cell_kept' h HC13.out
          have f2 : ∀ V, S V → V.cell? ⟨b, off + k * 4, none⟩ = some (.int .u8 q.r) ∧ V.cell? ⟨b, off + k * 4 + 1, none⟩ = some (.int .i64 q.e) ∧ V.cell? ⟨b, off + k * 4 + 2, none⟩ = some (.string q.w) ∧ V.cell? ⟨b, off + k * 4 + 3, none⟩ = some (.slice q.a q.n q.c) := fun V h => by rw [hS] at h; exact ⟨cell_kept' h HG.out.1, cell_kept' h HG.out.2.1, cell_kept' h HG.out.2.2.1, cell_kept' h HG.out.2.2.2⟩
          have hSd : S wr.drew := by rw [hS]; exact (Below.refl _ _).drew
          have HSS := Lib.hid hS
          clear hS
          gi_wp2
          refine regionM S 9 (by kernel_rfl) hSd (fun hpo hS0 => ?_)
          refine takeM (i := 0) 26 (.pointer (some ⟨w.heap.size + 1 + 1, 3, none⟩)) hpo rfl (by kernel_rfl) (fun _ _ _ h => h) rfl (by rfl) (fun V hX => (by go_simp)) (fun _ => rfl) hS0 (fun hS1 => ?_)
          simp only [List.setIfInBounds_toArray, List.set_cons_zero, List.set_cons_succ]
          refine takeM (i := 1) 27 (.slice va k vc) hpo rfl (by kernel_rfl) (fun _ _ _ h => h) rfl (by rfl) (fun V hX => (by have g0 := f0 V hX; go_simp)) (fun _ => rfl) hS1 (fun hS2 => ?_)
          simp only [List.setIfInBounds_toArray, List.set_cons_zero, List.set_cons_succ]
          refine takeM (i := 2) 28 (.pointer (some ⟨w.heap.size, 3, none⟩)) hpo rfl (by kernel_rfl) (fun _ _ _ h => h) rfl (by rfl) (fun V hX => (by go_simp)) (fun _ => rfl) hS2 (fun hS3 => ?_)
          simp only [List.setIfInBounds_toArray, List.set_cons_zero, List.set_cons_succ]
          refine takeM (i := 3) 29 (.slice (some ⟨b, off, none⟩) n cap) hpo rfl (by kernel_rfl) (fun _ _ _ h => h) rfl (by rfl) (fun V hX => (by have g0 := f1 V hX; go_simp)) (fun _ => rfl) hS3 (fun hS4 => ?_)
          simp only [List.setIfInBounds_toArray, List.set_cons_zero, List.set_cons_succ]
          refine takeM (i := 4) 30 (.int .i64 k) hpo rfl (by kernel_rfl) (fun _ _ _ h => h) rfl (by rfl) (fun V hX => (by go_simp)) (fun _ => rfl) hS4 (fun hS5 => ?_)
          simp only [List.setIfInBounds_toArray, List.set_cons_zero, List.set_cons_succ]
          refine takeM (i := 5) 31 (.pointer (some ⟨b, off + k * 4, none⟩)) hpo rfl (by kernel_rfl) (fun _ _ _ h => h) rfl (by rfl) (fun V hX => (by go_simp; first | done | (simp only [if_pos hkk]; try go_simp))) (fun _ => rfl) hS5 (fun hS6 => ?_)
          simp only [List.setIfInBounds_toArray, List.set_cons_zero, List.set_cons_succ]
          refine takeM (i := 6) 32 (.agg #[.int .u8 q.r, .int .i64 q.e, .string q.w, .slice q.a q.n q.c]) hpo rfl (by kernel_rfl) (fun _ _ _ h => h) rfl (by rfl) (fun V hX => (by obtain ⟨g0, g1, g2, g3⟩ := f2 V hX; go_simp)) (fun _ => rfl) hS6 (fun hS7 => ?_)
          simp only [List.setIfInBounds_toArray, List.set_cons_zero, List.set_cons_succ]
          refine oneM (i := 7) rfl (by kernel_rfl) (by rfl) (fun K hK => ?_)
          go_simp
          refine callsIn_wide.2 ((HIh.out sub[k] (List.getElem_mem hkl) (HSS0.out _ (List.getElem_mem hkl)) (HNS.out _ (List.getElem_mem hkl)) wr.drew q.val (TreeV.move (W := w) (W' := wr.drew) (ok' := fun _ => True) (fun c _ h => ⟨trivial, by obtain ⟨_, _, h⟩ := h; exact HB.out.block c (cell_lt h)⟩) HTv.out)).mono ?_)
          rintro _ A1 ⟨v', rfl, hq, hbA⟩
          obtain ⟨p, rfl⟩ := hq.form
          have hbA7 : Below wr.heap.size wr A1 := ((Below.refl _ wr).drew).trans (hbA.mono (Nat.le_refl _))
          refine hK _ _ (fun _ => by rw [HSS.out]; exact hbA7) (fun _ => ?_)
          clear hK K
          refine oneM (i := 8) rfl (by kernel_rfl) (by rfl) (fun K hK => ?_)
          simp only [TV.val]
          go_simp
          refine hK _ _ (fun _ => by rw [HSS.out]; exact hbA7.trans (((Below.refl _ A1).alloc (Nat.le_refl _) _).mono hbA7.size)) (fun _ => ?_)
          clear hK K
          have hFr := HF.out.below ((Below.refl _ wr).drew)
          obtain ⟨qs, L, H, hqk, hown, hti, hin, hdis, hrow⟩ := hFr
          have hownA := ownsRow_below hown hbA
          have hszA : w.heap.size + 3 ≤ A1.heap.size := Nat.le_trans hsz3 hbA7.size
          have HQ := Lib.hid hq
          have HBA := Lib.hid hbA
          refine oneM (i := 9) rfl (by kernel_rfl) (by rfl) (fun K hK => ?_)
          refine wpIn_append_lies (.tmp 27) (.tmp 34) 25 rfl (w.heap.size + 3) 36 i0 (.agg #[.int .u8 0, .int .i64 0, .string ByteArray.empty, .slice none 0 0]) 4 56 Tryz.underlying25 hi hz0 hz1 hz2 rfl (by decide) (.slice va k vc) k _ rfl (hownA.alloc _) ⟨_, 0, none⟩ 1 1 p.cells rfl rfl (news_at (cs := #[.int .u8 p.r, .int .i64 p.e, .string p.w, .slice p.a p.n p.c]) (t := 36) (fr := (0, 0)) (World.alloc_heap_new A1 _)) (by simp [TV.cells, Value.oneCell']) (by decide) (by unfold maxLen; omega) (by omega) (by simp; omega) (A1.heap.size + 1) (by simp) ?_
          intro g cap4 w4 hown4 hgrow hg hglt
          have hkm : k < (sub.map exchT).length := by rw [List.length_map]; exact hkl
          have hstep := ForG.step (ts := sub.map exchT) hqk hkm hti hin hdis hrow hbA hsz3 (by rw [List.getElem_map]; exact hq) hown4 hgrow hg hglt
          have hn3 : (Value.slice va k vc).ownBlock ≠ some (w.heap.size + 1 + 1) := fun h => by
            rcases hown.2 with ⟨h0, _⟩ | ⟨_, _, _, h0, h1, _⟩
            · rw [h0] at h; simp [Value.ownBlock] at h
            · rw [h0] at h; simp [Value.ownBlock] at h; omega
          have hn12 : ∀ c, c < w.heap.size + 3 → (Value.slice va k vc).ownBlock ≠ some c := fun c hc h => by
            rcases hown.2 with ⟨h0, _⟩ | ⟨_, _, _, h0, h1, _⟩
            · rw [h0] at h; simp [Value.ownBlock] at h
            · rw [h0] at h; simp [Value.ownBlock] at h; omega
          have hold : ∀ c, c < w.heap.size + 3 → w4.heap[c]? = wr.heap[c]? := fun c hc => (hgrow.block c (by simp; omega) (fun e => hn12 c hc e.symm)).trans ((Below.heap_alloc _ _ _ (by omega)).trans (hbA7.block c (by omega)))
          have y3 : w4.heap[w.heap.size + 1 + 1]? = some (.cells #[.int .u8 r, .int .i64 e', .string ⟨wd.toArray⟩, .slice va k vc] 36 (0, 0)) := (hold _ (by omega)).trans HX3.out
          have hB4 : Below w.heap.size w w4 := ((HB.out.trans (hbA7.mono HB.out.size)).alloc (by omega) _).grown hgrow (by simp; omega) (fun c hc => by
            rcases hown.2 with ⟨h0, _⟩ | ⟨_, _, _, h0, h1, _⟩
            · rw [h0] at hc; simp [Value.ownBlock] at hc
            · rw [h0] at hc; simp [Value.ownBlock] at hc; omega)
          have hsz4 : w.heap.size + 3 ≤ w4.heap.size := by have := hgrow.size; simp at this; omega
          have y1 := (hold w.heap.size (by omega)).trans HX1.out
          have y2 := (hold (w.heap.size + 1) (by omega)).trans HX2.out
          have HStep := Lib.hid hstep
          have HY1 := Lib.hid y1
          have HY2 := Lib.hid y2
          have HY3 := Lib.hid y3
          have HB4 := Lib.hid hB4
          have hS9 : (9 : Nat) < 9 → S w4 := fun h => absurd h (by decide)
          clear hown4 hgrow hg hglt hstep hn12 hold hB4 y1 y2 y3 hownA hown hti hin hdis hrow hqk
          refine hK _ _ (fun h => absurd h (by decide)) (fun _ => ?_)
          clear hK K
          refine oneM (i := 10) rfl (by kernel_rfl) (by rfl) (fun K hK => ?_)
          go_simp
          refine hK _ _ (fun h => absurd h (by decide)) (fun _ => ?_)
          clear hK K
          refine oneM (i := 11) rfl (by kernel_rfl) (by rfl) (fun K hK => ?_)
          have d3 : w4.cell? ⟨w.heap.size + 1 + 1, 3, none⟩ = some (.slice va k vc) := (cell_rowC HY3.out 3).trans rfl
          have z3 : w4.frozen? ⟨w.heap.size + 1 + 1, 3, none⟩ = false := by simp [World.frozen?, HY3.out]
          go_simp
          refine hK _ _ (fun h => absurd h (by decide)) (fun _ => ?_)
          clear hK K
          refine doneM (by kernel_rfl) ?_ _
          gi_wp2
          go_roundw
          case rel => exact ⟨k + 1, _, by omega, by go_num, (heap_setCell_same _ _ 3 _ _ _ HY3.out).trans rfl, HStep.out.setBelow (by first | (simp; done) | (simp; omega)) _, (Below.heap_setCell _ _ _ _ (by first | (simp; done) | (simp; omega))).trans HY1.out, (Below.heap_setCell _ _ _ _ (by first | (simp; done) | (simp; omega))).trans HY2.out, HB4.out.setCell (by first | (simp; done) | (simp; omega)) _, by first | (simp; done) | (simp; omega)⟩
          case measure => simp [intOf]; omega
        · have hd : decide ((k : Int) < (n : Int)) = false := decide_eq_false (by omega)
          obtain rfl : k = n := by omega
          have hkk : ¬ (k : Int) < (k : Int) := by omega
          have c30 : wr.cell? ⟨w.heap.size + 1 + 1, 0, none⟩ = some (.int .u8 r) := (cell_rowC HX3.out 0).trans rfl
          have c31 : wr.cell? ⟨w.heap.size + 1 + 1, 1, none⟩ = some (.int .i64 e') := (cell_rowC HX3.out 1).trans rfl
          have c32 : wr.cell? ⟨w.heap.size + 1 + 1, 2, none⟩ = some (.string ⟨wd.toArray⟩) := (cell_rowC HX3.out 2).trans rfl
          have c33 : wr.cell? ⟨w.heap.size + 1 + 1, 3, none⟩ = some (.slice va k vc) := (cell_rowC HX3.out 3).trans rfl
          have e0 : wr.cell? ⟨w.heap.size + 1, 0, none⟩ = some (.int .u8 0) := (cell_rowC HX2.out 0).trans rfl
          have e1 : wr.cell? ⟨w.heap.size + 1, 1, none⟩ = some (.int .i64 0) := (cell_rowC HX2.out 1).trans rfl
          have e2 : wr.cell? ⟨w.heap.size + 1, 2, none⟩ = some (.string ⟨#[]⟩) := (cell_rowC HX2.out 2).trans rfl
          have e3 : wr.cell? ⟨w.heap.size + 1, 3, none⟩ = some (.slice none 0 0) := (cell_rowC HX2.out 3).trans rfl
          have y0 : wr.frozen? ⟨w.heap.size + 1, 0, none⟩ = false := by simp [World.frozen?, HX2.out]
          have y1 : wr.frozen? ⟨w.heap.size + 1, 1, none⟩ = false := by simp [World.frozen?, HX2.out]
          have y2 : wr.frozen? ⟨w.heap.size + 1, 2, none⟩ = false := by simp [World.frozen?, HX2.out]
          have y3 : wr.frozen? ⟨w.heap.size + 1, 3, none⟩ = false := by simp [World.frozen?, HX2.out]
          gi_wp2
          obtain ⟨W6, hW6⟩ : ∃ W6, W6 = (((wr.setCell ⟨w.heap.size + 1, 0, none⟩ (.int .u8 r)).setCell ⟨w.heap.size + 1, 1, none⟩ (.int .i64 e')).setCell ⟨w.heap.size + 1, 2, none⟩ (.string ⟨wd.toArray⟩)).setCell ⟨w.heap.size + 1, 3, none⟩ (.slice va k vc) := ⟨_, rfl⟩
          have x6 : W6.heap[w.heap.size + 1]? = some (.cells #[.int .u8 r, .int .i64 e', .string ⟨wd.toArray⟩, .slice va k vc] 36 (0, 0)) := by
            have h1 := heap_setCell_same _ _ 0 _ _ (.int .u8 r) HX2.out
            have h2 := heap_setCell_same _ _ 1 _ _ (.int .i64 e') h1
            have h3 := heap_setCell_same _ _ 2 _ _ (.string ⟨wd.toArray⟩) h2
            have h4 := heap_setCell_same _ _ 3 _ _ (.slice va k vc) h3
            rw [hW6, h4]
            rfl
          have g0 : W6.cell? ⟨w.heap.size + 1, 0, none⟩ = some (.int .u8 r) := (cell_rowC x6 0).trans rfl
          have g1 : W6.cell? ⟨w.heap.size + 1, 1, none⟩ = some (.int .i64 e') := (cell_rowC x6 1).trans rfl
          have g2 : W6.cell? ⟨w.heap.size + 1, 2, none⟩ = some (.string ⟨wd.toArray⟩) := (cell_rowC x6 2).trans rfl
          have g3 : W6.cell? ⟨w.heap.size + 1, 3, none⟩ = some (.slice va k vc) := (cell_rowC x6 3).trans rfl
          have hsz6 : W6.heap.size = wr.heap.size := by rw [hW6]; simp
          have hold : ∀ c, w.heap.size + 3 ≤ c → c < wr.heap.size → W6.heap[c]? = wr.heap[c]? := fun c h1 h2 => by
            rw [hW6, Below.heap_setCell _ _ _ _ (by simp; omega), Below.heap_setCell _ _ _ _ (by simp; omega), Below.heap_setCell _ _ _ _ (by simp; omega), Below.heap_setCell _ _ _ _ (by simp; omega)]
          have hB6 : Below w.heap.size w W6 := by
            rw [hW6]
            exact (((HB.out.setCell (by simp) _).setCell (by simp) _).setCell (by simp) _).setCell (by simp) _
          rw [← hW6]
          have hfin : TreeI W6 (.agg #[.int .u8 r, .int .i64 e', .string ⟨wd.toArray⟩, .slice va k vc]) (.node r e' wd (sub.map exchT)) w.heap.size W6.heap.size := by
            have hF := HF.out
            have hk : k = (sub.map exchT).length := by rw [List.length_map]; exact HN.out
            subst hk
            exact hF.tree (by omega) (by omega) hold r e' wd
          refine bodyPost_ret (v := .agg #[.int .u8 r, .int .i64 e', .string ⟨wd.toArray⟩, .slice va k vc]) (by simp [results, Tryz.results26, go_sem, g0, g1, g2, g3]) rfl ⟨_, rfl, hfin, hB6⟩
    · have hd6 : (r == 6) = false := by simpa using h6
      have hwr : e' = e := by
        rw [HE.out]
        unfold exch1
        rw [if_neg h6]
      subst hwr
      clear h6 hne
      refine (callsIn_wide (n := 3)).1 ?_
      refine callsIn_of_wp Tryz.func26 rfl trivial ?_ rfl
      simp only [Tryz.ntmps26, List.size_toArray, List.length_cons, List.length_nil, Nat.reduceAdd, Nat.reduceSub, Array.replicate_succ, Array.replicate_zero, List.push_toArray, List.append_toArray, List.nil_append, List.cons_append]
      have hfw : ∀ f, Fence.wide.fn f := fun _ => trivial
      gi_wp2
      obtain ⟨W1, hW1⟩ : ∃ W1, W1 = ((w.alloc (.cells #[.int .u8 r, .int .i64 e', .string ⟨wd.toArray⟩, .slice a n cap] 36)).alloc (.cells #[.int .u8 0, .int .i64 0, .string ⟨#[]⟩, .slice none 0 0] 36)).alloc (.cells #[.int .u8 r, .int .i64 e', .string ⟨wd.toArray⟩, .slice none 0 0] 36) := ⟨_, rfl⟩
      have hB1 : Below w.heap.size w W1 := by rw [hW1]; exact (((Below.refl _ _).alloc (by first | (simp; done) | (simp; omega)) _).alloc (by first | (simp; done) | (simp; omega)) _).alloc (by first | (simp; done) | (simp; omega)) _
      have x1 : W1.heap[w.heap.size]? = some (.cells #[.int .u8 r, .int .i64 e', .string ⟨wd.toArray⟩, .slice a n cap] 36 (0, 0)) := by rw [hW1, Below.heap_alloc _ _ _ (by simp; omega), Below.heap_alloc _ _ _ (by simp)]; exact heap_atC rfl
      have x2 : W1.heap[w.heap.size + 1]? = some (.cells #[.int .u8 0, .int .i64 0, .string ⟨#[]⟩, .slice none 0 0] 36 (0, 0)) := by rw [hW1, Below.heap_alloc _ _ _ (by simp)]; exact heap_atC (by simp)
      have x3 : W1.heap[w.heap.size + 1 + 1]? = some (.cells #[.int .u8 r, .int .i64 e', .string ⟨wd.toArray⟩, .slice none 0 0] 36 (0, 0)) := by rw [hW1]; exact heap_atC (by simp)
      rw [← hW1]
      have HX := Lib.hid (And.intro hB1 (And.intro x1 (And.intro x2 x3)))
      clear hW1 hB1 x1 x2 x3
      gi_loopw [4] (fun q wr => ∃ (k : Nat) (v : Value), k ≤ n ∧ q = .int .i64 k ∧ wr.heap[w.heap.size + 1 + 1]? = some (.cells #[.int .u8 r, .int .i64 e', .string ⟨wd.toArray⟩, v] 36 (0, 0)) ∧ ForG (w.heap.size + 3) v (sub.map exchT) k wr ∧
        wr.heap[w.heap.size]? = some (.cells #[.int .u8 r, .int .i64 e', .string ⟨wd.toArray⟩, .slice a n cap] 36 (0, 0)) ∧ wr.heap[w.heap.size + 1]? = some (.cells #[.int .u8 0, .int .i64 0, .string ⟨#[]⟩, .slice none 0 0] 36 (0, 0)) ∧ Below w.heap.size w wr ∧ w.heap.size + 3 ≤ wr.heap.size) (fun q _ => n - (intOf q).toNat)
      case atStart => exact ⟨0, _, Nat.zero_le _, rfl, HX.out.2.2.2, ForG.nil _ _ _, HX.out.2.1, HX.out.2.2.1, HX.out.1, by have := (Array.getElem?_eq_some_iff.1 HX.out.2.2.2).1; omega⟩
      case round =>
        obtain ⟨k, v0, hk, rfl, x3, hF, x1, x2, hBw, hsz3⟩ := hrel
        obtain ⟨va, vc, hv0⟩ : ∃ va vc, v0 = .slice va k vc := by obtain ⟨_, _, _, _, hown, _⟩ := hF; exact owns_form hown
        subst hv0
        have c13 : wr.cell? ⟨w.heap.size, 3, none⟩ = some (.slice a n cap) := (cell_rowC x1 3).trans rfl
        have c33 : wr.cell? ⟨w.heap.size + 1 + 1, 3, none⟩ = some (.slice va k vc) := (cell_rowC x3 3).trans rfl
        have HF := Lib.hid hF
        have HX1 := Lib.hid x1
        have HX2 := Lib.hid x2
        have HX3 := Lib.hid x3
        have HB := Lib.hid hBw
        have HC33 := Lib.hid c33
        have HC13 := Lib.hid c13
        clear hF x1 x2 x3 hBw c33
        by_cases hlt : k < n
        · have hd : decide ((k : Int) < (n : Int)) = true := decide_eq_true (by omega)
          have hkk : (k : Int) < (n : Int) := by omega
          have hsb : sub ≠ [] := by intro h; have := HN.out; rw [h] at this; simp at this; omega
          obtain ⟨b, off, rfl, _, hc⟩ := HS.out.resolve_left hsb
          have hkl : k < sub.length := by rw [← HN.out]; exact hlt
          have htv := HSub.out k hkl
          obtain ⟨q, hq⟩ := htv.form
          obtain ⟨y0, y1, y2, y3, hy, g0, g1, g2, g3⟩ := hc k hkl
          rw [hq] at hy htv
          unfold TV.val at hy
          simp only [Value.agg.injEq, Array.mk.injEq, List.cons.injEq, and_true] at hy
          obtain ⟨rfl, rfl, rfl, rfl⟩ := hy
          have HTv := Lib.hid htv
          have HG := Lib.hid (And.intro (cell_kept' HB.out g0) (And.intro (cell_kept' HB.out g1) (And.intro (cell_kept' HB.out g2) (cell_kept' HB.out g3))))
          clear htv hq hc g0 g1 g2 g3
          obtain ⟨S, hS⟩ : ∃ S : World → Prop, S = fun V => Below wr.heap.size wr V := ⟨_, rfl⟩
          have f0 : ∀ V, S V → V.cell? ⟨w.heap.size + 1 + 1, 3, none⟩ = some (.slice va k vc) := fun V h => by rw [hS] at h; exact cell_kept' h HC33.out
          have f1 : ∀ V, S V → V.cell? ⟨w.heap.size, 3, none⟩ = some (.slice (some ⟨b, off, none⟩) n cap) := fun V h => by rw [hS] at h; exact cell_kept' h HC13.out
          have f2 : ∀ V, S V → V.cell? ⟨b, off + k * 4, none⟩ = some (.int .u8 q.r) ∧ V.cell? ⟨b, off + k * 4 + 1, none⟩ = some (.int .i64 q.e) ∧ V.cell? ⟨b, off + k * 4 + 2, none⟩ = some (.string q.w) ∧ V.cell? ⟨b, off + k * 4 + 3, none⟩ = some (.slice q.a q.n q.c) := fun V h => by rw [hS] at h; exact ⟨cell_kept' h HG.out.1, cell_kept' h HG.out.2.1, cell_kept' h HG.out.2.2.1, cell_kept' h HG.out.2.2.2⟩
          have hSd : S wr.drew := by rw [hS]; exact (Below.refl _ _).drew
          have HSS := Lib.hid hS
          clear hS
          gi_wp2
          refine regionM S 9 (by kernel_rfl) hSd (fun hpo hS0 => ?_)
          refine takeM (i := 0) 26 (.pointer (some ⟨w.heap.size + 1 + 1, 3, none⟩)) hpo rfl (by kernel_rfl) (fun _ _ _ h => h) rfl (by rfl) (fun V hX => (by go_simp)) (fun _ => rfl) hS0 (fun hS1 => ?_)
          simp only [List.setIfInBounds_toArray, List.set_cons_zero, List.set_cons_succ]
          refine takeM (i := 1) 27 (.slice va k vc) hpo rfl (by kernel_rfl) (fun _ _ _ h => h) rfl (by rfl) (fun V hX => (by have g0 := f0 V hX; go_simp)) (fun _ => rfl) hS1 (fun hS2 => ?_)
          simp only [List.setIfInBounds_toArray, List.set_cons_zero, List.set_cons_succ]
          refine takeM (i := 2) 28 (.pointer (some ⟨w.heap.size, 3, none⟩)) hpo rfl (by kernel_rfl) (fun _ _ _ h => h) rfl (by rfl) (fun V hX => (by go_simp)) (fun _ => rfl) hS2 (fun hS3 => ?_)
          simp only [List.setIfInBounds_toArray, List.set_cons_zero, List.set_cons_succ]
          refine takeM (i := 3) 29 (.slice (some ⟨b, off, none⟩) n cap) hpo rfl (by kernel_rfl) (fun _ _ _ h => h) rfl (by rfl) (fun V hX => (by have g0 := f1 V hX; go_simp)) (fun _ => rfl) hS3 (fun hS4 => ?_)
          simp only [List.setIfInBounds_toArray, List.set_cons_zero, List.set_cons_succ]
          refine takeM (i := 4) 30 (.int .i64 k) hpo rfl (by kernel_rfl) (fun _ _ _ h => h) rfl (by rfl) (fun V hX => (by go_simp)) (fun _ => rfl) hS4 (fun hS5 => ?_)
          simp only [List.setIfInBounds_toArray, List.set_cons_zero, List.set_cons_succ]
          refine takeM (i := 5) 31 (.pointer (some ⟨b, off + k * 4, none⟩)) hpo rfl (by kernel_rfl) (fun _ _ _ h => h) rfl (by rfl) (fun V hX => (by go_simp; first | done | (simp only [if_pos hkk]; try go_simp))) (fun _ => rfl) hS5 (fun hS6 => ?_)
          simp only [List.setIfInBounds_toArray, List.set_cons_zero, List.set_cons_succ]
          refine takeM (i := 6) 32 (.agg #[.int .u8 q.r, .int .i64 q.e, .string q.w, .slice q.a q.n q.c]) hpo rfl (by kernel_rfl) (fun _ _ _ h => h) rfl (by rfl) (fun V hX => (by obtain ⟨g0, g1, g2, g3⟩ := f2 V hX; go_simp)) (fun _ => rfl) hS6 (fun hS7 => ?_)
          simp only [List.setIfInBounds_toArray, List.set_cons_zero, List.set_cons_succ]
          refine oneM (i := 7) rfl (by kernel_rfl) (by rfl) (fun K hK => ?_)
          go_simp
          refine callsIn_wide.2 ((HIh.out sub[k] (List.getElem_mem hkl) (HSS0.out _ (List.getElem_mem hkl)) (HNS.out _ (List.getElem_mem hkl)) wr.drew q.val (TreeV.move (W := w) (W' := wr.drew) (ok' := fun _ => True) (fun c _ h => ⟨trivial, by obtain ⟨_, _, h⟩ := h; exact HB.out.block c (cell_lt h)⟩) HTv.out)).mono ?_)
          rintro _ A1 ⟨v', rfl, hq, hbA⟩
          obtain ⟨p, rfl⟩ := hq.form
          have hbA7 : Below wr.heap.size wr A1 := ((Below.refl _ wr).drew).trans (hbA.mono (Nat.le_refl _))
          refine hK _ _ (fun _ => by rw [HSS.out]; exact hbA7) (fun _ => ?_)
          clear hK K
          refine oneM (i := 8) rfl (by kernel_rfl) (by rfl) (fun K hK => ?_)
          simp only [TV.val]
          go_simp
          refine hK _ _ (fun _ => by rw [HSS.out]; exact hbA7.trans (((Below.refl _ A1).alloc (Nat.le_refl _) _).mono hbA7.size)) (fun _ => ?_)
          clear hK K
          have hFr := HF.out.below ((Below.refl _ wr).drew)
          obtain ⟨qs, L, H, hqk, hown, hti, hin, hdis, hrow⟩ := hFr
          have hownA := ownsRow_below hown hbA
          have hszA : w.heap.size + 3 ≤ A1.heap.size := Nat.le_trans hsz3 hbA7.size
          have HQ := Lib.hid hq
          have HBA := Lib.hid hbA
          refine oneM (i := 9) rfl (by kernel_rfl) (by rfl) (fun K hK => ?_)
          refine wpIn_append_lies (.tmp 27) (.tmp 34) 25 rfl (w.heap.size + 3) 36 i0 (.agg #[.int .u8 0, .int .i64 0, .string ByteArray.empty, .slice none 0 0]) 4 56 Tryz.underlying25 hi hz0 hz1 hz2 rfl (by decide) (.slice va k vc) k _ rfl (hownA.alloc _) ⟨_, 0, none⟩ 1 1 p.cells rfl rfl (news_at (cs := #[.int .u8 p.r, .int .i64 p.e, .string p.w, .slice p.a p.n p.c]) (t := 36) (fr := (0, 0)) (World.alloc_heap_new A1 _)) (by simp [TV.cells, Value.oneCell']) (by decide) (by unfold maxLen; omega) (by omega) (by simp; omega) (A1.heap.size + 1) (by simp) ?_
          intro g cap4 w4 hown4 hgrow hg hglt
          have hkm : k < (sub.map exchT).length := by rw [List.length_map]; exact hkl
          have hstep := ForG.step (ts := sub.map exchT) hqk hkm hti hin hdis hrow hbA hsz3 (by rw [List.getElem_map]; exact hq) hown4 hgrow hg hglt
          have hn3 : (Value.slice va k vc).ownBlock ≠ some (w.heap.size + 1 + 1) := fun h => by
            rcases hown.2 with ⟨h0, _⟩ | ⟨_, _, _, h0, h1, _⟩
            · rw [h0] at h; simp [Value.ownBlock] at h
            · rw [h0] at h; simp [Value.ownBlock] at h; omega
          have hn12 : ∀ c, c < w.heap.size + 3 → (Value.slice va k vc).ownBlock ≠ some c := fun c hc h => by
            rcases hown.2 with ⟨h0, _⟩ | ⟨_, _, _, h0, h1, _⟩
            · rw [h0] at h; simp [Value.ownBlock] at h
            · rw [h0] at h; simp [Value.ownBlock] at h; omega
          have hold : ∀ c, c < w.heap.size + 3 → w4.heap[c]? = wr.heap[c]? := fun c hc => (hgrow.block c (by simp; omega) (fun e => hn12 c hc e.symm)).trans ((Below.heap_alloc _ _ _ (by omega)).trans (hbA7.block c (by omega)))
          have y3 : w4.heap[w.heap.size + 1 + 1]? = some (.cells #[.int .u8 r, .int .i64 e', .string ⟨wd.toArray⟩, .slice va k vc] 36 (0, 0)) := (hold _ (by omega)).trans HX3.out
          have hB4 : Below w.heap.size w w4 := ((HB.out.trans (hbA7.mono HB.out.size)).alloc (by omega) _).grown hgrow (by simp; omega) (fun c hc => by
            rcases hown.2 with ⟨h0, _⟩ | ⟨_, _, _, h0, h1, _⟩
            · rw [h0] at hc; simp [Value.ownBlock] at hc
            · rw [h0] at hc; simp [Value.ownBlock] at hc; omega)
          have hsz4 : w.heap.size + 3 ≤ w4.heap.size := by have := hgrow.size; simp at this; omega
          have y1 := (hold w.heap.size (by omega)).trans HX1.out
          have y2 := (hold (w.heap.size + 1) (by omega)).trans HX2.out
          have HStep := Lib.hid hstep
          have HY1 := Lib.hid y1
          have HY2 := Lib.hid y2
          have HY3 := Lib.hid y3
          have HB4 := Lib.hid hB4
          have hS9 : (9 : Nat) < 9 → S w4 := fun h => absurd h (by decide)
          clear hown4 hgrow hg hglt hstep hn12 hold hB4 y1 y2 y3 hownA hown hti hin hdis hrow hqk
          refine hK _ _ (fun h => absurd h (by decide)) (fun _ => ?_)
          clear hK K
          refine oneM (i := 10) rfl (by kernel_rfl) (by rfl) (fun K hK => ?_)
          go_simp
          refine hK _ _ (fun h => absurd h (by decide)) (fun _ => ?_)
          clear hK K
          refine oneM (i := 11) rfl (by kernel_rfl) (by rfl) (fun K hK => ?_)
          have d3 : w4.cell? ⟨w.heap.size + 1 + 1, 3, none⟩ = some (.slice va k vc) := (cell_rowC HY3.out 3).trans rfl
          have z3 : w4.frozen? ⟨w.heap.size + 1 + 1, 3, none⟩ = false := by simp [World.frozen?, HY3.out]
          go_simp
          refine hK _ _ (fun h => absurd h (by decide)) (fun _ => ?_)
          clear hK K
          refine doneM (by kernel_rfl) ?_ _
          gi_wp2
          go_roundw
          case rel => exact ⟨k + 1, _, by omega, by go_num, (heap_setCell_same _ _ 3 _ _ _ HY3.out).trans rfl, HStep.out.setBelow (by first | (simp; done) | (simp; omega)) _, (Below.heap_setCell _ _ _ _ (by first | (simp; done) | (simp; omega))).trans HY1.out, (Below.heap_setCell _ _ _ _ (by first | (simp; done) | (simp; omega))).trans HY2.out, HB4.out.setCell (by first | (simp; done) | (simp; omega)) _, by first | (simp; done) | (simp; omega)⟩
          case measure => simp [intOf]; omega
        · have hd : decide ((k : Int) < (n : Int)) = false := decide_eq_false (by omega)
          obtain rfl : k = n := by omega
          have hkk : ¬ (k : Int) < (k : Int) := by omega
          have c30 : wr.cell? ⟨w.heap.size + 1 + 1, 0, none⟩ = some (.int .u8 r) := (cell_rowC HX3.out 0).trans rfl
          have c31 : wr.cell? ⟨w.heap.size + 1 + 1, 1, none⟩ = some (.int .i64 e') := (cell_rowC HX3.out 1).trans rfl
          have c32 : wr.cell? ⟨w.heap.size + 1 + 1, 2, none⟩ = some (.string ⟨wd.toArray⟩) := (cell_rowC HX3.out 2).trans rfl
          have c33 : wr.cell? ⟨w.heap.size + 1 + 1, 3, none⟩ = some (.slice va k vc) := (cell_rowC HX3.out 3).trans rfl
          have e0 : wr.cell? ⟨w.heap.size + 1, 0, none⟩ = some (.int .u8 0) := (cell_rowC HX2.out 0).trans rfl
          have e1 : wr.cell? ⟨w.heap.size + 1, 1, none⟩ = some (.int .i64 0) := (cell_rowC HX2.out 1).trans rfl
          have e2 : wr.cell? ⟨w.heap.size + 1, 2, none⟩ = some (.string ⟨#[]⟩) := (cell_rowC HX2.out 2).trans rfl
          have e3 : wr.cell? ⟨w.heap.size + 1, 3, none⟩ = some (.slice none 0 0) := (cell_rowC HX2.out 3).trans rfl
          have y0 : wr.frozen? ⟨w.heap.size + 1, 0, none⟩ = false := by simp [World.frozen?, HX2.out]
          have y1 : wr.frozen? ⟨w.heap.size + 1, 1, none⟩ = false := by simp [World.frozen?, HX2.out]
          have y2 : wr.frozen? ⟨w.heap.size + 1, 2, none⟩ = false := by simp [World.frozen?, HX2.out]
          have y3 : wr.frozen? ⟨w.heap.size + 1, 3, none⟩ = false := by simp [World.frozen?, HX2.out]
          gi_wp2
          obtain ⟨W6, hW6⟩ : ∃ W6, W6 = (((wr.setCell ⟨w.heap.size + 1, 0, none⟩ (.int .u8 r)).setCell ⟨w.heap.size + 1, 1, none⟩ (.int .i64 e')).setCell ⟨w.heap.size + 1, 2, none⟩ (.string ⟨wd.toArray⟩)).setCell ⟨w.heap.size + 1, 3, none⟩ (.slice va k vc) := ⟨_, rfl⟩
          have x6 : W6.heap[w.heap.size + 1]? = some (.cells #[.int .u8 r, .int .i64 e', .string ⟨wd.toArray⟩, .slice va k vc] 36 (0, 0)) := by
            have h1 := heap_setCell_same _ _ 0 _ _ (.int .u8 r) HX2.out
            have h2 := heap_setCell_same _ _ 1 _ _ (.int .i64 e') h1
            have h3 := heap_setCell_same _ _ 2 _ _ (.string ⟨wd.toArray⟩) h2
            have h4 := heap_setCell_same _ _ 3 _ _ (.slice va k vc) h3
            rw [hW6, h4]
            rfl
          have g0 : W6.cell? ⟨w.heap.size + 1, 0, none⟩ = some (.int .u8 r) := (cell_rowC x6 0).trans rfl
          have g1 : W6.cell? ⟨w.heap.size + 1, 1, none⟩ = some (.int .i64 e') := (cell_rowC x6 1).trans rfl
          have g2 : W6.cell? ⟨w.heap.size + 1, 2, none⟩ = some (.string ⟨wd.toArray⟩) := (cell_rowC x6 2).trans rfl
          have g3 : W6.cell? ⟨w.heap.size + 1, 3, none⟩ = some (.slice va k vc) := (cell_rowC x6 3).trans rfl
          have hsz6 : W6.heap.size = wr.heap.size := by rw [hW6]; simp
          have hold : ∀ c, w.heap.size + 3 ≤ c → c < wr.heap.size → W6.heap[c]? = wr.heap[c]? := fun c h1 h2 => by
            rw [hW6, Below.heap_setCell _ _ _ _ (by simp; omega), Below.heap_setCell _ _ _ _ (by simp; omega), Below.heap_setCell _ _ _ _ (by simp; omega), Below.heap_setCell _ _ _ _ (by simp; omega)]
          have hB6 : Below w.heap.size w W6 := by
            rw [hW6]
            exact (((HB.out.setCell (by simp) _).setCell (by simp) _).setCell (by simp) _).setCell (by simp) _
          rw [← hW6]
          have hfin : TreeI W6 (.agg #[.int .u8 r, .int .i64 e', .string ⟨wd.toArray⟩, .slice va k vc]) (.node r e' wd (sub.map exchT)) w.heap.size W6.heap.size := by
            have hF := HF.out
            have hk : k = (sub.map exchT).length := by rw [List.length_map]; exact HN.out
            subst hk
            exact hF.tree (by omega) (by omega) hold r e' wd
          refine bodyPost_ret (v := .agg #[.int .u8 r, .int .i64 e', .string ⟨wd.toArray⟩, .slice va k vc]) (by simp [results, Tryz.results26, go_sem, g0, g1, g2, g3]) rfl ⟨_, rfl, hfin, hB6⟩
end Go.Proofs.YthmnffgjckpkiaaGreatDoor
