/-
  A row of parses under a store below it.
  The contracts of 'Given' and 'Taken' of the laws of chapter 34.
  Rows of parses of the reference of chapter 34 that grow; parses in them may share memory.
-/
import Derived.Test.YthmnffgjckpkiaaGreatDoorGEngI
import Derived.Test.YthmnffgjckpkiaaGreatDoorSC
namespace Go.Proofs.YthmnffgjckpkiaaGreatDoor
open Go Go.RowKit Go.Shelf

theorem ForG.setBelow {B0 : Nat} {v : Value} {ts : List Tr} {k : Nat} {W : World} {a : Addr} (h : ForG B0 v ts k W) (ha : a.block < B0) (u : Value) : ForG B0 v ts k (W.setCell a u) := by
  obtain ⟨qs, L, H, hk, hown, ht, hin, hdis, hrow⟩ := h
  exact ⟨qs, L, H, hk, ownsRow_setCell_below hown ha u, fun j h1 h2 => (ht j h1 h2).move (fun c hc _ _ => Below.heap_setCell _ _ _ _ (by have := (hin j (by omega)).1; omega)), fun j hj => by have := hin j hj; simp; exact this, hdis, fun b hb => by have := hrow b hb; simp; exact this⟩
end Go.Proofs.YthmnffgjckpkiaaGreatDoor
namespace Go.Proofs.YthmnffgjckpkiaaGreatDoor
open Go Go.RowKit Go.Shelf
attribute [local go_sem] Oper.semAt_some

theorem owns_cellsR {W : World} {base g n cap : Nat} {qs : List TV} (h : W.ownsRow base 39 4 (.slice (some ⟨g, 0, none⟩) n cap) n (qs.flatMap TV.cells)) : ∀ j (hj : j < qs.length), CellsAt W g (j * 4) qs[j].val := by
  intro j hj
  have hadd : ∀ k, (⟨g, 0, none⟩ : Addr).add k = ⟨g, k, none⟩ := fun k => by unfold Addr.add; split <;> simp_all
  obtain ⟨h0, h1, h2, h3⟩ := flat4 qs j hj
  have c0 := h.cells (g := g) rfl _ _ h0
  have c1 := h.cells (g := g) rfl _ _ h1
  have c2 := h.cells (g := g) rfl _ _ h2
  have c3 := h.cells (g := g) rfl _ _ h3
  rw [hadd] at c0 c1 c2 c3
  exact ⟨_, _, _, _, rfl, c0, c1, c2, c3⟩

/-- A row of parses that grows: k of them have come, each in memory of its own. -/
def ForR (B0 : Nat) (v : Value) (ts : List Tr) (k : Nat) (W : World) : Prop :=
  ∃ (qs : List TV) (L H : Nat → Nat), qs.length = k ∧ W.ownsRow B0 39 4 v k (qs.flatMap TV.cells) ∧ (∀ j (h : j < qs.length) (h2 : j < ts.length), TreeI W qs[j].val ts[j] (L j) (H j)) ∧
    (∀ j, j < k → B0 ≤ L j ∧ H j ≤ W.heap.size) ∧ (∀ i j, i < j → j < k → H i ≤ L j) ∧ (∀ b, v.ownBlock = some b → b < W.heap.size ∧ ∀ j, j < k → b < L j ∨ H j ≤ b)
theorem ForR.nil (B0 : Nat) (ts : List Tr) (W : World) : ForR B0 (.slice none 0 0) ts 0 W :=
  ⟨[], fun _ => 0, fun _ => 0, rfl, World.ownsRow_nil _ _ _ _, fun j h => by simp at h, fun j h => by omega, fun i j _ h => by omega, fun b h => by simp [Value.ownBlock] at h⟩
theorem ForR.below {B0 : Nat} {v : Value} {ts : List Tr} {k : Nat} {W W' : World} (h : ForR B0 v ts k W) (hb : Below W.heap.size W W') : ForR B0 v ts k W' := by
  obtain ⟨qs, L, H, hk, hown, ht, hin, hdis, hrow⟩ := h
  exact ⟨qs, L, H, hk, ownsRow_below hown hb, fun j h1 h2 => (ht j h1 h2).stays hb, fun j hj => ⟨(hin j hj).1, Nat.le_trans (hin j hj).2 hb.size⟩, hdis, fun b hbb => ⟨Nat.lt_of_lt_of_le (hrow b hbb).1 hb.size, (hrow b hbb).2⟩⟩
/-- One parse more. -/
theorem ForR.step' {B0 k g cap : Nat} {v : Value} {ts : List Tr} {W W1 w4 : World} {qs : List TV} {L H : Nat → Nat} {q : TV} (hk : qs.length = k) (hkt : k < ts.length)
    (ht : ∀ j (h : j < qs.length) (h2 : j < ts.length), TreeI W qs[j].val ts[j] (L j) (H j)) (hin : ∀ j, j < k → B0 ≤ L j ∧ H j ≤ W.heap.size) (hdis : ∀ i j, i < j → j < k → H i ≤ L j) (hrow : ∀ b, v.ownBlock = some b → b < W.heap.size ∧ ∀ j, j < k → b < L j ∨ H j ≤ b)
    (hb : Below W.heap.size W W1) (hB0 : B0 ≤ W.heap.size) (hq : TreeI W1 q.val ts[k] W.heap.size W1.heap.size)
    (hown4 : w4.ownsRow B0 39 4 (.slice (some ⟨g, 0, none⟩) (k + 1) cap) (k + 1) (qs.flatMap TV.cells ++ q.cells)) (hs4 : W1.heap.size ≤ w4.heap.size) (hold : ∀ c, B0 ≤ c → c < W1.heap.size → v.ownBlock ≠ some c → w4.heap[c]? = W1.heap[c]?) (hg : v.ownBlock = some g ∨ W1.heap.size ≤ g) (hlt : g < w4.heap.size) :
    ForR B0 (.slice (some ⟨g, 0, none⟩) (k + 1) cap) ts (k + 1) w4 := by
  have hs := hb.size
  refine ⟨qs ++ [q], fun j => if j = k then W.heap.size else L j, fun j => if j = k then W1.heap.size else H j, by simp [hk], by rw [List.flatMap_append]; simpa using hown4, ?_, ?_, ?_, ?_⟩
  · intro j h1 h2
    by_cases hj : j < qs.length
    · rw [List.getElem_append_left hj]
      have hne : j ≠ k := by omega
      simp only [if_neg hne]
      have h3 := ((ht j hj h2).stays hb)
      refine h3.move (fun c hc1 hc2 _ => ?_)
      have h4 := hin j (by omega)
      exact hold c (by omega) (by omega) (fun e => by have := (hrow c e).2 j (by omega); omega)
    · obtain rfl : j = k := by simp at h1; omega
      rw [List.getElem_append_right (by omega)]
      simp only [hk, Nat.sub_self, List.getElem_cons_zero, if_true]
      refine hq.move (fun c hc1 hc2 _ => hold c (by omega) hc2 (fun e => ?_))
      have := (hrow c e).1
      omega
  · intro j hj
    by_cases hjk : j = k
    · simp only [hjk, if_true]; omega
    · simp only [if_neg hjk]; have := hin j (by omega); omega
  · intro i j hij hj
    have hik : i ≠ k := by omega
    by_cases hjk : j = k
    · simp only [hjk, if_true, if_neg hik]; exact (hin i (by omega)).2
    · simp only [if_neg hjk, if_neg hik]; exact hdis i j hij (by omega)
  · intro b hbb
    obtain rfl : g = b := by simpa [Value.ownBlock] using hbb
    refine ⟨hlt, fun j hj => ?_⟩
    rcases hg with hg | hg
    · have h5 := hrow g hg
      by_cases hjk : j = k
      · simp only [hjk, if_true]; omega
      · simp only [if_neg hjk]; exact h5.2 j (by omega)
    · by_cases hjk : j = k
      · simp only [hjk, if_true]; omega
      · simp only [if_neg hjk]; have := hin j (by omega); omega
theorem ForR.step {B0 k g cap : Nat} {v : Value} {ts : List Tr} {W W1 w4 : World} {qs : List TV} {L H : Nat → Nat} {q : TV} {tmp : Obj} (hk : qs.length = k) (hkt : k < ts.length)
    (ht : ∀ j (h : j < qs.length) (h2 : j < ts.length), TreeI W qs[j].val ts[j] (L j) (H j)) (hin : ∀ j, j < k → B0 ≤ L j ∧ H j ≤ W.heap.size) (hdis : ∀ i j, i < j → j < k → H i ≤ L j) (hrow : ∀ b, v.ownBlock = some b → b < W.heap.size ∧ ∀ j, j < k → b < L j ∨ H j ≤ b)
    (hb : Below W.heap.size W W1) (hB0 : B0 ≤ W.heap.size) (hq : TreeI W1 q.val ts[k] W.heap.size W1.heap.size)
    (hown4 : w4.ownsRow B0 39 4 (.slice (some ⟨g, 0, none⟩) (k + 1) cap) (k + 1) (qs.flatMap TV.cells ++ q.cells)) (hgrow : (W1.alloc tmp).grownBy w4 v.ownBlock) (hg : v.ownBlock = some g ∨ g = W1.heap.size + 1) (hlt : g < w4.heap.size) :
    ForR B0 (.slice (some ⟨g, 0, none⟩) (k + 1) cap) ts (k + 1) w4 := by
  have hs4 := hgrow.size
  simp only [World.size_alloc] at hs4
  exact ForR.step' hk hkt ht hin hdis hrow hb hB0 hq hown4 (by omega) (fun c _ hc hn => (hgrow.block c (by simp; omega) (fun e => hn e.symm)).trans (Below.heap_alloc _ _ _ (by omega))) (by rcases hg with h | h; exact .inl h; exact .inr (by omega)) hlt
/-- The row is the parts of a parse. -/
theorem ForR.tree {B0 lo : Nat} {a : Option Addr} {cap : Nat} {ts : List Tr} {W W' : World} (h : ForR B0 (.slice a ts.length cap) ts ts.length W) (hlo : lo ≤ B0) (hs : W.heap.size ≤ W'.heap.size) (hold : ∀ c, B0 ≤ c → c < W.heap.size → W'.heap[c]? = W.heap[c]?) (r e : Int) (wd : List UInt8) :
    TreeI W' (.agg #[.int .u8 r, .int .i64 e, .string ⟨wd.toArray⟩, .slice a ts.length cap]) (.node r e wd ts) lo W'.heap.size := by
  obtain ⟨qs, L, H, hk, hown, ht, hin, hdis, hrow⟩ := h
  obtain ⟨b, hb⟩ : ∃ b, b = (match a with | some x => x.block | none => 0) := ⟨_, rfl⟩
  refine .mk r e wd ts a cap lo W'.heap.size b (fun j => match qs[j]? with | some q => q.val | none => .agg #[]) L H ?_ ?_ (fun j hj => ?_) hdis (fun j hj => ?_)
  · rcases hown.2 with ⟨he, h0⟩ | ⟨g, cap', cur, he, hbg, hgc, _⟩
    · exact .inl (List.eq_nil_of_length_eq_zero h0)
    · cases he
      simp only at hb
      subst hb
      have hglt := (Array.getElem?_eq_some_iff.1 hgc).1
      refine .inr ⟨rfl, by omega, by omega, ⟨cur, _, (hold b hbg hglt).trans hgc⟩, fun j hj => ?_⟩
      have hjq : j < qs.length := by omega
      rw [List.getElem?_eq_getElem hjq]
      exact (owns_cellsR hown j hjq).kept (hold b hbg hglt)
  · intro j hj
    rcases hown.2 with ⟨he, h0⟩ | ⟨g, cap', cur, he, hbg, hgc, _⟩
    · omega
    · cases he
      simp only at hb
      subst hb
      exact (hrow b rfl).2 j hj
  · have := hin j hj
    omega
  · have hjq : j < qs.length := by omega
    simp only [List.getElem?_eq_getElem hjq]
    refine (ht j hjq hj).move (fun c h1 h2 _ => ?_)
    have := hin j hj
    exact hold c (by omega) (by omega)

theorem info_treeR : (Tryz.prog.info? 39).map (fun i => (i.zero, i.size, i.bytes)) = some (some (.agg #[.int .u8 0, .int .i64 0, .string ByteArray.empty, .slice none 0 0]), 4, 56) := by kernel_rfl
theorem ForR.setBelow {B0 : Nat} {v : Value} {ts : List Tr} {k : Nat} {W : World} {a : Addr} (h : ForR B0 v ts k W) (ha : a.block < B0) (u : Value) : ForR B0 v ts k (W.setCell a u) := by
  obtain ⟨qs, L, H, hk, hown, ht, hin, hdis, hrow⟩ := h
  exact ⟨qs, L, H, hk, ownsRow_setCell_below hown ha u, fun j h1 h2 => (ht j h1 h2).move (fun c hc _ _ => Below.heap_setCell _ _ _ _ (by have := (hin j (by omega)).1; omega)), fun j hj => by have := hin j hj; simp; exact this, hdis, fun b hb => by have := hrow b hb; simp; exact this⟩

set_option maxRecDepth 100000 in
set_option maxHeartbeats 8000000 in
/-- **Taken.** -/
theorem Taken34_any : ∀ (t : Tr), Slim t → ∀ (w : World) (v : Value), TreeV (fun _ => True) w v t →
    Calls Tryz.prog 19 #[v] w fun e w' => ∃ v', e = .returned v' ∧ TreeI w' v' t w.heap.size w'.heap.size ∧ Below w.heap.size w w' ∧ ∃ p : TV, v' = TV.val p ∧ p.n = t.sub.length ∧ ForG (w.heap.size + 3) (.slice p.a p.n p.c) t.sub p.n w' ∧ w.heap.size + 3 ≤ w'.heap.size := by
  obtain ⟨i0, hi, hz0, hz1, hz2⟩ := info_parts info_tree
  intro t
  induction t using Tr.ind with
  | h r e wd sub ih =>
    intro hslim w v hv
    cases hslim with
    | mk _ _ _ _ hlen hss =>
    cases hv with
    | mk _ _ _ _ a cap vs hs hsub =>
    obtain ⟨n, hn⟩ : ∃ n, n = sub.length := ⟨_, rfl⟩
    rw [← hn] at hlen ⊢
    have HN := Lib.hid hn
    have HS := Lib.hid hs
    have HSub := Lib.hid hsub
    have HIh := Lib.hid ih
    have HSS0 := Lib.hid hss
    clear hn hs hsub ih hss
    refine (callsIn_wide (n := 3)).1 ?_
    refine callsIn_of_wp Tryz.func19 rfl trivial ?_ rfl
    simp only [Tryz.ntmps19, List.size_toArray, List.length_cons, List.length_nil, Nat.reduceAdd, Nat.reduceSub, Array.replicate_succ, Array.replicate_zero, List.push_toArray, List.append_toArray, List.nil_append, List.cons_append]
    have hfw : ∀ f, Fence.wide.fn f := fun _ => trivial
    gi_wp2
    obtain ⟨W1, hW1⟩ : ∃ W1, W1 = ((w.alloc (.cells #[.int .u8 r, .int .i64 e, .string ⟨wd.toArray⟩, .slice a n cap] 39)).alloc (.cells #[.int .u8 0, .int .i64 0, .string ⟨#[]⟩, .slice none 0 0] 36)).alloc (.cells #[.int .u8 r, .int .i64 e, .string ⟨wd.toArray⟩, .slice none 0 0] 36) := ⟨_, rfl⟩
    have hB1 : Below w.heap.size w W1 := by rw [hW1]; exact (((Below.refl _ _).alloc (by first | (simp; done) | (simp; omega)) _).alloc (by first | (simp; done) | (simp; omega)) _).alloc (by first | (simp; done) | (simp; omega)) _
    have x1 : W1.heap[w.heap.size]? = some (.cells #[.int .u8 r, .int .i64 e, .string ⟨wd.toArray⟩, .slice a n cap] 39 (0, 0)) := by rw [hW1, Below.heap_alloc _ _ _ (by simp; omega), Below.heap_alloc _ _ _ (by simp)]; exact heap_atC rfl
    have x2 : W1.heap[w.heap.size + 1]? = some (.cells #[.int .u8 0, .int .i64 0, .string ⟨#[]⟩, .slice none 0 0] 36 (0, 0)) := by rw [hW1, Below.heap_alloc _ _ _ (by simp)]; exact heap_atC (by simp)
    have x3 : W1.heap[w.heap.size + 1 + 1]? = some (.cells #[.int .u8 r, .int .i64 e, .string ⟨wd.toArray⟩, .slice none 0 0] 36 (0, 0)) := by rw [hW1]; exact heap_atC (by simp)
    rw [← hW1]
    have HX := Lib.hid (And.intro hB1 (And.intro x1 (And.intro x2 x3)))
    clear hW1 hB1 x1 x2 x3
    gi_loopw [4] (fun q wr => ∃ (k : Nat) (v : Value), k ≤ n ∧ q = .int .i64 k ∧ wr.heap[w.heap.size + 1 + 1]? = some (.cells #[.int .u8 r, .int .i64 e, .string ⟨wd.toArray⟩, v] 36 (0, 0)) ∧ ForG (w.heap.size + 3) v sub k wr ∧
      wr.heap[w.heap.size]? = some (.cells #[.int .u8 r, .int .i64 e, .string ⟨wd.toArray⟩, .slice a n cap] 39 (0, 0)) ∧ wr.heap[w.heap.size + 1]? = some (.cells #[.int .u8 0, .int .i64 0, .string ⟨#[]⟩, .slice none 0 0] 36 (0, 0)) ∧ Below w.heap.size w wr ∧ w.heap.size + 3 ≤ wr.heap.size) (fun q _ => n - (intOf q).toNat)
    case atStart => exact ⟨0, _, Nat.zero_le _, rfl, HX.out.2.2.2, ForG.nil _ _ _, HX.out.2.1, HX.out.2.2.1, HX.out.1, by have := (Array.getElem?_eq_some_iff.1 HX.out.2.2.2).1; omega⟩
    case round =>
      obtain ⟨k, v0, hk, rfl, x3, hF, x1, x2, hBw, hsz3⟩ := hrel
      obtain ⟨va, vc, hv0⟩ : ∃ va vc, v0 = .slice va k vc := by obtain ⟨_, _, _, _, hown, _⟩ := hF; exact owns_form hown
      subst hv0
      have c13 : wr.cell? ⟨w.heap.size, 3, none⟩ = some (.slice a n cap) := (cell_rowC x1 3).trans rfl
      have c33 : wr.cell? ⟨w.heap.size + 1 + 1, 3, none⟩ = some (.slice va k vc) := (cell_rowC x3 3).trans rfl
      have HF := Lib.hid hF
      have HX1 := Lib.hid x1
      have HX2 := Lib.hid x2
      have HX3 := Lib.hid x3
      have HB := Lib.hid hBw
      have HC33 := Lib.hid c33
      have HC13 := Lib.hid c13
      clear hF x1 x2 x3 hBw c33
      by_cases hlt : k < n
      · have hd : decide ((k : Int) < (n : Int)) = true := decide_eq_true (by omega)
        have hkk : (k : Int) < (n : Int) := by omega
        have hsb : sub ≠ [] := by intro h; have := HN.out; rw [h] at this; simp at this; omega
        obtain ⟨b, off, rfl, _, hc⟩ := HS.out.resolve_left hsb
        have hkl : k < sub.length := by rw [← HN.out]; exact hlt
        have htv := HSub.out k hkl
        obtain ⟨q, hq⟩ := htv.form
        obtain ⟨y0, y1, y2, y3, hy, g0, g1, g2, g3⟩ := hc k hkl
        rw [hq] at hy htv
        unfold TV.val at hy
        simp only [Value.agg.injEq, Array.mk.injEq, List.cons.injEq, and_true] at hy
        obtain ⟨rfl, rfl, rfl, rfl⟩ := hy
        have HTv := Lib.hid htv
        have HG := Lib.hid (And.intro (cell_kept' HB.out g0) (And.intro (cell_kept' HB.out g1) (And.intro (cell_kept' HB.out g2) (cell_kept' HB.out g3))))
        clear htv hq hc g0 g1 g2 g3
        obtain ⟨S, hS⟩ : ∃ S : World → Prop, S = fun V => Below wr.heap.size wr V := ⟨_, rfl⟩
        have f0 : ∀ V, S V → V.cell? ⟨w.heap.size + 1 + 1, 3, none⟩ = some (.slice va k vc) := fun V h => by rw [hS] at h; exact cell_kept' h HC33.out
        have f1 : ∀ V, S V → V.cell? ⟨w.heap.size, 3, none⟩ = some (.slice (some ⟨b, off, none⟩) n cap) := fun V h => by rw [hS] at h; exact cell_kept' h HC13.out
        have f2 : ∀ V, S V → V.cell? ⟨b, off + k * 4, none⟩ = some (.int .u8 q.r) ∧ V.cell? ⟨b, off + k * 4 + 1, none⟩ = some (.int .i64 q.e) ∧ V.cell? ⟨b, off + k * 4 + 2, none⟩ = some (.string q.w) ∧ V.cell? ⟨b, off + k * 4 + 3, none⟩ = some (.slice q.a q.n q.c) := fun V h => by rw [hS] at h; exact ⟨cell_kept' h HG.out.1, cell_kept' h HG.out.2.1, cell_kept' h HG.out.2.2.1, cell_kept' h HG.out.2.2.2⟩
        have hSd : S wr.drew := by rw [hS]; exact (Below.refl _ _).drew
        have HSS := Lib.hid hS
        clear hS
        gi_wp2
        refine regionM S 9 (by kernel_rfl) hSd (fun hpo hS0 => ?_)
        refine takeM (i := 0) 19 (.pointer (some ⟨w.heap.size + 1 + 1, 3, none⟩)) hpo rfl (by kernel_rfl) (fun _ _ _ h => h) rfl (by rfl) (fun V hX => (by go_simp)) (fun _ => rfl) hS0 (fun hS1 => ?_)
        simp only [List.setIfInBounds_toArray, List.set_cons_zero, List.set_cons_succ]
        refine takeM (i := 1) 20 (.slice va k vc) hpo rfl (by kernel_rfl) (fun _ _ _ h => h) rfl (by rfl) (fun V hX => (by have g0 := f0 V hX; go_simp)) (fun _ => rfl) hS1 (fun hS2 => ?_)
        simp only [List.setIfInBounds_toArray, List.set_cons_zero, List.set_cons_succ]
        refine takeM (i := 2) 21 (.pointer (some ⟨w.heap.size, 3, none⟩)) hpo rfl (by kernel_rfl) (fun _ _ _ h => h) rfl (by rfl) (fun V hX => (by go_simp)) (fun _ => rfl) hS2 (fun hS3 => ?_)
        simp only [List.setIfInBounds_toArray, List.set_cons_zero, List.set_cons_succ]
        refine takeM (i := 3) 22 (.slice (some ⟨b, off, none⟩) n cap) hpo rfl (by kernel_rfl) (fun _ _ _ h => h) rfl (by rfl) (fun V hX => (by have g0 := f1 V hX; go_simp)) (fun _ => rfl) hS3 (fun hS4 => ?_)
        simp only [List.setIfInBounds_toArray, List.set_cons_zero, List.set_cons_succ]
        refine takeM (i := 4) 23 (.int .i64 k) hpo rfl (by kernel_rfl) (fun _ _ _ h => h) rfl (by rfl) (fun V hX => (by go_simp)) (fun _ => rfl) hS4 (fun hS5 => ?_)
        simp only [List.setIfInBounds_toArray, List.set_cons_zero, List.set_cons_succ]
        refine takeM (i := 5) 24 (.pointer (some ⟨b, off + k * 4, none⟩)) hpo rfl (by kernel_rfl) (fun _ _ _ h => h) rfl (by rfl) (fun V hX => (by go_simp; first | done | (simp only [if_pos hkk]; try go_simp))) (fun _ => rfl) hS5 (fun hS6 => ?_)
        simp only [List.setIfInBounds_toArray, List.set_cons_zero, List.set_cons_succ]
        refine takeM (i := 6) 25 (.agg #[.int .u8 q.r, .int .i64 q.e, .string q.w, .slice q.a q.n q.c]) hpo rfl (by kernel_rfl) (fun _ _ _ h => h) rfl (by rfl) (fun V hX => (by obtain ⟨g0, g1, g2, g3⟩ := f2 V hX; go_simp)) (fun _ => rfl) hS6 (fun hS7 => ?_)
        simp only [List.setIfInBounds_toArray, List.set_cons_zero, List.set_cons_succ]
        refine oneM (i := 7) rfl (by kernel_rfl) (by rfl) (fun K hK => ?_)
        go_simp
        refine callsIn_wide.2 ((HIh.out sub[k] (List.getElem_mem hkl) (HSS0.out _ (List.getElem_mem hkl)) wr.drew q.val (TreeV.move (W := w) (W' := wr.drew) (ok' := fun _ => True) (fun c _ h => ⟨trivial, by obtain ⟨_, _, h⟩ := h; exact HB.out.block c (cell_lt h)⟩) HTv.out)).mono ?_)
        rintro _ A1 ⟨v', rfl, hq, hbA, _⟩
        obtain ⟨p, rfl⟩ := hq.form
        have hbA7 : Below wr.heap.size wr A1 := ((Below.refl _ wr).drew).trans (hbA.mono (Nat.le_refl _))
        refine hK _ _ (fun _ => by rw [HSS.out]; exact hbA7) (fun _ => ?_)
        clear hK K
        refine oneM (i := 8) rfl (by kernel_rfl) (by rfl) (fun K hK => ?_)
        simp only [TV.val]
        go_simp
        refine hK _ _ (fun _ => by rw [HSS.out]; exact hbA7.trans (((Below.refl _ A1).alloc (Nat.le_refl _) _).mono hbA7.size)) (fun _ => ?_)
        clear hK K
        have hFr := HF.out.below ((Below.refl _ wr).drew)
        obtain ⟨qs, L, H, hqk, hown, hti, hin, hdis, hrow⟩ := hFr
        have hownA := ownsRow_below hown hbA
        have hszA : w.heap.size + 3 ≤ A1.heap.size := Nat.le_trans hsz3 hbA7.size
        have HQ := Lib.hid hq
        have HBA := Lib.hid hbA
        refine oneM (i := 9) rfl (by kernel_rfl) (by rfl) (fun K hK => ?_)
        refine wpIn_append_lies (.tmp 20) (.tmp 27) 25 rfl (w.heap.size + 3) 36 i0 (.agg #[.int .u8 0, .int .i64 0, .string ByteArray.empty, .slice none 0 0]) 4 56 Tryz.underlying25 hi hz0 hz1 hz2 rfl (by decide) (.slice va k vc) k _ rfl (hownA.alloc _) ⟨_, 0, none⟩ 1 1 p.cells rfl rfl (news_at (cs := #[.int .u8 p.r, .int .i64 p.e, .string p.w, .slice p.a p.n p.c]) (t := 36) (fr := (0, 0)) (World.alloc_heap_new A1 _)) (by simp [TV.cells, Value.oneCell']) (by decide) (by unfold maxLen; omega) (by omega) (by simp; omega) (A1.heap.size + 1) (by simp) ?_
        intro g cap4 w4 hown4 hgrow hg hglt
        have hkm : k < sub.length := hkl
        have hstep := ForG.step (ts := sub) hqk hkm hti hin hdis hrow hbA hsz3 hq hown4 hgrow hg hglt
        have hn3 : (Value.slice va k vc).ownBlock ≠ some (w.heap.size + 1 + 1) := fun h => by
          rcases hown.2 with ⟨h0, _⟩ | ⟨_, _, _, h0, h1, _⟩
          · rw [h0] at h; simp [Value.ownBlock] at h
          · rw [h0] at h; simp [Value.ownBlock] at h; omega
        have hn12 : ∀ c, c < w.heap.size + 3 → (Value.slice va k vc).ownBlock ≠ some c := fun c hc h => by
          rcases hown.2 with ⟨h0, _⟩ | ⟨_, _, _, h0, h1, _⟩
          · rw [h0] at h; simp [Value.ownBlock] at h
          · rw [h0] at h; simp [Value.ownBlock] at h; omega
        have hold : ∀ c, c < w.heap.size + 3 → w4.heap[c]? = wr.heap[c]? := fun c hc => (hgrow.block c (by simp; omega) (fun e => hn12 c hc e.symm)).trans ((Below.heap_alloc _ _ _ (by omega)).trans (hbA7.block c (by omega)))
        have y3 : w4.heap[w.heap.size + 1 + 1]? = some (.cells #[.int .u8 r, .int .i64 e, .string ⟨wd.toArray⟩, .slice va k vc] 36 (0, 0)) := (hold _ (by omega)).trans HX3.out
        have hB4 : Below w.heap.size w w4 := ((HB.out.trans (hbA7.mono HB.out.size)).alloc (by omega) _).grown hgrow (by simp; omega) (fun c hc => by
          rcases hown.2 with ⟨h0, _⟩ | ⟨_, _, _, h0, h1, _⟩
          · rw [h0] at hc; simp [Value.ownBlock] at hc
          · rw [h0] at hc; simp [Value.ownBlock] at hc; omega)
        have hsz4 : w.heap.size + 3 ≤ w4.heap.size := by have := hgrow.size; simp at this; omega
        have y1 := (hold w.heap.size (by omega)).trans HX1.out
        have y2 := (hold (w.heap.size + 1) (by omega)).trans HX2.out
        have HStep := Lib.hid hstep
        have HY1 := Lib.hid y1
        have HY2 := Lib.hid y2
        have HY3 := Lib.hid y3
        have HB4 := Lib.hid hB4
        have hS9 : (9 : Nat) < 9 → S w4 := fun h => absurd h (by decide)
        clear hown4 hgrow hg hglt hstep hn12 hold hB4 y1 y2 y3 hownA hown hti hin hdis hrow hqk
        refine hK _ _ (fun h => absurd h (by decide)) (fun _ => ?_)
        clear hK K
        refine oneM (i := 10) rfl (by kernel_rfl) (by rfl) (fun K hK => ?_)
        go_simp
        refine hK _ _ (fun h => absurd h (by decide)) (fun _ => ?_)
        clear hK K
        refine oneM (i := 11) rfl (by kernel_rfl) (by rfl) (fun K hK => ?_)
        have d3 : w4.cell? ⟨w.heap.size + 1 + 1, 3, none⟩ = some (.slice va k vc) := (cell_rowC HY3.out 3).trans rfl
        have z3 : w4.frozen? ⟨w.heap.size + 1 + 1, 3, none⟩ = false := by simp [World.frozen?, HY3.out]
        go_simp
        refine hK _ _ (fun h => absurd h (by decide)) (fun _ => ?_)
        clear hK K
        refine doneM (by kernel_rfl) ?_ _
        gi_wp2
        go_roundw
        case rel => exact ⟨k + 1, _, by omega, by go_num, (heap_setCell_same _ _ 3 _ _ _ HY3.out).trans rfl, HStep.out.setBelow (by first | (simp; done) | (simp; omega)) _, (Below.heap_setCell _ _ _ _ (by first | (simp; done) | (simp; omega))).trans HY1.out, (Below.heap_setCell _ _ _ _ (by first | (simp; done) | (simp; omega))).trans HY2.out, HB4.out.setCell (by first | (simp; done) | (simp; omega)) _, by first | (simp; done) | (simp; omega)⟩
        case measure => simp [intOf]; omega
      · have hd : decide ((k : Int) < (n : Int)) = false := decide_eq_false (by omega)
        obtain rfl : k = n := by omega
        have hkk : ¬ (k : Int) < (k : Int) := by omega
        have c30 : wr.cell? ⟨w.heap.size + 1 + 1, 0, none⟩ = some (.int .u8 r) := (cell_rowC HX3.out 0).trans rfl
        have c31 : wr.cell? ⟨w.heap.size + 1 + 1, 1, none⟩ = some (.int .i64 e) := (cell_rowC HX3.out 1).trans rfl
        have c32 : wr.cell? ⟨w.heap.size + 1 + 1, 2, none⟩ = some (.string ⟨wd.toArray⟩) := (cell_rowC HX3.out 2).trans rfl
        have c33 : wr.cell? ⟨w.heap.size + 1 + 1, 3, none⟩ = some (.slice va k vc) := (cell_rowC HX3.out 3).trans rfl
        have e0 : wr.cell? ⟨w.heap.size + 1, 0, none⟩ = some (.int .u8 0) := (cell_rowC HX2.out 0).trans rfl
        have e1 : wr.cell? ⟨w.heap.size + 1, 1, none⟩ = some (.int .i64 0) := (cell_rowC HX2.out 1).trans rfl
        have e2 : wr.cell? ⟨w.heap.size + 1, 2, none⟩ = some (.string ⟨#[]⟩) := (cell_rowC HX2.out 2).trans rfl
        have e3 : wr.cell? ⟨w.heap.size + 1, 3, none⟩ = some (.slice none 0 0) := (cell_rowC HX2.out 3).trans rfl
        have y0 : wr.frozen? ⟨w.heap.size + 1, 0, none⟩ = false := by simp [World.frozen?, HX2.out]
        have y1 : wr.frozen? ⟨w.heap.size + 1, 1, none⟩ = false := by simp [World.frozen?, HX2.out]
        have y2 : wr.frozen? ⟨w.heap.size + 1, 2, none⟩ = false := by simp [World.frozen?, HX2.out]
        have y3 : wr.frozen? ⟨w.heap.size + 1, 3, none⟩ = false := by simp [World.frozen?, HX2.out]
        gi_wp2
        obtain ⟨W6, hW6⟩ : ∃ W6, W6 = (((wr.setCell ⟨w.heap.size + 1, 0, none⟩ (.int .u8 r)).setCell ⟨w.heap.size + 1, 1, none⟩ (.int .i64 e)).setCell ⟨w.heap.size + 1, 2, none⟩ (.string ⟨wd.toArray⟩)).setCell ⟨w.heap.size + 1, 3, none⟩ (.slice va k vc) := ⟨_, rfl⟩
        have x6 : W6.heap[w.heap.size + 1]? = some (.cells #[.int .u8 r, .int .i64 e, .string ⟨wd.toArray⟩, .slice va k vc] 36 (0, 0)) := by
          have h1 := heap_setCell_same _ _ 0 _ _ (.int .u8 r) HX2.out
          have h2 := heap_setCell_same _ _ 1 _ _ (.int .i64 e) h1
          have h3 := heap_setCell_same _ _ 2 _ _ (.string ⟨wd.toArray⟩) h2
          have h4 := heap_setCell_same _ _ 3 _ _ (.slice va k vc) h3
          rw [hW6, h4]
          rfl
        have g0 : W6.cell? ⟨w.heap.size + 1, 0, none⟩ = some (.int .u8 r) := (cell_rowC x6 0).trans rfl
        have g1 : W6.cell? ⟨w.heap.size + 1, 1, none⟩ = some (.int .i64 e) := (cell_rowC x6 1).trans rfl
        have g2 : W6.cell? ⟨w.heap.size + 1, 2, none⟩ = some (.string ⟨wd.toArray⟩) := (cell_rowC x6 2).trans rfl
        have g3 : W6.cell? ⟨w.heap.size + 1, 3, none⟩ = some (.slice va k vc) := (cell_rowC x6 3).trans rfl
        have hsz6 : W6.heap.size = wr.heap.size := by rw [hW6]; simp
        have hold : ∀ c, w.heap.size + 3 ≤ c → c < wr.heap.size → W6.heap[c]? = wr.heap[c]? := fun c h1 h2 => by
          rw [hW6, Below.heap_setCell _ _ _ _ (by simp; omega), Below.heap_setCell _ _ _ _ (by simp; omega), Below.heap_setCell _ _ _ _ (by simp; omega), Below.heap_setCell _ _ _ _ (by simp; omega)]
        have hB6 : Below w.heap.size w W6 := by
          rw [hW6]
          exact (((HB.out.setCell (by simp) _).setCell (by simp) _).setCell (by simp) _).setCell (by simp) _
        rw [← hW6]
        have hfin : TreeI W6 (.agg #[.int .u8 r, .int .i64 e, .string ⟨wd.toArray⟩, .slice va k vc]) (.node r e wd sub) w.heap.size W6.heap.size := by
          have hF := HF.out
          have hk : k = sub.length := HN.out
          subst hk
          exact hF.tree (by omega) (by omega) hold r e wd
        refine bodyPost_ret (v := .agg #[.int .u8 r, .int .i64 e, .string ⟨wd.toArray⟩, .slice va k vc]) (by simp [results, Tryz.results19, go_sem, g0, g1, g2, g3]) rfl ⟨_, rfl, hfin, hB6, ⟨r, e, ⟨wd.toArray⟩, va, k, vc⟩, rfl, HN.out, by rw [hW6]; exact (((HF.out.setBelow (by simp) _).setBelow (by simp) _).setBelow (by simp) _).setBelow (by simp) _, by omega⟩
end Go.Proofs.YthmnffgjckpkiaaGreatDoor
namespace Go.Proofs.YthmnffgjckpkiaaGreatDoor
open Go Go.RowKit Go.Shelf

/-- A row of parses' values of the call's own. -/
def RowT (B : Nat) (W : World) (v : Value) (qs : List TV) : Prop := W.ownsRow B 39 4 v qs.length (qs.flatMap TV.cells)
/-- What is appended. -/
def NewsT (W : World) (x : Value) (rs : List TV) : Prop := (x = .slice none 0 0 ∧ rs = []) ∨ ∃ ad cap, x = .slice (some ad) rs.length cap ∧ ∀ j u, (rs.flatMap TV.cells)[j]? = some u → W.cell? (ad.add j) = some u
theorem RowT.nil (B : Nat) (W : World) : RowT B W (.slice none 0 0) [] := World.ownsRow_nil _ _ _ _
theorem RowT.below {B : Nat} {W W' : World} {v : Value} {qs : List TV} (h : RowT B W v qs) (hb : Below W.heap.size W W') : RowT B W' v qs := ownsRow_below h hb
theorem RowT.alloc {B : Nat} {W : World} {v : Value} {qs : List TV} (h : RowT B W v qs) (o : Obj) : RowT B (W.alloc o) v qs := h.below ((Below.refl _ _).alloc (Nat.le_refl _) _)
theorem RowT.base {B B' : Nat} {W : World} {v : Value} {qs : List TV} (h : RowT B W v qs) (hb : B' ≤ B) : RowT B' W v qs := by
  refine ⟨h.1, ?_⟩
  rcases h.2 with h | ⟨g, cap, cur, a, b, c⟩
  · exact .inl h
  · exact .inr ⟨g, cap, cur, a, Nat.le_trans hb b, c⟩
theorem RowT.news {B : Nat} {W : World} {v : Value} {qs : List TV} (h : RowT B W v qs) : NewsT W v qs := by
  rcases id h.2 with ⟨rfl, h0⟩ | ⟨g, cap, cur, rfl, _⟩
  · exact .inl ⟨rfl, List.eq_nil_of_length_eq_zero h0⟩
  · exact .inr ⟨_, cap, rfl, fun j u hu => h.cells (g := g) rfl j u hu⟩
theorem NewsT.below {W W' : World} {x : Value} {rs : List TV} (h : NewsT W x rs) (hb : Below W.heap.size W W') : NewsT W' x rs := by
  rcases h with h | ⟨ad, cap, h1, h2⟩
  · exact .inl h
  · exact .inr ⟨ad, cap, h1, fun j u hu => cell_kept' hb (h2 j u hu)⟩
theorem RowT.empty {W : World} {g B : Nat} (hg : W.heap[g]? = some (.cells #[] 39 (0, 0))) (hb : B ≤ g) : RowT B W (.slice (some ⟨g, 0, none⟩) 0 0) [] :=
  ⟨by simp, .inr ⟨g, 0, #[], rfl, hb, hg, Nat.le_refl _, Nat.zero_le _, by simp, by simp⟩⟩
theorem NewsT.one {W : World} {g : Nat} {q : TV} {n c : Nat} (hn : n = 1) (hg : W.heap[g]? = some (.cells #[.int .u8 q.r, .int .i64 q.e, .string q.w, .slice q.a q.n q.c] 39 (0, 0))) : NewsT W (.slice (some ⟨g, 0, none⟩) n c) [q] := by
  subst hn
  exact .inr ⟨_, c, rfl, fun j u hu => by
    have := World.news_of_block hg j u (by simpa [TV.cells] using hu)
    exact this⟩
theorem RowT.new {B W} {g : Nat} {q : TV} (hb : B ≤ g) (hg : W.heap[g]? = some (.cells #[.int .u8 q.r, .int .i64 q.e, .string q.w, .slice q.a q.n q.c] 39 (0, 0))) : RowT B W (.slice (some ⟨g, 0, none⟩) 1 1) [q] :=
  ⟨by simp [TV.cells], .inr ⟨g, 1, _, rfl, hb, hg, Nat.le_refl _, by decide, by simp, by simp [TV.cells]⟩⟩
theorem tv_one (qs : List TV) : ∀ u ∈ qs.flatMap TV.cells, u.oneCell' = true := by
  intro u hu
  obtain ⟨y, _, hy⟩ := List.mem_flatMap.1 hu
  simp only [TV.cells, List.mem_cons, List.not_mem_nil, or_false] at hy
  rcases hy with rfl | rfl | rfl | rfl <;> rfl
theorem run_append_trees (w : World) (ty : TypeId) (base : Nat) (v : Value) (p : List TV) (hown : RowT base w v p) (x : Value) (q : List TV) (hx : NewsT w x q) (hn : p.length + q.length ≤ 1000000) (hbase : base ≤ w.heap.size) :
    ∃ v' w', (Builtin.append_ #[29, 29] ty #[v, x]).run Tryz.prog w = .ok v' w' ∧ RowT base w' v' (p ++ q) ∧ w.grownBy w' v.ownBlock ∧ (v'.ownBlock = v.ownBlock ∨ v'.ownBlock = some w.heap.size) := by
  obtain ⟨i0, hi, hz0, hz1, hz2⟩ := info_parts info_treeR
  rcases hx with ⟨rfl, rfl⟩ | ⟨ad, cap, rfl, hnews⟩
  · refine ⟨v, w, ?_, by rw [List.append_nil]; exact hown, ⟨rfl, rfl, rfl, Nat.le_refl _, fun _ _ _ => rfl⟩, .inl rfl⟩
    exact run_append_owned_none (P := Tryz.prog) (w := w) base 29 ty 39 i0 4 Tryz.underlying29 hi v p.length (p.flatMap TV.cells) hown
  · obtain ⟨v', w', hr, h2, h3, _, h5⟩ := run_append_own_at (P := Tryz.prog) w base 29 ty 39 i0 _ 4 56 Tryz.underlying29 hi hz0 hz1 hz2 rfl (by decide) v p.length (p.flatMap TV.cells) hown ad q.length cap (q.flatMap TV.cells) (by rw [cells_len]) hnews (tv_one q) (by unfold maxLen; omega) (by omega) hbase
    refine ⟨v', w', hr, ?_, h3, h5⟩
    unfold RowT
    rw [List.length_append, List.flatMap_append]
    exact h2
theorem wpList_append_trees {ops : Array Oper} {rest : List Oper} {o : Oper} {a : Act} {w : World} {Q : Exit → Act → World → Prop} (hgd : o.guard = none) (s x : Operand)
    (ho : o.op = .call { callee := .builtin .append, args := #[s, x], argTypes := #[29, 29] })
    (base : Nat) {v : Value} {p : List TV} (hs : a.eval s = v) (hown : RowT base w v p) {vx : Value} {q : List TV} (hvx : a.eval x = vx) (hx : NewsT w vx q) (hn : p.length + q.length ≤ 1000000) (hbase : base ≤ w.heap.size)
    (h : ∀ v' w', RowT base w' v' (p ++ q) → w.grownBy w' v.ownBlock → (v'.ownBlock = v.ownBlock ∨ v'.ownBlock = some w.heap.size) → wpList Tryz.prog ops Q rest (a.put o.dst v') w') : wpList Tryz.prog ops Q (o :: rest) a w := by
  refine wpList_plain hgd fun K hK => ?_
  obtain ⟨v', w', hr, h1, h2, h3⟩ := run_append_trees w o.type base v p hown vx q hx hn hbase
  unfold Oper.wp execOp
  simp only [ho, resolve, invoke, builtin, Sem.run_bind, Sem.run_pure, Result.andThen_ok, List.map_toArray, List.map_cons, List.map_nil, hs, hvx, hr]
  exact hK _ _ (h v' w' h1 h2 h3)

/-- A row of parses; what they are made of lies above C and outside of the row, which lies above B. -/
def TreesQ (C B : Nat) (W : World) (v : Value) (ts : List Tr) : Prop :=
  ∃ qs : List TV, qs.length = ts.length ∧ RowT B W v qs ∧ ∀ j (h : j < qs.length) (h2 : j < ts.length), TreeV (fun b => C ≤ b ∧ v.ownBlock ≠ some b) W qs[j].val ts[j] ∧ (qs[j].a = none → qs[j].n = 0 ∧ qs[j].c = 0)
abbrev TreesR (B : Nat) := TreesQ B B
theorem TreesR.nil (C B : Nat) (W : World) : TreesQ C B W (.slice none 0 0) [] := ⟨[], rfl, RowT.nil _ _, fun j h => by simp at h⟩
theorem treeV_below {ok : Nat → Prop} {W W' : World} {v : Value} {t : Tr} (h : TreeV ok W v t) (hb : Below W.heap.size W W') : TreeV ok W' v t := h.move (fun b hb' ⟨_, _, hc⟩ => ⟨hb', hb.block b (cell_lt hc)⟩)
theorem treeV_weak {ok ok' : Nat → Prop} {W : World} {v : Value} {t : Tr} (h : TreeV ok W v t) (hw : ∀ b, b < W.heap.size → ok b → ok' b) : TreeV ok' W v t := h.move (fun b hb' ⟨_, _, hc⟩ => ⟨hw b (cell_lt hc) hb', rfl⟩)
theorem TreesQ.below {C B : Nat} {W W' : World} {v : Value} {ts : List Tr} (h : TreesQ C B W v ts) (hb : Below W.heap.size W W') : TreesQ C B W' v ts := by
  obtain ⟨qs, h1, h2, h3⟩ := h
  exact ⟨qs, h1, h2.below hb, fun j a b => ⟨treeV_below (h3 j a b).1 hb, (h3 j a b).2⟩⟩
theorem TreesQ.base {C C' B B' : Nat} {W : World} {v : Value} {ts : List Tr} (h : TreesQ C B W v ts) (hc : C' ≤ C) (hb : B' ≤ B) : TreesQ C' B' W v ts := by
  obtain ⟨qs, h1, h2, h3⟩ := h
  exact ⟨qs, h1, h2.base hb, fun j a b => ⟨treeV_weak (h3 j a b).1 (fun _ _ h => ⟨Nat.le_trans hc h.1, h.2⟩), (h3 j a b).2⟩⟩
theorem TreesQ.form {C B : Nat} {W : World} {v : Value} {ts : List Tr} (h : TreesQ C B W v ts) : ∃ a cap, v = .slice a ts.length cap := by
  obtain ⟨qs, h1, h2, _⟩ := h
  rw [← h1]
  exact owns_form h2
/-- The row behind an append: what was appended lies above C and apart from the row. -/
theorem TreesQ.app {C B : Nat} {W W' : World} {v v' : Value} {ts us : List Tr} {ps rs : List TV} (h1 : ps.length = ts.length) (h3 : ∀ j (h : j < ps.length) (h2 : j < ts.length), TreeV (fun b => C ≤ b ∧ v.ownBlock ≠ some b) W ps[j].val ts[j] ∧ (ps[j].a = none → ps[j].n = 0 ∧ ps[j].c = 0))
    (k1 : rs.length = us.length) (k3 : ∀ j (h : j < rs.length) (h2 : j < us.length), TreeV (fun b => C ≤ b ∧ v.ownBlock ≠ some b) W rs[j].val us[j] ∧ (rs[j].a = none → rs[j].n = 0 ∧ rs[j].c = 0))
    (hr : RowT B W' v' (ps ++ rs)) (hg : W.grownBy W' v.ownBlock) (ho : v'.ownBlock = v.ownBlock ∨ v'.ownBlock = some W.heap.size) : TreesQ C B W' v' (ts ++ us) := by
  have mv : ∀ {x : Value} {t : Tr}, TreeV (fun b => C ≤ b ∧ v.ownBlock ≠ some b) W x t → TreeV (fun b => C ≤ b ∧ v'.ownBlock ≠ some b) W' x t := by
    intro x t h
    refine h.move (fun b hb ⟨_, _, hc⟩ => ⟨⟨hb.1, fun e => ?_⟩, hg.block b (cell_lt hc) (fun e => hb.2 e.symm)⟩)
    have hlt := cell_lt hc
    rcases ho with ho | ho
    · exact hb.2 (ho ▸ e)
    · rw [ho] at e
      injection e with e
      simp only at hlt
      omega
  refine ⟨ps ++ rs, by simp [h1, k1], hr, fun j a b => ?_⟩
  by_cases hj : j < ps.length
  · rw [List.getElem_append_left hj, List.getElem_append_left (by omega)]
    have := h3 j hj (by omega)
    exact ⟨mv this.1, this.2⟩
  · rw [List.getElem_append_right (by omega), List.getElem_append_right (by omega)]
    have hjr : j - ps.length < rs.length := by simp at a; omega
    have := k3 (j - ps.length) hjr (by omega)
    simp only [h1] at this ⊢
    exact ⟨mv this.1, this.2⟩
theorem RowT.cellsAt {B : Nat} {W : World} {v : Value} {qs : List TV} (h : RowT B W v qs) {j : Nat} (hj : j < qs.length) : ∃ g cap, v = .slice (some ⟨g, 0, none⟩) qs.length cap ∧ CellsAt W g (j * 4) qs[j].val := by
  rcases id h.2 with ⟨_, h0⟩ | ⟨g, cap, cur, rfl, _⟩
  · omega
  · exact ⟨g, cap, rfl, owns_cellsR h j hj⟩
/-- The parts of a parse as news. -/
theorem TreeV.newsT {ok : Nat → Prop} {W : World} {q : TV} {r e : Int} {wd : List UInt8} {sub : List Tr} (h : TreeV ok W q.val (.node r e wd sub)) (h0 : q.a = none → q.n = 0 ∧ q.c = 0) :
    ∃ rs : List TV, rs.length = sub.length ∧ NewsT W (.slice q.a q.n q.c) rs ∧ ∀ j (h : j < rs.length) (h2 : j < sub.length), TreeV ok W rs[j].val sub[j] := by
  obtain ⟨qr, qe, qw, qa, qn, qc⟩ := q
  cases h with
  | mk _ _ w' _ a cap vs hs hsub =>
    simp only at h0
    rcases hs with hs | ⟨b, off, ha, hok, hc⟩
    · subst hs
      refine ⟨[], rfl, ?_, fun j h => by simp at h⟩
      cases qa with
      | none => exact .inl ⟨by have := h0 rfl; simp [this.2], rfl⟩
      | some ad => exact .inr ⟨ad, qc, rfl, fun j u hu => by simp at hu⟩
    · subst ha
      have hform : ∀ j : Nat, ∃ q : TV, j < sub.length → vs j = q.val := fun j => by
        by_cases hj : j < sub.length
        · obtain ⟨q, hq⟩ := (hsub j hj).form
          exact ⟨q, fun _ => hq⟩
        · exact ⟨⟨0, 0, ByteArray.empty, none, 0, 0⟩, fun h => absurd h hj⟩
      refine ⟨(List.range sub.length).map (fun j => (hform j).choose), by simp, .inr ⟨⟨b, off, none⟩, qc, by simp, fun j u hu => ?_⟩, fun j h1 h2 => ?_⟩
      · have hadd : ∀ k, (⟨b, off, none⟩ : Addr).add k = ⟨b, off + k, none⟩ := fun k => by unfold Addr.add; split <;> simp_all
        rw [hadd]
        obtain ⟨qs, hqs⟩ : ∃ qs, qs = (List.range sub.length).map (fun j => (hform j).choose) := ⟨_, rfl⟩
        rw [← hqs] at hu
        have hl : qs.length = sub.length := by rw [hqs]; simp
        have hjl : j < qs.length * 4 := by
          have := (List.getElem?_eq_some_iff.1 hu).1
          rwa [cells_len] at this
        obtain ⟨m, hm⟩ : ∃ m, j = m * 4 ∨ j = m * 4 + 1 ∨ j = m * 4 + 2 ∨ j = m * 4 + 3 := ⟨j / 4, by omega⟩
        have hml : m < qs.length := by omega
        obtain ⟨f0, f1, f2, f3⟩ := flat4 qs m hml
        have hqm : vs m = qs[m].val := by
          rw [(hform m).choose_spec (by omega)]
          congr 1
          simp [hqs]
        obtain ⟨x0, x1, x2, x3, hx, c0, c1, c2, c3⟩ := hc m (by omega)
        rw [hqm] at hx
        unfold TV.val at hx
        simp only [Value.agg.injEq, Array.mk.injEq, List.cons.injEq, and_true] at hx
        obtain ⟨rfl, rfl, rfl, rfl⟩ := hx
        rcases hm with rfl | rfl | rfl | rfl
        · rw [f0] at hu; injection hu with hu; rw [← hu]; exact c0
        · rw [f1] at hu; injection hu with hu; rw [← hu, ← Nat.add_assoc]; exact c1
        · rw [f2] at hu; injection hu with hu; rw [← hu, ← Nat.add_assoc]; exact c2
        · rw [f3] at hu; injection hu with hu; rw [← hu, ← Nat.add_assoc]; exact c3
      · have := hsub j h2
        rw [(hform j).choose_spec h2] at this
        simpa using this
/-- A parse of a row of parts. -/
theorem RowT.treeV {ok : Nat → Prop} {B : Nat} {W : World} {a : Option Addr} {n c : Nat} {rs : List TV} {us : List Tr} (h : RowT B W (.slice a n c) rs) (hl : rs.length = us.length) (hok : ∀ g, a = some ⟨g, 0, none⟩ → ok g) (ht : ∀ j (h : j < rs.length) (h2 : j < us.length), TreeV ok W rs[j].val us[j]) (r e : Int) (wd : List UInt8) :
    TreeV ok W (TV.val ⟨r, e, ⟨wd.toArray⟩, a, n, c⟩) (.node r e wd us) := by
  have hn : n = us.length := by
    rcases h.2 with ⟨he, h0⟩ | ⟨g, cap, cur, he, _⟩
    · injection he with _ he _
      omega
    · injection he with _ he _
      omega
  subst hn
  refine .mk r e wd us a c (fun j => match rs[j]? with | some q => q.val | none => .agg #[]) ?_ (fun j hj => ?_)
  · rcases id h.2 with ⟨_, h0⟩ | ⟨g, cap, cur, he, _⟩
    · exact .inl (List.eq_nil_of_length_eq_zero (by omega))
    · injection he with he _ _
      refine .inr ⟨g, 0, he, hok g he, fun j hj => ?_⟩
      have hjr : j < rs.length := by omega
      subst he
      rw [List.getElem?_eq_getElem hjr, Nat.zero_add]
      have h' := h
      unfold RowT at h'
      rw [hl] at h'
      exact owns_cellsR h' j hjr
  · have hjr : j < rs.length := by omega
    rw [List.getElem?_eq_getElem hjr]
    exact ht j hjr hj
end Go.Proofs.YthmnffgjckpkiaaGreatDoor
