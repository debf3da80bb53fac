/-
  Parses in memory of their own; the contract of 'copied' of package english.
  Contracts of 'sentence', 'Count', 'Parses' and 'Sentence' of package english.
-/
import Derived.Test.YthmnffgjckpkiaaGreatDoorGEngC
import Derived.Deep.AppendLies
import Derived.Test.YthmnffgjckpkiaaGreatDoorGEngF
import Derived.Test.YthmnffgjckpkiaaGreatDoorGEngD
namespace Go.Proofs.YthmnffgjckpkiaaGreatDoor
open Go Go.RowKit Go.Shelf

theorem heap_atC {w : World} {o : Obj} {k : Nat} (h : k = w.heap.size) : (w.alloc o).heap[k]? = some o := by rw [h]; exact World.alloc_heap_new w o
/-- No step has too many parts. -/
inductive Slim : Tr → Prop
  | mk (r e : Int) (w : List UInt8) (sub : List Tr) (h : sub.length ≤ 1000) (hs : ∀ t ∈ sub, Slim t) : Slim (.node r e w sub)

/-- The value v is the parse t in the world W; its blocks lie between lo and hi, those of one part apart from those of another one and from the row of the parts. -/
inductive TreeI (W : World) : Value → Tr → Nat → Nat → Prop
  | mk (r e : Int) (wd : List UInt8) (sub : List Tr) (a : Option Addr) (cap lo hi b : Nat) (vs : Nat → Value) (L H : Nat → Nat)
      (hs : sub = [] ∨ (a = some ⟨b, 0, none⟩ ∧ lo ≤ b ∧ b < hi ∧ (∃ cs T, W.heap[b]? = some (.cells cs T (0, 0))) ∧ ∀ j, j < sub.length → CellsAt W b (j * 4) (vs j)))
      (hb : ∀ j, j < sub.length → b < L j ∨ H j ≤ b)
      (hin : ∀ j, j < sub.length → lo ≤ L j ∧ H j ≤ hi)
      (hdis : ∀ i j, i < j → j < sub.length → H i ≤ L j)
      (h : ∀ j (hj : j < sub.length), TreeI W (vs j) sub[j] (L j) (H j)) : TreeI W (.agg #[.int .u8 r, .int .i64 e, .string ⟨wd.toArray⟩, .slice a sub.length cap]) (.node r e wd sub) lo hi
theorem TreeI.move {W W' : World} {v : Value} {t : Tr} {lo hi : Nat} (h : TreeI W v t lo hi) (hb : ∀ b, lo ≤ b → b < hi → (∃ o v, W.cell? ⟨b, o + 1, none⟩ = some v) → W'.heap[b]? = W.heap[b]?) : TreeI W' v t lo hi := by
  induction h with
  | mk r e wd sub a cap lo hi b vs L H hs hrow hin hdis _ ih =>
    refine .mk r e wd sub a cap lo hi b vs L H ?_ hrow hin hdis (fun j hj => ih j hj (fun c h1 h2 h3 => hb c (Nat.le_trans (hin j hj).1 h1) (Nat.lt_of_lt_of_le h2 (hin j hj).2) h3))
    rcases hs with hs | ⟨ha, h1, h2, hz, hc⟩
    · exact .inl hs
    · by_cases h0 : sub = []
      · exact .inl h0
      · have hc0 := hc 0 (List.length_pos_iff.2 h0)
        have hk := hb b h1 h2 (by obtain ⟨_, x1, _, _, _, _, h, _⟩ := hc0; exact ⟨_, x1, h⟩)
        exact .inr ⟨ha, h1, h2, by obtain ⟨cs, T, hz⟩ := hz; exact ⟨cs, T, hk.trans hz⟩, fun j hj => (hc j hj).kept hk⟩
theorem TreeI.stays {W W' : World} {v : Value} {t : Tr} {lo hi : Nat} (h : TreeI W v t lo hi) (hb : Below W.heap.size W W') : TreeI W' v t lo hi :=
  h.move (fun b _ _ ⟨_, _, hc⟩ => hb.block b (cell_lt hc))
theorem TreeI.mono {W : World} {v : Value} {t : Tr} {lo hi lo' hi' : Nat} (h : TreeI W v t lo hi) (h1 : lo' ≤ lo) (h2 : hi ≤ hi') : TreeI W v t lo' hi' := by
  cases h with
  | mk r e wd sub a cap lo hi b vs L H hs hrow hin hdis hsub =>
    refine .mk r e wd sub a cap lo' hi' b vs L H ?_ hrow (fun j hj => ⟨Nat.le_trans h1 (hin j hj).1, Nat.le_trans (hin j hj).2 h2⟩) hdis hsub
    rcases hs with hs | ⟨ha, h3, h4, hz, hc⟩
    · exact .inl hs
    · exact .inr ⟨ha, Nat.le_trans h1 h3, Nat.lt_of_lt_of_le h4 h2, hz, hc⟩
theorem TreeI.treeV {W : World} {v : Value} {t : Tr} {lo hi : Nat} (h : TreeI W v t lo hi) : TreeV (fun b => lo ≤ b ∧ b < hi) W v t := by
  induction h with
  | mk r e wd sub a cap lo hi b vs L H hs hrow hin hdis _ ih =>
    refine .mk r e wd sub a cap vs ?_ (fun j hj => (ih j hj).move (fun c h _ => ⟨⟨Nat.le_trans (hin j hj).1 h.1, Nat.lt_of_lt_of_le h.2 (hin j hj).2⟩, rfl⟩))
    rcases hs with hs | ⟨ha, h1, h2, _, hc⟩
    · exact .inl hs
    · exact .inr ⟨b, 0, ha, ⟨h1, h2⟩, fun j hj => by rw [Nat.zero_add]; exact hc j hj⟩

/-- A parse's value, part by part. -/
structure TV where
  r : Int
  e : Int
  w : ByteArray
  a : Option Addr
  n : Nat
  c : Nat
def TV.val (q : TV) : Value := .agg #[.int .u8 q.r, .int .i64 q.e, .string q.w, .slice q.a q.n q.c]
def TV.cells (q : TV) : List Value := [.int .u8 q.r, .int .i64 q.e, .string q.w, .slice q.a q.n q.c]
theorem TreeV.form {ok : Nat → Prop} {W : World} {v : Value} {t : Tr} (h : TreeV ok W v t) : ∃ q : TV, v = q.val := by
  cases h with
  | mk r e w sub a cap vs hs h => exact ⟨⟨r, e, ⟨w.toArray⟩, a, sub.length, cap⟩, rfl⟩
theorem TreeI.form {W : World} {v : Value} {t : Tr} {lo hi : Nat} (h : TreeI W v t lo hi) : ∃ q : TV, v = q.val := h.treeV.form
theorem cells_len (qs : List TV) : (qs.flatMap TV.cells).length = qs.length * 4 := by
  induction qs with
  | nil => rfl
  | cons q qs ih => simp [TV.cells, ih]; omega
theorem flat4 (qs : List TV) : ∀ j (h : j < qs.length), (qs.flatMap TV.cells)[j * 4]? = some (.int .u8 qs[j].r) ∧ (qs.flatMap TV.cells)[j * 4 + 1]? = some (.int .i64 qs[j].e) ∧ (qs.flatMap TV.cells)[j * 4 + 2]? = some (.string qs[j].w) ∧ (qs.flatMap TV.cells)[j * 4 + 3]? = some (.slice qs[j].a qs[j].n qs[j].c) := by
  induction qs with
  | nil => intro j h; simp at h
  | cons q qs ih =>
    intro j h
    cases j with
    | zero => simp [TV.cells]
    | succ j =>
      have := ih j (by simpa using h)
      simp only [List.flatMap_cons, TV.cells, List.cons_append, List.nil_append]
      rw [show (j + 1) * 4 = j * 4 + 1 + 1 + 1 + 1 by omega, show j * 4 + 1 + 1 + 1 + 1 + 1 = (j * 4 + 1) + 1 + 1 + 1 + 1 by omega, show j * 4 + 1 + 1 + 1 + 1 + 2 = (j * 4 + 2) + 1 + 1 + 1 + 1 by omega, show j * 4 + 1 + 1 + 1 + 1 + 3 = (j * 4 + 3) + 1 + 1 + 1 + 1 by omega]
      simpa using this
theorem owns_cells {W : World} {base g n cap : Nat} {qs : List TV} (h : W.ownsRow base 36 4 (.slice (some ⟨g, 0, none⟩) n cap) n (qs.flatMap TV.cells)) : ∀ j (hj : j < qs.length), CellsAt W g (j * 4) qs[j].val := by
  intro j hj
  have hadd : ∀ k, (⟨g, 0, none⟩ : Addr).add k = ⟨g, k, none⟩ := fun k => by unfold Addr.add; split <;> simp_all
  obtain ⟨h0, h1, h2, h3⟩ := flat4 qs j hj
  have c0 := h.cells (g := g) rfl _ _ h0
  have c1 := h.cells (g := g) rfl _ _ h1
  have c2 := h.cells (g := g) rfl _ _ h2
  have c3 := h.cells (g := g) rfl _ _ h3
  rw [hadd] at c0 c1 c2 c3
  exact ⟨_, _, _, _, rfl, c0, c1, c2, c3⟩

/-- A row of parses that grows: k of them have come, each in memory of its own. -/
def ForG (B0 : Nat) (v : Value) (ts : List Tr) (k : Nat) (W : World) : Prop :=
  ∃ (qs : List TV) (L H : Nat → Nat), qs.length = k ∧ W.ownsRow B0 36 4 v k (qs.flatMap TV.cells) ∧ (∀ j (h : j < qs.length) (h2 : j < ts.length), TreeI W qs[j].val ts[j] (L j) (H j)) ∧
    (∀ j, j < k → B0 ≤ L j ∧ H j ≤ W.heap.size) ∧ (∀ i j, i < j → j < k → H i ≤ L j) ∧ (∀ b, v.ownBlock = some b → b < W.heap.size ∧ ∀ j, j < k → b < L j ∨ H j ≤ b)
theorem ForG.nil (B0 : Nat) (ts : List Tr) (W : World) : ForG B0 (.slice none 0 0) ts 0 W :=
  ⟨[], fun _ => 0, fun _ => 0, rfl, World.ownsRow_nil _ _ _ _, fun j h => by simp at h, fun j h => by omega, fun i j _ h => by omega, fun b h => by simp [Value.ownBlock] at h⟩
theorem ForG.below {B0 : Nat} {v : Value} {ts : List Tr} {k : Nat} {W W' : World} (h : ForG B0 v ts k W) (hb : Below W.heap.size W W') : ForG B0 v ts k W' := by
  obtain ⟨qs, L, H, hk, hown, ht, hin, hdis, hrow⟩ := h
  exact ⟨qs, L, H, hk, ownsRow_below hown hb, fun j h1 h2 => (ht j h1 h2).stays hb, fun j hj => ⟨(hin j hj).1, Nat.le_trans (hin j hj).2 hb.size⟩, hdis, fun b hbb => ⟨Nat.lt_of_lt_of_le (hrow b hbb).1 hb.size, (hrow b hbb).2⟩⟩
/-- One parse more. -/
theorem ForG.step' {B0 k g cap : Nat} {v : Value} {ts : List Tr} {W W1 w4 : World} {qs : List TV} {L H : Nat → Nat} {q : TV} (hk : qs.length = k) (hkt : k < ts.length)
    (ht : ∀ j (h : j < qs.length) (h2 : j < ts.length), TreeI W qs[j].val ts[j] (L j) (H j)) (hin : ∀ j, j < k → B0 ≤ L j ∧ H j ≤ W.heap.size) (hdis : ∀ i j, i < j → j < k → H i ≤ L j) (hrow : ∀ b, v.ownBlock = some b → b < W.heap.size ∧ ∀ j, j < k → b < L j ∨ H j ≤ b)
    (hb : Below W.heap.size W W1) (hB0 : B0 ≤ W.heap.size) (hq : TreeI W1 q.val ts[k] W.heap.size W1.heap.size)
    (hown4 : w4.ownsRow B0 36 4 (.slice (some ⟨g, 0, none⟩) (k + 1) cap) (k + 1) (qs.flatMap TV.cells ++ q.cells)) (hs4 : W1.heap.size ≤ w4.heap.size) (hold : ∀ c, B0 ≤ c → c < W1.heap.size → v.ownBlock ≠ some c → w4.heap[c]? = W1.heap[c]?) (hg : v.ownBlock = some g ∨ W1.heap.size ≤ g) (hlt : g < w4.heap.size) :
    ForG B0 (.slice (some ⟨g, 0, none⟩) (k + 1) cap) ts (k + 1) w4 := by
  have hs := hb.size
  refine ⟨qs ++ [q], fun j => if j = k then W.heap.size else L j, fun j => if j = k then W1.heap.size else H j, by simp [hk], by rw [List.flatMap_append]; simpa using hown4, ?_, ?_, ?_, ?_⟩
  · intro j h1 h2
    by_cases hj : j < qs.length
    · rw [List.getElem_append_left hj]
      have hne : j ≠ k := by omega
      simp only [if_neg hne]
      have h3 := ((ht j hj h2).stays hb)
      refine h3.move (fun c hc1 hc2 _ => ?_)
      have h4 := hin j (by omega)
      exact hold c (by omega) (by omega) (fun e => by have := (hrow c e).2 j (by omega); omega)
    · obtain rfl : j = k := by simp at h1; omega
      rw [List.getElem_append_right (by omega)]
      simp only [hk, Nat.sub_self, List.getElem_cons_zero, if_true]
      refine hq.move (fun c hc1 hc2 _ => hold c (by omega) hc2 (fun e => ?_))
      have := (hrow c e).1
      omega
  · intro j hj
    by_cases hjk : j = k
    · simp only [hjk, if_true]; omega
    · simp only [if_neg hjk]; have := hin j (by omega); omega
  · intro i j hij hj
    have hik : i ≠ k := by omega
    by_cases hjk : j = k
    · simp only [hjk, if_true, if_neg hik]; exact (hin i (by omega)).2
    · simp only [if_neg hjk, if_neg hik]; exact hdis i j hij (by omega)
  · intro b hbb
    obtain rfl : g = b := by simpa [Value.ownBlock] using hbb
    refine ⟨hlt, fun j hj => ?_⟩
    rcases hg with hg | hg
    · have h5 := hrow g hg
      by_cases hjk : j = k
      · simp only [hjk, if_true]; omega
      · simp only [if_neg hjk]; exact h5.2 j (by omega)
    · by_cases hjk : j = k
      · simp only [hjk, if_true]; omega
      · simp only [if_neg hjk]; have := hin j (by omega); omega
theorem ForG.step {B0 k g cap : Nat} {v : Value} {ts : List Tr} {W W1 w4 : World} {qs : List TV} {L H : Nat → Nat} {q : TV} {tmp : Obj} (hk : qs.length = k) (hkt : k < ts.length)
    (ht : ∀ j (h : j < qs.length) (h2 : j < ts.length), TreeI W qs[j].val ts[j] (L j) (H j)) (hin : ∀ j, j < k → B0 ≤ L j ∧ H j ≤ W.heap.size) (hdis : ∀ i j, i < j → j < k → H i ≤ L j) (hrow : ∀ b, v.ownBlock = some b → b < W.heap.size ∧ ∀ j, j < k → b < L j ∨ H j ≤ b)
    (hb : Below W.heap.size W W1) (hB0 : B0 ≤ W.heap.size) (hq : TreeI W1 q.val ts[k] W.heap.size W1.heap.size)
    (hown4 : w4.ownsRow B0 36 4 (.slice (some ⟨g, 0, none⟩) (k + 1) cap) (k + 1) (qs.flatMap TV.cells ++ q.cells)) (hgrow : (W1.alloc tmp).grownBy w4 v.ownBlock) (hg : v.ownBlock = some g ∨ g = W1.heap.size + 1) (hlt : g < w4.heap.size) :
    ForG B0 (.slice (some ⟨g, 0, none⟩) (k + 1) cap) ts (k + 1) w4 := by
  have hs4 := hgrow.size
  simp only [World.size_alloc] at hs4
  exact ForG.step' hk hkt ht hin hdis hrow hb hB0 hq hown4 (by omega) (fun c _ hc hn => (hgrow.block c (by simp; omega) (fun e => hn e.symm)).trans (Below.heap_alloc _ _ _ (by omega))) (by rcases hg with h | h; exact .inl h; exact .inr (by omega)) hlt
/-- The row is the parts of a parse. -/
theorem ForG.tree {B0 lo : Nat} {a : Option Addr} {cap : Nat} {ts : List Tr} {W W' : World} (h : ForG B0 (.slice a ts.length cap) ts ts.length W) (hlo : lo ≤ B0) (hs : W.heap.size ≤ W'.heap.size) (hold : ∀ c, B0 ≤ c → c < W.heap.size → W'.heap[c]? = W.heap[c]?) (r e : Int) (wd : List UInt8) :
    TreeI W' (.agg #[.int .u8 r, .int .i64 e, .string ⟨wd.toArray⟩, .slice a ts.length cap]) (.node r e wd ts) lo W'.heap.size := by
  obtain ⟨qs, L, H, hk, hown, ht, hin, hdis, hrow⟩ := h
  obtain ⟨b, hb⟩ : ∃ b, b = (match a with | some x => x.block | none => 0) := ⟨_, rfl⟩
  refine .mk r e wd ts a cap lo W'.heap.size b (fun j => match qs[j]? with | some q => q.val | none => .agg #[]) L H ?_ ?_ (fun j hj => ?_) hdis (fun j hj => ?_)
  · rcases hown.2 with ⟨he, h0⟩ | ⟨g, cap', cur, he, hbg, hgc, _⟩
    · exact .inl (List.eq_nil_of_length_eq_zero h0)
    · cases he
      simp only at hb
      subst hb
      have hglt := (Array.getElem?_eq_some_iff.1 hgc).1
      refine .inr ⟨rfl, by omega, by omega, ⟨cur, _, (hold b hbg hglt).trans hgc⟩, fun j hj => ?_⟩
      have hjq : j < qs.length := by omega
      rw [List.getElem?_eq_getElem hjq]
      exact (owns_cells hown j hjq).kept (hold b hbg hglt)
  · intro j hj
    rcases hown.2 with ⟨he, h0⟩ | ⟨g, cap', cur, he, hbg, hgc, _⟩
    · omega
    · cases he
      simp only at hb
      subst hb
      exact (hrow b rfl).2 j hj
  · have := hin j hj
    omega
  · have hjq : j < qs.length := by omega
    simp only [List.getElem?_eq_getElem hjq]
    refine (ht j hjq hj).move (fun c h1 h2 _ => ?_)
    have := hin j hj
    exact hold c (by omega) (by omega)

theorem cell_rowC {W : World} {b : Nat} {cs : Array Value} {T : TypeId} {fr : Nat × Nat} (h : W.heap[b]? = some (.cells cs T fr)) (k : Nat) : W.cell? ⟨b, k, none⟩ = cs[k]? := by simp [World.cell?, h]
theorem info_tree : (Tryz.prog.info? 36).map (fun i => (i.zero, i.size, i.bytes)) = some (some (.agg #[.int .u8 0, .int .i64 0, .string ByteArray.empty, .slice none 0 0]), 4, 56) := by kernel_rfl

set_option maxRecDepth 100000 in
set_option maxHeartbeats 4000000 in
/-- **copied.** -/
theorem copied_any : ∀ (t : Tr), Slim t → ∀ (w : World) (v : Value), TreeV (fun _ => True) w v t →
    Calls Tryz.prog 50 #[v] w fun e w' => ∃ v', e = .returned v' ∧ TreeI w' v' t w.heap.size w'.heap.size ∧ Below w.heap.size w w' := by
  obtain ⟨i0, hi, hz0, hz1, hz2⟩ := info_parts info_tree
  intro t
  induction t using Tr.ind with
  | h r e wd sub ih =>
    intro hslim w v hv
    cases hslim with
    | mk _ _ _ _ hlen hss =>
    cases hv with
    | mk _ _ _ _ a cap vs hs hsub =>
    obtain ⟨n, hn⟩ : ∃ n, n = sub.length := ⟨_, rfl⟩
    rw [← hn] at hlen ⊢
    have HN := Lib.hid hn
    have HS := Lib.hid hs
    have HSub := Lib.hid hsub
    have HIh := Lib.hid ih
    have HSS := Lib.hid hss
    clear hn hs hsub ih hss
    go_enter Tryz.func50, Tryz.ntmps50
    go_wp2
    obtain ⟨W1, hW1⟩ : ∃ W1, W1 = (w.alloc (.cells #[.int .u8 r, .int .i64 e, .string ⟨wd.toArray⟩, .slice a n cap] 36)).alloc (.cells #[.int .u8 0, .int .i64 0, .string ⟨#[]⟩, .slice none 0 0] 36) := ⟨_, rfl⟩
    have hB1 : Below w.heap.size w W1 := by rw [hW1]; exact ((Below.refl _ _).alloc (Nat.le_refl _) _).alloc (by simp) _
    have x1 : W1.heap[w.heap.size]? = some (.cells #[.int .u8 r, .int .i64 e, .string ⟨wd.toArray⟩, .slice a n cap] 36 (0, 0)) := by rw [hW1, Below.heap_alloc _ _ _ (by simp)]; exact heap_atC rfl
    have x2 : W1.heap[w.heap.size + 1]? = some (.cells #[.int .u8 0, .int .i64 0, .string ⟨#[]⟩, .slice none 0 0] 36 (0, 0)) := by rw [hW1]; exact heap_atC (by simp)
    have hz1' : W1.heap.size = w.heap.size + 2 := by rw [hW1]; simp
    rw [← hW1]
    have HB1 := Lib.hid hB1
    have HX1 := Lib.hid x1
    have HX2 := Lib.hid x2
    have HZ1 := Lib.hid hz1'
    clear hW1 hB1 x1 x2 hz1'
    go_loopw [3, 9] (fun s q wr => ∃ k : Nat, k ≤ n ∧ q = .int .i64 k ∧ ForG W1.heap.size s sub k wr ∧ Below W1.heap.size W1 wr) (fun _ q _ => n - (intOf q).toNat)
    case atStart => exact ⟨0, Nat.zero_le _, rfl, ForG.nil _ _ _, Below.refl _ _⟩
    case round =>
      obtain ⟨k, hk, rfl, hF, hB⟩ := hrel
      have HF := Lib.hid hF
      have HB := Lib.hid hB
      obtain ⟨_, _, _, _, hown, _⟩ := hF
      obtain ⟨va, vc, rfl⟩ := owns_form hown
      clear hown hB
      by_cases hlt : k < n
      · have hsb : sub ≠ [] := by intro h; have := HN.out; rw [h] at this; simp at this; omega
        obtain ⟨b, off, rfl, _, hc⟩ := HS.out.resolve_left hsb
        have hkl : k < sub.length := by rw [← HN.out]; exact hlt
        have hBw : Below w.heap.size w wr := HB1.out.trans (HB.out.mono HB1.out.size)
        have hck := hc k hkl
        have htv := HSub.out k hkl
        obtain ⟨q, hq⟩ := htv.form
        obtain ⟨y0, y1, y2, y3, hy, c0, c1, c2, c3⟩ := hck
        rw [hq] at hy htv
        unfold TV.val at hy
        simp only [Value.agg.injEq, Array.mk.injEq, List.cons.injEq, and_true] at hy
        obtain ⟨rfl, rfl, rfl, rfl⟩ := hy
        have d0 := cell_kept' hBw c0
        have d1 := cell_kept' hBw c1
        have d2 := cell_kept' hBw c2
        have d3 := cell_kept' hBw c3
        have HTv := Lib.hid htv
        have HBw := Lib.hid hBw
        clear c0 c1 c2 c3 hc hq htv hBw
        go_wp2_with fail
        obtain ⟨w2, hw2⟩ : ∃ w2, w2 = wr.alloc (.cells #[.int .u8 q.r, .int .i64 q.e, .string q.w, .slice q.a q.n q.c] 36) := ⟨_, rfl⟩
        have hb2 : Below wr.heap.size wr w2 := by rw [hw2]; exact (Below.refl _ _).alloc (Nat.le_refl _) _
        rw [← hw2]
        clear hw2 d0 d1 d2 d3
        have HB2 := Lib.hid hb2
        clear hb2
        refine (HIh.out sub[k] (List.getElem_mem hkl) (HSS.out _ (List.getElem_mem hkl)) w2 _ (HTv.out.move (fun c _ ⟨o, x, hx⟩ => ⟨trivial, (HB2.out.block c (Nat.lt_of_lt_of_le (cell_lt hx) HBw.out.size)).trans (HBw.out.block c (cell_lt hx))⟩))).mono ?_
        rintro _ w3 ⟨v', rfl, hq, hb3⟩
        obtain ⟨p, rfl⟩ := hq.form
        obtain ⟨qs, L, H, hqk, hown, hti, hin, hdis, hrow⟩ := HF.out.below HB2.out
        have HT := Lib.hid hti
        have HIn := Lib.hid hin
        have HDis := Lib.hid hdis
        have HRow := Lib.hid hrow
        have HQk := Lib.hid hqk
        have HO := Lib.hid hown
        have HO3 := Lib.hid (ownsRow_below hown hb3)
        have HQ := Lib.hid hq
        have HB3 := Lib.hid hb3
        have hsz : W1.heap.size ≤ w3.heap.size := Nat.le_trans HB.out.size (Nat.le_trans HB2.out.size hb3.size)
        clear hti hin hdis hrow hqk hown hq hb3
        have hz4 : (w3.alloc (.cells #[.int .u8 p.r, .int .i64 p.e, .string p.w, .slice p.a p.n p.c] 36)).heap.size = w3.heap.size + 1 := by simp
        unfold TV.val
        go_wp2_with (at_builtin; refine wpList_append_lies _ rfl _ _ 25 rfl W1.heap.size 36 i0 (.agg #[.int .u8 0, .int .i64 0, .string ByteArray.empty, .slice none 0 0]) 4 56 Tryz.underlying25 hi hz0 hz1 hz2 rfl (by decide) _ _ _ rfl (HO3.out.alloc _) ⟨w3.heap.size, 0, none⟩ 1 1 p.cells rfl rfl (news_at (cs := #[.int .u8 p.r, .int .i64 p.e, .string p.w, .slice p.a p.n p.c]) (t := 36) (fr := (0, 0)) (World.alloc_heap_new _ _)) (by simp [TV.cells, Value.oneCell']) (by decide) (by unfold maxLen; omega) (by omega) (by simp; omega) (w3.heap.size + 1) hz4 ?_)
        intro g cap4 w4 hown4 hgrow hg hglt
        have hstep := ForG.step HQk.out hkl HT.out HIn.out HDis.out HRow.out HB3.out (Nat.le_trans HB.out.size HB2.out.size) HQ.out hown4 hgrow hg hglt
        have hB4 : Below W1.heap.size W1 w4 := by
          have h3 := HB.out.trans ((HB2.out.trans (HB3.out.mono HB2.out.size)).mono HB.out.size)
          exact (h3.alloc hsz _).grown hgrow (by simp; omega) (fun c hc => (HO3.out.lt c hc).1)
        have HStep := Lib.hid hstep
        have HB4 := Lib.hid hB4
        clear hstep hB4 hown4 hgrow hg hglt hz4
        go_wp2
        go_roundw
        case rel => exact ⟨k + 1, by omega, by go_num, HStep.out, HB4.out⟩
        case measure => simp [intOf]; omega
      · obtain rfl : k = n := by omega
        have x1 := (HB.out.block _ (by have := HZ1.out; omega)).trans HX1.out
        have x2 := (HB.out.block _ (by have := HZ1.out; omega)).trans HX2.out
        have c0 : wr.cell? ⟨w.heap.size, 0, none⟩ = some (.int .u8 r) := by rw [cell_rowC x1]; rfl
        have c1 : wr.cell? ⟨w.heap.size, 1, none⟩ = some (.int .i64 e) := by rw [cell_rowC x1]; rfl
        have c2 : wr.cell? ⟨w.heap.size, 2, none⟩ = some (.string ⟨wd.toArray⟩) := by rw [cell_rowC x1]; rfl
        have c3 : wr.cell? ⟨w.heap.size, 3, none⟩ = some (.slice a k cap) := by rw [cell_rowC x1]; rfl
        have e0 : wr.cell? ⟨w.heap.size + 1, 0, none⟩ = some (.int .u8 0) := by rw [cell_rowC x2]; rfl
        have e1 : wr.cell? ⟨w.heap.size + 1, 1, none⟩ = some (.int .i64 0) := by rw [cell_rowC x2]; rfl
        have e2 : wr.cell? ⟨w.heap.size + 1, 2, none⟩ = some (.string ⟨#[]⟩) := by rw [cell_rowC x2]; rfl
        have e3 : wr.cell? ⟨w.heap.size + 1, 3, none⟩ = some (.slice none 0 0) := by rw [cell_rowC x2]; rfl
        have z3 : wr.frozen? ⟨w.heap.size, 3, none⟩ = false := by simp [World.frozen?, x1]
        have y0 : wr.frozen? ⟨w.heap.size + 1, 0, none⟩ = false := by simp [World.frozen?, x2]
        have y1 : wr.frozen? ⟨w.heap.size + 1, 1, none⟩ = false := by simp [World.frozen?, x2]
        have y2 : wr.frozen? ⟨w.heap.size + 1, 2, none⟩ = false := by simp [World.frozen?, x2]
        have y3 : wr.frozen? ⟨w.heap.size + 1, 3, none⟩ = false := by simp [World.frozen?, x2]
        have HX2' := Lib.hid x2
        clear x1 x2
        go_wp2
        have x2 := HX2'.out
        obtain ⟨W6, hW6⟩ : ∃ W6, W6 = ((((wr.setCell ⟨w.heap.size, 3, none⟩ (.slice va k vc)).setCell ⟨w.heap.size + 1, 0, none⟩ (.int .u8 r)).setCell ⟨w.heap.size + 1, 1, none⟩ (.int .i64 e)).setCell ⟨w.heap.size + 1, 2, none⟩ (.string ⟨wd.toArray⟩)).setCell ⟨w.heap.size + 1, 3, none⟩ (.slice va k vc) := ⟨_, rfl⟩
        have x6 : W6.heap[w.heap.size + 1]? = some (.cells #[.int .u8 r, .int .i64 e, .string ⟨wd.toArray⟩, .slice va k vc] 36 (0, 0)) := by
          have h0 := (Below.heap_setCell wr ⟨w.heap.size, 3, none⟩ (.slice va k vc) (w.heap.size + 1) (by simp)).trans x2
          have h1 := heap_setCell_same _ _ 0 _ _ (.int .u8 r) h0
          have h2 := heap_setCell_same _ _ 1 _ _ (.int .i64 e) h1
          have h3 := heap_setCell_same _ _ 2 _ _ (.string ⟨wd.toArray⟩) h2
          have h4 := heap_setCell_same _ _ 3 _ _ (.slice va k vc) h3
          rw [hW6, h4]
          rfl
        have g0 : W6.cell? ⟨w.heap.size + 1, 0, none⟩ = some (.int .u8 r) := by rw [cell_rowC x6]; rfl
        have g1 : W6.cell? ⟨w.heap.size + 1, 1, none⟩ = some (.int .i64 e) := by rw [cell_rowC x6]; rfl
        have g2 : W6.cell? ⟨w.heap.size + 1, 2, none⟩ = some (.string ⟨wd.toArray⟩) := by rw [cell_rowC x6]; rfl
        have g3 : W6.cell? ⟨w.heap.size + 1, 3, none⟩ = some (.slice va k vc) := by rw [cell_rowC x6]; rfl
        have hsz6 : W6.heap.size = wr.heap.size := by rw [hW6]; simp
        have hold : ∀ c, W1.heap.size ≤ c → c < wr.heap.size → W6.heap[c]? = wr.heap[c]? := fun c h1 h2 => by
          have := HZ1.out
          rw [hW6, Below.heap_setCell _ _ _ _ (by simp; omega), Below.heap_setCell _ _ _ _ (by simp; omega), Below.heap_setCell _ _ _ _ (by simp; omega), Below.heap_setCell _ _ _ _ (by simp; omega), Below.heap_setCell _ _ _ _ (by simp; omega)]
        have hB6 : Below w.heap.size w W6 := by
          rw [hW6]
          exact (((((HB1.out.trans (HB.out.mono HB1.out.size)).setCell (by simp) _).setCell (by simp) _).setCell (by simp) _).setCell (by simp) _).setCell (by simp) _
        rw [← hW6]
        have hfin : TreeI W6 (.agg #[.int .u8 r, .int .i64 e, .string ⟨wd.toArray⟩, .slice va k vc]) (.node r e wd sub) w.heap.size W6.heap.size := by
          have hF := HF.out
          have hk := HN.out
          subst hk
          exact hF.tree (by have := HZ1.out; omega) (by omega) hold r e wd
        refine bodyPost_ret (v := .agg #[.int .u8 r, .int .i64 e, .string ⟨wd.toArray⟩, .slice va k vc]) (by simp [results, Tryz.results50, go_sem, g0, g1, g2, g3]) rfl ⟨_, rfl, hfin, hB6⟩
end Go.Proofs.YthmnffgjckpkiaaGreatDoor
namespace Go.Proofs.YthmnffgjckpkiaaGreatDoor
open Go Go.RowKit Go.Shelf

theorem sentence_any {m gb : Nat} {g : Gr} {ended : Bool} {W0 : World} (hg : Gram m gb g ended W0) (hG : MapG g W0.heap[m]?) :
    Calls Tryz.prog 48 #[.pointer (some ⟨gb, 0, none⟩)] W0 fun e W' => e = .returned (.int .i64 (if ended then cntS g 1 0 g.toks.length else 0 : Nat)) ∧ W0.grownBy W' (some m) ∧ MapG g W'.heap[m]? := by
  have hs := Since.refl hg.map
  have hC := Lib.hid (count_all hg 1 0 g.toks.length (Nat.le_refl _) W0 hs hG)
  have c2 := hg.ended
  obtain ⟨a, cap, c1, _, _, _⟩ := hg.tok hs
  have few := hg.few
  obtain ⟨n, hn⟩ : ∃ n, n = g.toks.length := ⟨_, rfl⟩
  rw [← hn] at hC c1 few ⊢
  have HG := Lib.hid hG
  clear hn hg hG hs
  cases ended
  · go_enter Tryz.func48, Tryz.ntmps48
    go_wp2
    go_ret
    exact ⟨rfl, ⟨rfl, rfl, rfl, Nat.le_refl _, fun _ _ _ => rfl⟩, HG.out⟩
  · go_enter Tryz.func48, Tryz.ntmps48
    go_wp2_with (go_at_call 78; refine hC.out.mono ?_; rintro e W1 ⟨rfl, hg1, hG1⟩)
    go_ret
    exact ⟨rfl, hg1, hG1⟩

/-- What begin returns, in its three ways. -/
def BeginAll (w : World) (l : List Ent) (toks : List (List UInt8)) (e : Ending) (w' : World) : Prop :=
  (validS l = false ∧ e = .returned (.tuple #[.pointer none, .int .i64 2]) ∧ Below w.heap.size w w') ∨
  (validS l = true ∧ 24 < toks.length ∧ e = .returned (.tuple #[.pointer none, .int .i64 3]) ∧ Below w.heap.size w w') ∨
  (validS l = true ∧ toks.length ≤ 24 ∧ BeginOk w l (bareS toks) (decide (toks.getLast? = some wDot)) e w')
theorem Valid_all (W0 w : World) (ht : Tabs W0 w) (v : Value) (l : List Ent) (hl : EntSlice w v l) :
    Calls Tryz.prog 37 #[v] w fun r w' => r = .returned (.bool (validS l)) ∧ Below w.heap.size w w' := by
  by_cases h100 : l.length ≤ 100
  · exact Valid_short W0 w ht v l hl h100
  · obtain ⟨⟨a, cap, rfl, hcap, hcm, _⟩, _⟩ := hl
    have e : validS l = false := by simp [validS, h100]
    rw [e]
    refine (Valid_long w a l.length cap (by omega) (by unfold maxLen at hcm; omega)).mono ?_
    rintro r w' ⟨rfl, rfl⟩
    exact ⟨rfl, Below.refl _ _⟩
theorem Begin_huge (W0 w : World) (ht : Tabs W0 w) (v tv : Value) (l : List Ent) (hl : EntSlice w v l) (hv : validS l = false) :
    Calls Tryz.prog 47 #[v, tv] w fun e w' => e = .returned (.tuple #[.pointer none, .int .i64 2]) ∧ Below w.heap.size w w' := by
  go_enter Tryz.func47, Tryz.ntmps47
  go_wp2_with (go_at_call 37; refine (hv ▸ Valid_all W0 _ ht v l hl).mono ?_; rintro r w1 ⟨rfl, hb⟩)
  go_ret2
  exact ⟨rfl, hb⟩
theorem valid_100 {l : List Ent} (h : validS l = true) : l.length ≤ 100 := by simp [validS] at h; exact h.1
theorem Begin_any (W0 w : World) (ht : Tabs W0 w) (v tv : Value) (l : List Ent) (hl : EntSlice w v l) (toks : List (List UInt8)) (hts : StrSlice w tv toks) : Calls Tryz.prog 47 #[v, tv] w (BeginAll w l toks) := by
  cases hv : validS l
  · exact (Begin_huge W0 w ht v tv l hl hv).mono fun e w' h => .inl ⟨hv, h.1, h.2⟩
  · have h100 := valid_100 hv
    by_cases h24 : toks.length ≤ 24
    · exact (Begin_good W0 w ht v tv l hl h100 hv toks hts h24).mono fun e w' h => .inr (.inr ⟨hv, h24, h⟩)
    · obtain ⟨a, c, rfl, h1, h2, _⟩ := hts
      exact (Begin_long W0 w ht v l hl h100 hv a _ c (by omega) (by omega)).mono fun e w' h => .inr (.inl ⟨hv, by omega, h.1, h.2⟩)

theorem countS_bad {l : List Ent} {toks : List (List UInt8)} (h : validS l = false) : countS l toks = (0, 2) := by unfold countS; rw [h]; rfl
theorem countS_long {l : List Ent} {toks : List (List UInt8)} (h : validS l = true) (h2 : 24 < toks.length) : countS l toks = (0, 3) := by unfold countS; rw [h, if_neg (by decide), if_pos h2]
theorem countS_good {l : List Ent} {toks : List (List UInt8)} (h : validS l = true) (h2 : toks.length ≤ 24) : countS l toks = (if decide (toks.getLast? = some wDot) = true then cntS ⟨l, bareS toks⟩ 1 0 (bareS toks).length else 0, 0) := by
  unfold countS; rw [h, if_neg (by decide), if_neg (by omega)]; simp
theorem Count_any (W0 w : World) (ht : Tabs W0 w) (v tv : Value) (l : List Ent) (hl : EntSlice w v l) (toks : List (List UInt8)) (hts : StrSlice w tv toks) :
    Calls Tryz.prog 22 #[v, tv] w fun e w' => e = .returned (.tuple #[.int .i64 (countS l toks).1, .int .i64 (countS l toks).2]) ∧ Below w.heap.size w w' := by
  have HB := Lib.hid (Begin_any W0 w ht v tv l hl toks hts)
  clear hts hl ht
  go_enter Tryz.func22, Tryz.ntmps22
  go_wp2_with fail
  refine HB.out.mono ?_
  rintro e w1 (⟨hv, rfl, hb⟩ | ⟨hv, h24, rfl, hb⟩ | ⟨hv, h24, m, gb, rfl, hb, hg, hG, hwm⟩)
  · go_wp2
    go_ret2
    rw [countS_bad hv]
    exact ⟨rfl, hb⟩
  · have HV := Lib.hid (And.intro hv h24)
    clear hv h24
    go_wp2
    go_ret2
    rw [countS_long HV.out.1 HV.out.2]
    exact ⟨rfl, hb⟩
  · have HV := Lib.hid (And.intro hv h24)
    obtain ⟨c, hc⟩ : ∃ c : Nat, c = if decide (toks.getLast? = some wDot) = true then cntS ⟨l, bareS toks⟩ 1 0 (bareS toks).length else 0 := ⟨_, rfl⟩
    have hs1 := sentence_any hg hG
    rw [← hc] at hs1
    have HC := Lib.hid hc
    have HS := Lib.hid hs1
    clear hc hs1
    have HB1 := Lib.hid hb
    have HWm := Lib.hid hwm
    clear hg hG hv h24 hb hwm HB
    go_wp2_with (go_at_call 48; refine HS.out.mono ?_; rintro e W1 ⟨rfl, hg1, hG1⟩)
    go_ret2
    rw [countS_good HV.out.1 HV.out.2, ← HC.out]
    exact ⟨rfl, HB1.out.grown hg1 HB1.out.size (fun k hk => by cases hk; exact HWm.out)⟩

/-- The trees of the model are slim. -/
theorem slim_node0 (r e : Int) (w : List UInt8) : Slim (.node r e w []) := .mk r e w [] (by simp) (by simp)
theorem slim_node1 (r e : Int) (w : List UInt8) (x : Tr) (h : Slim x) : Slim (.node r e w [x]) := .mk r e w [x] (by simp) (fun t ht => by obtain rfl := List.mem_singleton.1 ht; exact h)
theorem slim_node2 (r e : Int) (w : List UInt8) (x y : Tr) (h : Slim x) (h2 : Slim y) : Slim (.node r e w [x, y]) := .mk r e w [x, y] (by simp) (fun t ht => by
  simp only [List.mem_cons, List.not_mem_nil, or_false] at ht
  rcases ht with rfl | rfl
  · exact h
  · exact h2)
theorem treesF_slim (g : Gr) : ∀ (d k f t : Nat) (x : Tr), x ∈ treesF g d k f t → Slim x := by
  intro d
  induction d with
  | zero => intro k f t x hx; simp [treesF] at hx
  | succ d ih =>
    intro k f t x hx
    simp only [treesF] at hx
    split at hx
    · cases hx
    · obtain ⟨r, _, hx⟩ := List.mem_flatMap.1 hx
      unfold rowTrees at hx
      split at hx
      · obtain ⟨o, _, hx⟩ := List.mem_flatMap.1 hx
        split at hx
        · unfold fillF at hx
          split at hx
          · obtain rfl := List.mem_singleton.1 hx; exact slim_node0 _ _ _
          · obtain ⟨y, hy, rfl⟩ := List.mem_map.1 hx
            exact slim_node1 _ _ _ _ (ih _ _ _ _ hy)
          · obtain ⟨s, _, hx⟩ := List.mem_flatMap.1 hx
            split at hx
            · obtain ⟨y, hy, hx⟩ := List.mem_flatMap.1 hx
              obtain ⟨z, hz, rfl⟩ := List.mem_map.1 hx
              exact slim_node2 _ _ _ _ _ (ih _ _ _ _ hy) (ih _ _ _ _ hz)
            · cases hx
        · cases hx
      · cases hx
theorem treesS_slim (g : Gr) (k f t : Nat) (x : Tr) (h : x ∈ treesS g k f t) : Slim x := treesF_slim g _ _ _ _ _ h

theorem ForG.mono {B0 B1 : Nat} {v : Value} {ts : List Tr} {k : Nat} {W : World} (h : ForG B0 v ts k W) (hB : B1 ≤ B0) : ForG B1 v ts k W := by
  obtain ⟨qs, L, H, hk, hown, ht, hin, hdis, hrow⟩ := h
  refine ⟨qs, L, H, hk, ⟨hown.1, ?_⟩, ht, fun j hj => ⟨Nat.le_trans hB (hin j hj).1, (hin j hj).2⟩, hdis, hrow⟩
  rcases hown.2 with h | ⟨g, cap, cur, h1, h2, h3⟩
  · exact .inl h
  · exact .inr ⟨g, cap, cur, h1, Nat.le_trans hB h2, h3⟩
/-- What Parses returns. -/
def ParsesOk (w : World) (x : List Tr × Int) (e : Ending) (w' : World) : Prop := ∃ rv, e = .returned (.tuple #[rv, .int .i64 x.2]) ∧ Below w.heap.size w w' ∧ ForG w.heap.size rv x.1 x.1.length w'
theorem parses_none {w w' : World} {k : Int} (hb : Below w.heap.size w w') : ParsesOk w ([], k) (.returned (.tuple #[.slice none 0 0, .int .i64 k])) w' := ⟨_, rfl, hb, ForG.nil _ _ _⟩

end Go.Proofs.YthmnffgjckpkiaaGreatDoor
