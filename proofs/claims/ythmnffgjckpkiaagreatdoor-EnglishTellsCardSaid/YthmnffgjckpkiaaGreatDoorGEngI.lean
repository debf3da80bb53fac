/-
  The contract of 'Parses' of package english.
  The contract of 'Sentence' of package english.
  The contract of 'Same' of the laws of chapter 34.
  Contracts of 'Example' and 'many' of the laws of chapter 34, and 'awake'.
-/
import Derived.Test.YthmnffgjckpkiaaGreatDoorGEngH
import Derived.Test.YthmnffgjckpkiaaGreatDoorGEngC
import Derived.Test.YthmnffgjckpkiaaGreatDoorGEngB
import Derived.Test.YthmnffgjckpkiaaGreatDoorGLow
namespace Go.Proofs.YthmnffgjckpkiaaGreatDoor
open Go Go.RowKit Go.Shelf
section
variable {F : Fence} {n : Nat} {P : Program} {ops : Array Oper} {md : Region.Mode} {Q : Exit → Act → World → Prop} {S : World → Prop} {e : Nat}
/-- Two numbers may come up. -/
theorem twoM {i j : Nat} {oi oj : Oper} {fuel : Nat} {listed : Array Bool} {a : Act} {w : World} (hi : ops[i]? = some oi) (hj : ops[j]? = some oj) (hr : Region.ready md ops listed = [i, j]) (hwi : Region.wanted oi (yielded ops a.tmps) = true) (hwj : Region.wanted oj (yielded ops a.tmps) = true)
    (h1 : ∀ K : Act → World → Prop, (∀ a w, (i < e → S w) → ((i < e → S w) → wpAnyM F n P md ops Q S e fuel (listed.setIfInBounds i true) a w) → K a w) → Oper.wpIn F n P oi a w K Q)
    (h2 : ∀ K : Act → World → Prop, (∀ a w, (j < e → S w) → ((j < e → S w) → wpAnyM F n P md ops Q S e fuel (listed.setIfInBounds j true) a w) → K a w) → Oper.wpIn F n P oj a w K Q) : wpAnyM F n P md ops Q S e (fuel + 1) listed a w := by
  refine ⟨fun h0 => (by rw [hr] at h0; cases h0), fun k hk => ?_⟩
  rw [hr] at hk
  simp only [List.mem_cons, List.not_mem_nil, or_false] at hk
  rcases hk with rfl | rfl
  · refine wpOpIn_step hi (fun K' hK' => ?_)
    rw [if_pos hwi]
    exact h1 K' (fun a w hS hW => hK' a w ⟨hS, hW hS⟩)
  · refine wpOpIn_step hj (fun K' hK' => ?_)
    rw [if_pos hwj]
    exact h2 K' (fun a w hS hW => hK' a w ⟨hS, hW hS⟩)
/-- append at an operation within a round, and where the new slice lies. -/
theorem wpIn_append_lies {o : Oper} {a : Act} {w : World} {K : Act → World → Prop} (s x : Operand) (t : TypeId)
    (ho : o.op = .call { callee := .builtin .append, args := #[s, x], argTypes := #[t, t] })
    (base : Nat) (e : TypeId) (i : TypeInfo) (z : Value) (size bytes : Nat) (ht : P.underlying t = some (.slice e)) (hi : P.info? e = some i) (hz : i.zero = some z)
    (hsize : i.size = size) (hby : i.bytes = bytes) (hzs : z.cells.size = size) (hsz : 0 < size)
    (v : Value) (k : Nat) (xs : List Value) (hs : a.eval s = v) (hown : w.ownsRow base e size v k xs)
    (ad : Addr) (m c : Nat) (news : List Value) (hx : a.eval x = .slice (some ad) m c) (hl : news.length = m * size) (hnews : ∀ j u, news[j]? = some u → w.cell? (ad.add j) = some u) (h1 : ∀ u ∈ news, u.oneCell' = true)
    (hm : 0 < m) (h63 : k + m ≤ maxLen) (hbytes : (k + m) * bytes ≤ 140737488355328) (hbase : base ≤ w.heap.size) (H : Nat) (hH : w.heap.size = H)
    (h : ∀ g cap w', w'.ownsRow base e size (.slice (some ⟨g, 0, none⟩) (k + m) cap) (k + m) (xs ++ news) → w.grownBy w' v.ownBlock → (v.ownBlock = some g ∨ g = H) → g < w'.heap.size → K (a.put o.dst (.slice (some ⟨g, 0, none⟩) (k + m) cap)) w') : o.wpIn F n P a w K Q := by
  obtain ⟨g, cap, w', hr, h2, h3, h4, h5⟩ := run_append_lies (P := P) w t o.type base e i z size bytes ht hi hz hsize hby hzs hsz v k xs hown ad m c news hl hnews h1 hm h63 hbytes hbase H hH
  unfold Oper.wpIn
  refine ⟨?_, ?_⟩
  · simp [Oper.about, ho, resolve, Target.leads, Sem.run_pure]
  · rw [Oper.semAt_plain F _ _ (by rw [ho]; intro c hc'; cases hc')]
    simp [execOp, ho, resolve, invoke, builtin, hs, hx, hr, Result.andThen]
    exact h g cap w' h2 h3 h4 h5
end

attribute [local go_sem] Oper.semAt_some
/-- What abides of a row of parses, and of the box that holds it. -/
theorem row_small {X Y : World} {row : Option Nat} {m base n : Nat} {v : Value} {xs : List Value} (h : X.ownsRow base 36 4 v n xs) (hm : m < base) (hg : X.grownBy Y row) (hs : SmallStep m X row) : Y.ownsRow base 36 4 v n xs := by
  refine h.kept hg ?_
  rcases h.2 with ⟨rfl, _⟩ | ⟨g, cap, cur, rfl, hb, hgc, _⟩
  · exact .inl rfl
  · refine .inr (fun e => ?_)
    have e' : row = some g := by simpa [Value.ownBlock] using e.symm
    rcases hs g e' with h1 | ⟨o, ho, hl⟩
    · omega
    · rw [hgc] at ho
      cases ho
      rcases hl with hl | ⟨u, hl⟩
      · cases hl
      · injection hl with _ hl; exact absurd hl (by decide)
theorem treeI_small {X Y : World} {row : Option Nat} {m : Nat} {v : Value} {t : Tr} {lo hi : Nat} (h : TreeI X v t lo hi) (hm : m < lo) (hg : X.grownBy Y row) (hs : SmallStep m X row) : TreeI Y v t lo hi := by
  refine h.move (fun b h1 _ ⟨o, x, hx⟩ => hg.block b (cell_lt hx) (fun e => ?_))
  rcases hs b e.symm with h2 | ⟨ob, ho, hl⟩
  · omega
  · unfold World.cell? at hx
    rw [show X.heap[b]? = _ from ho] at hx
    rcases hl with hl | ⟨u, rfl⟩
    · cases ob <;> simp_all [Obj.isCells]
    · simp at hx
theorem ForG.small {X Y : World} {row : Option Nat} {m B0 k : Nat} {v : Value} {ts : List Tr} (h : ForG B0 v ts k X) (hm : m < B0) (hg : X.grownBy Y row) (hs : SmallStep m X row) : ForG B0 v ts k Y := by
  obtain ⟨qs, L, H, hk, hown, ht, hin, hdis, hrow⟩ := h
  exact ⟨qs, L, H, hk, row_small hown hm hg hs, fun j h1 h2 => treeI_small (ht j h1 h2) (by have := (hin j (by omega)).1; omega) hg hs, fun j hj => ⟨(hin j hj).1, Nat.le_trans (hin j hj).2 hg.size⟩, hdis, fun b hb => ⟨Nat.lt_of_lt_of_le (hrow b hb).1 hg.size, (hrow b hb).2⟩⟩

/-- Where the loop of Parses stands. -/
def ParJ (w1 : World) (m box : Nat) (ts : List Tr) (pre : List Tr) (X : World) : Prop :=
  ∃ v, Boxed X box 25 v ∧ ForG (box + 1) v ts pre.length X ∧ X.os = w1.os ∧ X.tape = w1.tape ∧ X.output = w1.output ∧ m < box
theorem parJ_abides {w1 : World} {m box base B : Nat} {ts pre : List Tr} {G : Option Obj → Prop} : Abides (mkR m G box base) B (ParJ w1 m box ts pre) := by
  rintro X Y row hg hr hok ⟨v, hb, hF, h1, h2, h3, hm⟩
  have hs : SmallStep m X row := fun r e => by
    rcases hr r e with ⟨h, _⟩ | ⟨_, _, o, ho, hl⟩
    · exact .inl h
    · exact .inr ⟨o, ho, hl⟩
  exact ⟨v, boxed_small hb (by decide) (by omega) hg hs, hF.small (by omega) hg hs, hg.os.trans h1, hg.tape.trans h2, hg.output.trans h3, hm⟩

/-- Four cells stored at the end of a row. -/
theorem set4 (xs : List Value) (z0 z1 z2 z3 a b c d : Value) : ((((xs ++ [z0, z1, z2, z3]).set xs.length a).set (xs.length + 1) b).set (xs.length + 2) c).set (xs.length + 3) d = xs ++ [a, b, c, d] := by
  induction xs with
  | nil => rfl
  | cons x xs _ => simp
def store4 (w : World) (g o : Nat) (a b c d : Value) : World := (((w.setCell ⟨g, o, none⟩ a).setCell ⟨g, o + 1, none⟩ b).setCell ⟨g, o + 2, none⟩ c).setCell ⟨g, o + 3, none⟩ d
theorem store4_heap {w : World} {g o : Nat} {cs : Array Value} {T : TypeId} {a b c d : Value} (h : w.heap[g]? = some (.cells cs T (0, 0))) : (store4 w g o a b c d).heap[g]? = some (.cells ((((cs.setIfInBounds o a).setIfInBounds (o + 1) b).setIfInBounds (o + 2) c).setIfInBounds (o + 3) d) T (0, 0)) := by
  unfold store4
  exact heap_setCell_same _ _ _ _ _ _ (heap_setCell_same _ _ _ _ _ _ (heap_setCell_same _ _ _ _ _ _ (heap_setCell_same _ _ _ _ _ _ h)))
theorem store4_other {w : World} {g o k : Nat} {a b c d : Value} (h : k ≠ g) : (store4 w g o a b c d).heap[k]? = w.heap[k]? := by
  unfold store4
  rw [Below.heap_setCell _ _ _ _ h, Below.heap_setCell _ _ _ _ h, Below.heap_setCell _ _ _ _ h, Below.heap_setCell _ _ _ _ h]
theorem store4_size {w : World} {g o : Nat} {a b c d : Value} : (store4 w g o a b c d).heap.size = w.heap.size := by unfold store4; simp
theorem row_store4 {w X : World} {base g k cap : Nat} {T : TypeId} {xs : List Value} {z0 z1 z2 z3 a b c d : Value} (h : w.ownsRow base T 4 (.slice (some ⟨g, 0, none⟩) (k + 1) cap) (k + 1) (xs ++ [z0, z1, z2, z3])) (hx : X.heap[g]? = (store4 w g (k * 4) a b c d).heap[g]?) :
    X.ownsRow base T 4 (.slice (some ⟨g, 0, none⟩) (k + 1) cap) (k + 1) (xs ++ [a, b, c, d]) := by
  rcases h.2 with ⟨h0, _⟩ | ⟨g', cap', cur, hv, hb, hg, h1, h2, h3, h4⟩
  · cases h0
  · cases hv
    have hxl : xs.length = k * 4 := by have := h.1; simp at this; omega
    refine ⟨by simp [hxl]; omega, .inr ⟨g, cap, _, rfl, hb, hx.trans (store4_heap hg), h1, h2, by simp [h3], ?_⟩⟩
    simp only [Array.toList_setIfInBounds]
    rw [List.take_set, List.take_set, List.take_set, List.take_set, h4, ← hxl, set4]
/-- The last of a row's cells can be stored. -/
theorem row_last {w : World} {base g k cap : Nat} {T : TypeId} {xs : List Value} {z0 z1 z2 z3 : Value} (h : w.ownsRow base T 4 (.slice (some ⟨g, 0, none⟩) (k + 1) cap) (k + 1) (xs ++ [z0, z1, z2, z3])) :
    w.cell? ⟨g, k * 4, none⟩ = some z0 ∧ w.cell? ⟨g, k * 4 + 1, none⟩ = some z1 ∧ w.cell? ⟨g, k * 4 + 2, none⟩ = some z2 ∧ w.cell? ⟨g, k * 4 + 3, none⟩ = some z3 ∧ ∀ o, w.frozen? ⟨g, o, none⟩ = false := by
  have hadd : ∀ j, (⟨g, 0, none⟩ : Addr).add j = ⟨g, j, none⟩ := fun j => by unfold Addr.add; split <;> simp_all
  have hxl : xs.length = k * 4 := by have := h.1; simp at this; omega
  have c0 := h.cells (g := g) rfl (k * 4) z0 (by rw [List.getElem?_append_right (by omega)]; simp [hxl])
  have c1 := h.cells (g := g) rfl (k * 4 + 1) z1 (by rw [List.getElem?_append_right (by omega)]; simp [hxl])
  have c2 := h.cells (g := g) rfl (k * 4 + 2) z2 (by rw [List.getElem?_append_right (by omega)]; simp [hxl])
  have c3 := h.cells (g := g) rfl (k * 4 + 3) z3 (by rw [List.getElem?_append_right (by omega)]; simp [hxl])
  rw [hadd] at c0 c1 c2 c3
  refine ⟨c0, c1, c2, c3, fun o => ?_⟩
  rcases h.2 with ⟨h0, _⟩ | ⟨g', cap', cur, hv, hb, hg, _⟩
  · cases h0
  · cases hv
    simp [World.frozen?, hg]

theorem boxed_of_heap {W X : World} {b : Nat} {t : TypeId} {v : Value} (h : Boxed W b t v) (hx : X.heap[b]? = W.heap[b]?) : Boxed X b t v := hx.trans h
/-- Where the row is the same, its cells can be stored, and the row that comes of it is the same. -/
theorem last_swap {V5 X : World} {g o : Nat} {z0 z1 z2 z3 : Value} (hx : X.heap[g]? = V5.heap[g]?) (k0 : V5.cell? ⟨g, o, none⟩ = some z0) (k1 : V5.cell? ⟨g, o + 1, none⟩ = some z1) (k2 : V5.cell? ⟨g, o + 2, none⟩ = some z2) (k3 : V5.cell? ⟨g, o + 3, none⟩ = some z3) (kz : ∀ i, V5.frozen? ⟨g, i, none⟩ = false) :
    X.cell? ⟨g, o, none⟩ = some z0 ∧ X.cell? ⟨g, o + 1, none⟩ = some z1 ∧ X.cell? ⟨g, o + 2, none⟩ = some z2 ∧ X.cell? ⟨g, o + 3, none⟩ = some z3 ∧ ∀ i, X.frozen? ⟨g, i, none⟩ = false :=
  ⟨(World.cell?_of_block (a := ⟨g, o, none⟩) hx).trans k0, (World.cell?_of_block (a := ⟨g, o + 1, none⟩) hx).trans k1, (World.cell?_of_block (a := ⟨g, o + 2, none⟩) hx).trans k2, (World.cell?_of_block (a := ⟨g, o + 3, none⟩) hx).trans k3, fun i => (World.frozen?_of_block (a := ⟨g, i, none⟩) hx).trans (kz i)⟩
theorem store4_swap {V V5 : World} {g o : Nat} {a b c d : Value} (hx : V.heap[g]? = V5.heap[g]?) (hc : ∃ cs T, V5.heap[g]? = some (.cells cs T (0, 0))) : (store4 V g o a b c d).heap[g]? = (store4 V5 g o a b c d).heap[g]? := by
  obtain ⟨cs, T, h⟩ := hc
  rw [store4_heap h, store4_heap (hx.trans h)]
/-- One round of the loop of Parses: what it leaves. W7: the world ahead of it; A: ahead of the call; A': behind it; V: behind the append; X: the end. -/
theorem par_leaf {w1 W7 A A' V X : World} {m box base g k cap hh : Nat} {v : Value} {ts pre : List Tr} {x : Tr} {G : Option Obj → Prop} {p : TV} (hk : pre.length = k) (hpre : (pre ++ [x]) <+: ts) (_hbase : base ≤ box)
    (hJ : ParJ w1 m box ts pre W7) (hv : Boxed W7 box 25 v) (hA : Below W7.heap.size W7 A) (hA' : Below A.heap.size A A') (hq : TreeI A' p.val x A.heap.size A'.heap.size)
    {V0 : World} (hV0 : Below A'.heap.size A' V0) (hgrow : V0.grownBy V v.ownBlock) (hat : v.ownBlock = some g ∨ g = hh) (hhh : A'.heap.size ≤ hh) (hlt : g < V.heap.size) {xs : List Value} {z0 z1 z2 z3 : Value}
    (hxs : ∀ qs : List TV, W7.ownsRow (box + 1) 36 4 v k (qs.flatMap TV.cells) → xs = qs.flatMap TV.cells)
    (hown : V.ownsRow (box + 1) 36 4 (.slice (some ⟨g, 0, none⟩) (k + 1) cap) (k + 1) (xs ++ [z0, z1, z2, z3]))
    (hXg : X.heap[g]? = (store4 V g (k * 4) (.int .u8 p.r) (.int .i64 p.e) (.string p.w) (.slice p.a p.n p.c)).heap[g]?) (hXbox : Boxed X box 25 (.slice (some ⟨g, 0, none⟩) (k + 1) cap)) (hXo : ∀ b, b ≠ g → b ≠ box → X.heap[b]? = V.heap[b]?) (hXs : X.heap.size = V.heap.size) (hXos : X.os = V.os ∧ X.tape = V.tape ∧ X.output = V.output) :
    Kp (mkR m G box base) W7 X ∧ ParJ w1 m box ts (pre ++ [x]) X := by
  obtain ⟨v', hv', hF, h1, h2, h3, hm⟩ := hJ
  have hvv : v' = v := by have := hv'.symm.trans hv; injection this with this; injection this with h4 _; simpa using h4
  subst hvv
  have hs1 := hA.size
  have hs2 := hA'.size
  have hs3 := hV0.size
  have hs4 := hgrow.size
  have hF' := hF.below hA
  obtain ⟨qs, L, H, hqk, hro, ht, hin, hdis, hrow⟩ := hF'
  have hro7 : W7.ownsRow (box + 1) 36 4 v' k (qs.flatMap TV.cells) := by
    obtain ⟨qs', L', H', hqk', hro', _⟩ := hF
    have := ownsRow_below hro' hA
    have e : qs'.flatMap TV.cells = qs.flatMap TV.cells := by
      rw [hk] at this hro
      rcases this.2 with ⟨rfl, h0⟩ | ⟨g1, c1, cu1, rfl, _, hg1, _, _, _, ht1⟩
      · have e1 := this.1; have e2 := hro.1
        rw [h0] at e1 e2
        rw [List.eq_nil_of_length_eq_zero (by omega : (qs'.flatMap TV.cells).length = 0), List.eq_nil_of_length_eq_zero (by omega : (qs.flatMap TV.cells).length = 0)]
      · rcases hro.2 with ⟨h0, _⟩ | ⟨g2, c2, cu2, hv2, _, hg2, _, _, _, ht2⟩
        · cases h0
        · cases hv2
          rw [hg1] at hg2
          cases hg2
          rw [← ht1, ← ht2]
    rw [← hk, ← e]
    exact hro'
  have hxe := hxs qs hro7
  subst hxe
  have hbox7 := hv.lt
  have hown' := row_store4 hown hXg
  have hgm : box + 1 ≤ g := by
    rcases hown.2 with ⟨h0, _⟩ | ⟨g', cap', cur, hv2, hb, _⟩
    · cases h0
    · cases hv2; exact hb
  have hrow7 : ∀ b, v'.ownBlock = some b → b < W7.heap.size := fun b hb => by
    obtain ⟨_, _, _, _, _, _, _, _, hr⟩ := hF
    exact (hr b hb).1
  have hold : ∀ c, c ≠ box → c < A'.heap.size → v'.ownBlock ≠ some c → X.heap[c]? = A'.heap[c]? := fun c hcb hc hn => by
    have hcg : c ≠ g := by
      rintro rfl
      rcases hat with h | h
      · exact hn h
      · omega
    exact (hXo c hcg hcb).trans ((hgrow.block c (by omega) (fun e => hn e.symm)).trans (hV0.block c hc))
  have hlen : pre.length < ts.length := by obtain ⟨z, rfl⟩ := hpre; simp
  have hx : ts[pre.length] = x := by obtain ⟨z, hz⟩ := hpre; subst hz; simp
  have hstep := ForG.step' (v := v') (q := p) (w4 := X) (W := A) (W1 := A') (g := g) (cap := cap) (ts := ts) hqk hlen ht hin hdis (fun b hb => hrow b hb) hA' (by omega) (by rw [hx]; exact hq) (by rw [hk]; exact hown') (by omega) (fun c hc1 hc2 hn => hold c (by omega) hc2 hn) (by rcases hat with h | h; exact .inl h; exact .inr (by omega)) (by omega)
  refine ⟨kp_body (t := 25) (v := v') (v' := .slice (some ⟨g, 0, none⟩) (k + 1) cap) hv' (by omega) (fun b hb _ hbb hn => ?_) (fun hG => ?_) hXbox (fun r hr => ?_), ?_⟩
  · rw [hold b hbb (by omega) (fun e => hn e.symm)]
    exact (hA'.block b (by omega)).trans (hA.block b hb)
  · have e : X.heap[m]? = W7.heap[m]? := by
      rw [hold m (by omega) (by omega) (fun e => by
        rcases hro7.2 with ⟨rfl, _⟩ | ⟨g', cap', cur, rfl, hb, _⟩
        · simp [Value.ownBlock] at e
        · obtain rfl : g' = m := by simpa [Value.ownBlock] using e
          omega)]
      exact (hA'.block m (by omega)).trans (hA.block m (by omega))
    rw [e]; exact hG
  · obtain rfl : g = r := by simpa [Value.ownBlock] using hr
    refine ⟨?_, by omega⟩
    rcases hat with h | h
    · exact .inl h
    · exact .inr (by omega)
  · refine ⟨_, hXbox, by rw [List.length_append, List.length_singleton]; rw [hk] at hstep ⊢; exact hstep, ?_, ?_, ?_, hm⟩
    · exact hXos.1.trans (hgrow.os.trans (hV0.os.trans (hA'.os.trans (hA.os.trans h1))))
    · exact hXos.2.1.trans (hgrow.tape.trans (hV0.tape.trans (hA'.tape.trans (hA.tape.trans h2))))
    · exact hXos.2.2.trans (hgrow.output.trans (hV0.output.trans (hA'.output.trans (hA.output.trans h3))))

theorem parsesS_err {l : List Ent} {toks : List (List UInt8)} {k : Int} (h : (countS l toks).2 = k) (h0 : k ≠ 0) : parsesS l toks = ([], k) := by unfold parsesS; rw [if_pos (by rw [h]; exact h0), h]
theorem parsesS_zero {l : List Ent} {toks : List (List UInt8)} (h : countS l toks = (0, 0)) : parsesS l toks = ([], 6) := by unfold parsesS; rw [h]; rfl
theorem parsesS_many {l : List Ent} {toks : List (List UInt8)} {c : Nat} (h : countS l toks = (c, 0)) (hc : 64 < c) : parsesS l toks = ([], 5) := by
  unfold parsesS; rw [h, if_neg (by simp), if_neg (by simp; omega), if_pos hc]
theorem parsesS_some {l : List Ent} {toks : List (List UInt8)} {c : Nat} (h : countS l toks = (c, 0)) (h0 : 0 < c) (hc : ¬ 64 < c) : parsesS l toks = (treesS ⟨l, bareS toks⟩ 1 0 (bareS toks).length, 0) := by
  unfold parsesS; rw [h, if_neg (by simp), if_neg (by simp; omega), if_neg hc]

theorem trees_is {l : List Ent} {toks : List (List UInt8)} {c : Nat} (h : countS l toks = (c, 0)) (h0 : 0 < c) (hc : ¬ 64 < c) : (treesS ⟨l, bareS toks⟩ 1 0 (bareS toks).length).length = c := by
  unfold countS at h
  split at h
  · cases h
  · split at h
    · cases h
    · split at h
      · have e : cntS ⟨l, bareS toks⟩ 1 0 (bareS toks).length = c := by injection h
        have hm : (64 : Nat) < most := by decide
        rw [trees_count _ (by rw [e]; omega), e]
      · injection h with h _; omega
theorem boxed_ab2 {m box base B : Nat} {v : Value} {G : Option Obj → Prop} (hm : m < box) : Abides (mkR m G box base) B (fun X => Boxed X box 25 v) := fun X Y row hg hr _ hb =>
  boxed_small hb (by decide) (Nat.ne_of_gt hm) hg (fun r e => by
    rcases hr r e with ⟨h, _⟩ | ⟨_, _, o, ho, hl⟩
    · exact .inl h
    · exact .inr ⟨o, ho, hl⟩)
theorem owns_same {W : World} {base k : Nat} {v : Value} {qs qs' : List TV} (h : W.ownsRow base 36 4 v k (qs.flatMap TV.cells)) (h' : W.ownsRow base 36 4 v k (qs'.flatMap TV.cells)) : qs.flatMap TV.cells = qs'.flatMap TV.cells := by
  rcases h.2 with ⟨rfl, h0⟩ | ⟨g1, c1, cu1, rfl, _, hg1, _, _, _, ht1⟩
  · have e1 := h.1; have e2 := h'.1
    rw [h0] at e1 e2
    rw [List.eq_nil_of_length_eq_zero (by omega : (qs'.flatMap TV.cells).length = 0), List.eq_nil_of_length_eq_zero (by omega : (qs.flatMap TV.cells).length = 0)]
  · rcases h'.2 with ⟨h0, _⟩ | ⟨g2, c2, cu2, hv2, _, hg2, _, _, _, ht2⟩
    · cases h0
    · cases hv2
      rw [hg1] at hg2
      cases hg2
      rw [← ht1, ← ht2]

set_option maxRecDepth 100000 in
set_option maxHeartbeats 8000000 in
theorem Parses_any (W0 w : World) (ht : Tabs W0 w) (v tv : Value) (l : List Ent) (hl : EntSlice w v l) (toks : List (List UInt8)) (hts : StrSlice w tv toks) :
    Calls Tryz.prog 23 #[v, tv] w (ParsesOk w (parsesS l toks)) := by
  have HB := Lib.hid (Begin_any W0 w ht v tv l hl toks hts)
  obtain ⟨i0, hi, hz0, hz1, hz2⟩ := info_parts info_tree
  clear hts hl ht
  refine (callsIn_wide (n := 3)).1 ?_
  refine callsIn_of_wp_marks Tryz.func23 rfl trivial ?_ rfl
  simp only [Tryz.ntmps23, List.size_toArray, List.length_cons, List.length_nil, Nat.reduceAdd, Nat.reduceSub, Array.replicate_succ, Array.replicate_zero, List.push_toArray, List.append_toArray, List.nil_append, List.cons_append]
  have hfw : ∀ f, Fence.wide.fn f := fun _ => trivial
  gi_wp2_with fail
  refine callsIn_wide.2 (HB.out.mono ?_)
  rintro e w1 (⟨hv, rfl, hb⟩ | ⟨hv, h24, rfl, hb⟩ | ⟨hv, h24, m, gb, rfl, hb, hg, hG, hwm⟩)
  · gi_wp2
    refine ⟨_, results_tmp2 rfl _ _ _, ?_⟩
    rw [parsesS_err (by rw [countS_bad hv]) (by decide)]
    exact parses_none hb
  · have HV := Lib.hid (And.intro hv h24)
    clear hv h24
    gi_wp2
    refine ⟨_, results_tmp2 rfl _ _ _, ?_⟩
    rw [parsesS_err (by rw [countS_long HV.out.1 HV.out.2]) (by decide)]
    exact parses_none hb
  · obtain ⟨c, hc⟩ : ∃ c : Nat, c = if decide (toks.getLast? = some wDot) = true then cntS ⟨l, bareS toks⟩ 1 0 (bareS toks).length else 0 := ⟨_, rfl⟩
    have hcnt := countS_good hv h24
    have hs1 := sentence_any hg hG
    rw [← hc] at hs1 hcnt
    have HC := Lib.hid hcnt
    have HS := Lib.hid hs1
    have HG := Lib.hid hg
    have HB1 := Lib.hid hb
    have HWm := Lib.hid hwm
    clear hc hs1 hcnt hv h24 hb hwm HB hg hG
    gi_wp2_with fail
    refine callsIn_wide.2 (HS.out.mono ?_)
    rintro _ W1 ⟨rfl, hg1, hG1⟩
    have hB1 : Below w.heap.size w W1 := HB1.out.grown hg1 HB1.out.size (fun k hk => by cases hk; exact HWm.out)
    by_cases hc0 : c = 0
    · have hd0 : ((c : Int) == 0) = true := by simp; omega
      have HC0 := Lib.hid hc0
      clear hc0
      gi_wp2
      refine ⟨_, results_tmp2 rfl _ _ _, ?_⟩
      rw [parsesS_zero (by rw [HC.out, HC0.out])]
      exact parses_none hB1
    · by_cases hc64 : 64 < c
      · have hd0 : ((c : Int) == 0) = false := by simp; omega
        have hd1 : decide (64 < (c : Int)) = true := decide_eq_true (by omega)
        have hd2 : decide (64 < c) = true := decide_eq_true (by omega)
        have HC0 := Lib.hid hc64
        clear hc0 hc64
        gi_wp2
        refine ⟨_, results_tmp2 rfl _ _ _, ?_⟩
        rw [parsesS_many HC.out HC0.out]
        exact parses_none hB1
      · have hd0 : ((c : Int) == 0) = false := by simp; omega
        have hd1 : decide (64 < (c : Int)) = false := decide_eq_false (by omega)
        have hd2 : decide (64 < c) = false := decide_eq_false (by omega)
        have HC0 := Lib.hid (And.intro (show 0 < c by omega) hc64)
        clear hc0 hc64
        have hs1 : Since m w1 W1 := (Since.refl HG.out.map).grown hg1
        obtain ⟨ta, tc, ct, _, _, _⟩ := HG.out.tok hs1
        have few := HG.out.few
        obtain ⟨n, hn⟩ : ∃ n, n = (bareS toks).length := ⟨_, rfl⟩
        have hmlt : m < w1.heap.size := by obtain ⟨es, cc, hm⟩ := HG.out.map; exact (Array.getElem?_eq_some_iff.1 hm).1
        have hmlt1 := Nat.lt_of_lt_of_le hmlt hs1.size
        rw [show (⟨l, bareS toks⟩ : Gr).toks.length = n from hn.symm] at ct few
        have hctlt := cell_lt ct
        simp only at hctlt
        have HN := Lib.hid hn
        have HGr := Lib.hid hg1
        have HS1 := Lib.hid hs1
        have HG1 := Lib.hid hG1
        have HB2 := Lib.hid hB1
        clear hn hs1 hg1 hG1 hB1 hmlt
        gi_wp2_with fail
        obtain ⟨W2, hW2⟩ : ∃ W2, W2 = W1.alloc (.cells #[.slice none 0 0] 25) := ⟨_, rfl⟩
        have hb2 : Below W1.heap.size W1 W2 := by rw [hW2]; exact (Below.refl _ _).alloc (Nat.le_refl _) _
        have hzW : W2.heap.size = W1.heap.size + 1 := by rw [hW2]; simp
        have hbx : Boxed W2 W1.heap.size 25 (.slice none 0 0) := by rw [hW2]; exact Boxed.new _ _ _
        rw [← hW2]
        obtain ⟨box, hbox⟩ : ∃ box, box = W1.heap.size := ⟨_, rfl⟩
        rw [← hbox] at hbx hzW hmlt1 ⊢
        have HBox := Lib.hid hbox
        clear hW2 ct hctlt hbox
        refine callsIn_wide.2 ((trees_box gb 1 0 n W2).mono ?_)
        rintro _ W6 ⟨rfl, hb6, hz6, hx6⟩
        obtain ⟨G, hGd⟩ : ∃ G, G = MapG ⟨l, bareS toks⟩ := ⟨_, rfl⟩
        have hGm2 : G W2.heap[m]? := by rw [hGd, hb2.block m (by rw [← HBox.out]; exact hmlt1)]; exact HG1.out
        have hok2 : (mkR m G box box).ok W2 := ok_start hGm2 hmlt1 (Nat.le_refl _) hbx (by decide) rfl
        have hok6 : (mkR m G box box).ok W6 := (Mv.of_below hok2 hb6).ok hok2
        have fr : ∀ c, W2.heap.size ≤ c → c < W6.heap.size → (mkR m G box box).sf W6 c := fun c h1 h2 => Rg.fresh hok2 hb6 h1 h2
        have hR : Counts (mkR m G box box) m ⟨l, bareS toks⟩ w1 := by rw [hGd]; exact counts_mkR (by rw [HBox.out]; exact HS1.out.size)
        have hsW6 : Since m w1 W6 := (HS1.out.below hb2).below hb6
        have hseq := trees_all HG.out n 1 0 n (Nat.le_refl _) (Nat.le_of_eq HN.out) (mkR m G box box) hR W6 W2.heap.size hsW6 hok6 hx6 (fr _ (by omega) (by omega)) (fr _ (by omega) (by omega)) (fr _ (by omega) (by omega)) (fr _ (by omega) (by omega))
        obtain ⟨ts, hts⟩ : ∃ ts, ts = treesS ⟨l, bareS toks⟩ 1 0 n := ⟨_, rfl⟩
        rw [← hts] at hseq
        have hbx6 : Boxed W6 box 25 (.slice none 0 0) := boxed_below hbx hb6
        have HSeq := Lib.hid hseq
        have HTs := Lib.hid hts
        have HBx6 := Lib.hid hbx6
        have HGm := Lib.hid hGd
        have hb26 : Below box W1 W6 := by rw [HBox.out]; exact hb2.trans (hb6.mono hb2.size)
        have hJ0 : ParJ w1 m box ts [] W6 := ⟨_, hbx6, ForG.nil _ _ _, hb26.os.trans HGr.out.os, hb26.tape.trans HGr.out.tape, hb26.output.trans HGr.out.output, hmlt1⟩
        have HJ0 := Lib.hid hJ0
        have HB26 := Lib.hid hb26
        clear hseq hts hbx6 hGd hb26 hJ0 fr hR hx6 hb6 hbx hGm2 hb2 hsW6 hok2
        simp only [treesV]
        gi_wp2
        refine wpIn_range_M rfl (enters_of Tryz.func79 (by kernel_rfl) rfl) HSeq.out hok6 (fun _ _ _ h => by obtain ⟨v, rfl, _⟩ := h; rfl)
          (ParJ w1 m box ts) (fun _ _ _ => False) (fun _ => parJ_abides) (fun _ _ _ _ _ _ _ _ h => h) HJ0.out ?round ?done ?stop
        case stop =>
          rintro D c pre X hD hpre hx
          exact hx.elim
        case done =>
          intro D X hD hjX hkX hokX hd _
          obtain ⟨vr, hbX, hFX, ho1, ho2, ho3, _⟩ := hjX
          obtain ⟨va, vc, hvr⟩ : ∃ va vc, vr = .slice va ts.length vc := by obtain ⟨_, _, _, _, hown, _⟩ := hFX; exact owns_form hown
          subst hvr
          have cX := hbX.cell
          have hfin : ParsesOk w (parsesS l toks) (.returned (.tuple #[.slice va ts.length vc, .int .i64 0])) (X.putObj D (.deferred none)) := by
            rw [parsesS_some HC.out HC0.out.1 HC0.out.2, ← HN.out, ← HTs.out]
            have hw1 := HB1.out
            have hgr := grownBy_putObj' X D (.deferred none)
            have hsz : box ≤ W6.heap.size := by omega
            have hwb : w.heap.size ≤ box := by have := HB2.out.size; rw [HBox.out]; exact this
            have hb6 := HB26.out
            refine ⟨_, rfl, ⟨ho1.trans hw1.os, ho2.trans hw1.tape, ho3.trans hw1.output, ?_, fun b hb => ?_⟩, ?_⟩
            · have := hkX.size; simp; omega
            · rw [World.putObj_heap_other (by omega)]
              have hbm : b ≠ m := by have := HWm.out; omega
              rw [(hkX.same b (hok6.old (by omega) hbm)).2]
              exact (hb6.block b (by omega)).trans (HB2.out.block b hb)
            · exact (hFX.small (m := m) (by omega) hgr (fun r e => by cases e; exact .inr ⟨_, hd, .inl rfl⟩)).mono (by omega)
          have HFin := Lib.hid hfin
          clear hfin ho1 ho2 ho3 hFX hbX hkX hokX
          gi_wp2
          refine ⟨by simp, .inl ⟨_, _, rfl, run_takeDeferred hd, ?_⟩⟩
          refine ⟨_, results_tmp2 rfl _ _ _, ?_⟩
          exact HFin.out
        case round =>
          rintro L pre vs x Z hL hjZ ⟨v, rfl, hty⟩ hkZ hokZ hpre
          obtain ⟨q, rfl⟩ := hty.form
          unfold TV.val
          gi_wp2
          obtain ⟨Z2, hZ2⟩ : ∃ Z2, Z2 = Z.alloc (.cells #[.int .u8 q.r, .int .i64 q.e, .string q.w, .slice q.a q.n q.c] 36) := ⟨_, rfl⟩
          have hbZ : Below Z.heap.size Z Z2 := by rw [hZ2]; exact (Below.refl _ _).alloc (Nat.le_refl _) _
          have hcZ : Z2.heap[Z.heap.size]? = some (.cells #[.int .u8 q.r, .int .i64 q.e, .string q.w, .slice q.a q.n q.c] 36 (0, 0)) := by rw [hZ2]; exact World.alloc_heap_new Z _
          rw [← hZ2]
          clear hZ2
          have hmvZ : Mv (mkR m G box box) Z Z2 := Mv.of_below hokZ hbZ
          refine ⟨hmvZ.kp hokZ, parJ_abides.mv (B := W6.heap.size) hmvZ hokZ hjZ, ?_⟩
          intro W7 hl7 hr7 hsl7 hj7 hk7 hok7 hsz7 htr7
          have hc7 := htr7 _ (cells_abides W6.heap.size Z.heap.size _ _ _ (by have := hkZ.size; show _ ≠ m; omega) (.inl (by decide))) hcZ
          have hty7 := htr7 _ (treeR_abides (mkR m G box box) W6.heap.size _ x) (hty.kp (hmvZ.kp hokZ))
          have HJ7 := Lib.hid hj7
          have HTy := Lib.hid hty7
          have HC7 := Lib.hid hc7
          obtain ⟨vZ, hbZ', hFZ, _, _, _, hmb⟩ := hjZ
          have hb7 := htr7 _ (boxed_ab2 (box := box) (v := vZ) hmb) (boxed_below hbZ' hbZ)
          have hzown : ∀ b, vZ.ownBlock = some b → b < Z.heap.size := by
            obtain ⟨_, _, _, _, _, _, _, _, hr⟩ := hFZ
            exact fun b hb => (hr b hb).1
          have hF7 : ForG (box + 1) vZ ts pre.length W7 := by
            obtain ⟨v7, hb7', hF7, _⟩ := hj7
            have hvv : v7 = vZ := by have := hb7'.symm.trans hb7; injection this with this; injection this with h4 _; simpa using h4
            rw [hvv] at hF7
            exact hF7
          obtain ⟨kk, hkk⟩ : ∃ kk, kk = pre.length := ⟨_, rfl⟩
          rw [← hkk] at hF7
          obtain ⟨qs, Lq, Hq, hqk, ho7, _⟩ := hF7
          obtain ⟨va, vc, hv7⟩ : ∃ va vc, vZ = .slice va kk vc := owns_form ho7
          subst hv7
          have HXs := Lib.hid (fun (qs' : List TV) (h' : W7.ownsRow (box + 1) 36 4 (.slice va kk vc) kk (qs'.flatMap TV.cells)) => owns_same ho7 h')
          have HB7 := Lib.hid hb7
          have HO7 := Lib.hid ho7
          have HKk := Lib.hid hkk
          have HPre := Lib.hid hpre
          have HNz := Lib.hid (show (Value.slice va kk vc).ownBlock ≠ some Z.heap.size from fun e => absurd (hzown _ e) (Nat.lt_irrefl _))
          have HNbox := Lib.hid (show (Value.slice va kk vc).ownBlock ≠ some box from row_not_cells ho7 hb7 (by decide))
          have hxs : Slim x := by
            have hmem : x ∈ ts := by obtain ⟨z, rfl⟩ := hpre; simp
            rw [HTs.out] at hmem
            exact treesS_slim _ _ _ _ _ hmem
          have HSlim := Lib.hid hxs
          have hk64 : kk < 64 := by
            have h1 : pre.length < ts.length := by obtain ⟨z, rfl⟩ := hpre; simp
            have h2 : ts.length = c := by
              rw [HTs.out, HN.out]
              exact trees_is HC.out HC0.out.1 HC0.out.2
            have := HC0.out.2
            omega
          obtain ⟨S, hS⟩ : ∃ (S : World → Prop), S = fun V => Boxed V box 25 (.slice va kk vc) ∧ V.heap[Z.heap.size]? = some (.cells #[.int .u8 q.r, .int .i64 q.e, .string q.w, .slice q.a q.n q.c] 36 (0, 0)) := ⟨_, rfl⟩
          have HSS := Lib.hid hS
          have hSd : S W7.drew := by rw [hS]; exact ⟨hb7, hc7⟩
          clear hS hc7 hty7 hcZ hty hb7 hFZ hbZ' ho7 hkk hpre hzown hxs hj7 htr7
          gi_wp2
          have f0 : ∀ V, S V → V.cell? ⟨box, 0, none⟩ = some (.slice va kk vc) := fun V h => by rw [HSS.out] at h; exact h.1.cell
          have f1 : ∀ V, S V → V.cell? ⟨Z.heap.size, 0, none⟩ = some (.int .u8 q.r) ∧ V.cell? ⟨Z.heap.size, 1, none⟩ = some (.int .i64 q.e) ∧ V.cell? ⟨Z.heap.size, 2, none⟩ = some (.string q.w) ∧ V.cell? ⟨Z.heap.size, 3, none⟩ = some (.slice q.a q.n q.c) := fun V h => by
            rw [HSS.out] at h
            exact ⟨(cell_rowC h.2 0).trans rfl, (cell_rowC h.2 1).trans rfl, (cell_rowC h.2 2).trans rfl, (cell_rowC h.2 3).trans rfl⟩
          refine regionM S 6 (by kernel_rfl) hSd (fun hpo hS0 => ?_)
          refine takeM (i := 0) 34 (.slice va kk vc) hpo rfl (by kernel_rfl) (fun _ _ _ h => h) rfl (by rfl) (fun V hX => (by have g0 := f0 V hX; go_simp)) (fun _ => rfl) hS0 (fun hS1 => ?_)
          simp only [List.setIfInBounds_toArray, List.set_cons_zero, List.set_cons_succ]
          refine takeM (i := 1) 35 (.agg #[.int .u8 q.r, .int .i64 q.e, .string q.w, .slice q.a q.n q.c]) hpo rfl (by kernel_rfl) (fun _ _ _ h => h) rfl (by rfl) (fun V hX => (by obtain ⟨g0, g1, g2, g3⟩ := f1 V hX; go_simp)) (fun _ => rfl) hS1 (fun hS2 => ?_)
          simp only [List.setIfInBounds_toArray, List.set_cons_zero, List.set_cons_succ]
          refine takeM (i := 3) 37 (.int .i64 kk) hpo rfl (by kernel_rfl) (fun _ _ _ h => h) rfl (by rfl) (fun V hX => (by go_simp)) (fun _ => rfl) hS2 (fun hS3 => ?_)
          simp only [List.setIfInBounds_toArray, List.set_cons_zero, List.set_cons_succ]
          refine twoM (i := 2) (j := 4) rfl rfl (by kernel_rfl) (by rfl) (by rfl) (fun K hK => ?_) (fun K hK => ?_)
          · go_simp
            refine CallsIn.inRound L (callsIn_wide.2 ((copied_any x HSlim.out W7.drew _ (show TreeV (fun _ => True) W7.drew q.val x from TreeV.move (W := W7) (W' := W7.drew) (ok' := fun _ => True) (fun b _ h => ⟨trivial, rfl⟩) HTy.out)).mono ?_))
            rintro _ A1 ⟨v', rfl, hq, hbA⟩
            obtain ⟨p, rfl⟩ := hq.form
            have hbA7 : Below W7.heap.size W7 A1 := ((Below.refl _ W7).drew).trans (hbA.mono (Nat.le_refl _))
            have hS4 : S A1 := by rw [HSS.out]; exact ⟨boxed_below HB7.out hbA7, (hbA7.block _ (Array.getElem?_eq_some_iff.1 HC7.out).1).trans HC7.out⟩
            refine hK _ _ (fun _ => hS4) (fun _ => ?_)
            clear hK K
            refine oneM (i := 4) rfl (by kernel_rfl) (by rfl) (fun K hK => ?_)
            go_simp
            obtain ⟨V0, hV0⟩ : ∃ V0, V0 = A1.alloc (.cells #[.int .u8 0, .int .i64 0, .string ⟨#[]⟩, .slice none 0 0] 36) := ⟨_, rfl⟩
            have hbV : Below A1.heap.size A1 V0 := by rw [hV0]; exact (Below.refl _ _).alloc (Nat.le_refl _) _
            have htmp : V0.heap[A1.heap.size]? = some (.cells #[.int .u8 0, .int .i64 0, .string ⟨#[]⟩, .slice none 0 0] 36 (0, 0)) := by rw [hV0]; exact World.alloc_heap_new A1 _
            rw [← hV0]
            have hbV7 := hbA7.trans (hbV.mono hbA7.size)
            have HBV := Lib.hid (boxed_below HB7.out hbV7)
            have HCV := Lib.hid ((hbV7.block _ (Array.getElem?_eq_some_iff.1 HC7.out).1).trans HC7.out)
            have HOV := Lib.hid (ownsRow_below HO7.out hbV7)
            have HTmp := Lib.hid htmp
            have HCA := Lib.hid ((hbA7.block _ (Array.getElem?_eq_some_iff.1 HC7.out).1).trans HC7.out)
            have HVhh := Lib.hid hbV.size
            have HVs := Lib.hid (show box + 1 ≤ V0.heap.size by have := hbV7.size; have := HB7.out.lt; omega)
            have hS5 : S V0 := by rw [HSS.out]; exact ⟨HBV.out, HCV.out⟩
            have HAb := Lib.hid hbA
            have HQ := Lib.hid hq
            have HVb := Lib.hid hbV
            clear hbA hq hbV htmp hbV7 hbA7 hV0
            refine hK _ _ (fun _ => hS5) (fun _ => ?_)
            clear hK K
            refine oneM (i := 5) rfl (by kernel_rfl) (by rfl) (fun K hK => ?_)
            refine wpIn_append_lies (.tmp 34) (.tmp 38) 25 rfl (box + 1) 36 i0 (.agg #[.int .u8 0, .int .i64 0, .string ByteArray.empty, .slice none 0 0]) 4 56 Tryz.underlying25 hi hz0 hz1 hz2 rfl (by decide) (.slice va kk vc) kk _ rfl HOV.out ⟨_, 0, none⟩ 1 1 [.int .u8 0, .int .i64 0, .string ⟨#[]⟩, .slice none 0 0] rfl rfl (news_at (cs := #[.int .u8 0, .int .i64 0, .string ⟨#[]⟩, .slice none 0 0]) (t := 36) (fr := (0, 0)) HTmp.out) (by simp [Value.oneCell']) (by decide) (by unfold maxLen; omega) (by omega) HVs.out _ rfl ?_
            intro g cap5 V5 hown5 hgrow hat hlt5
            have hb5 : Boxed V5 box 25 (.slice va kk vc) := (hgrow.block box (by have := HVs.out; omega) (fun e => HNbox.out e.symm)).trans HBV.out
            have hc5 := (hgrow.block Z.heap.size (Array.getElem?_eq_some_iff.1 HCV.out).1 (fun e => HNz.out e.symm)).trans HCV.out
            have hleaf := fun (X : World) h1 h2 h3 h4 h5 => par_leaf (G := G) (base := box) (X := X) (pre := pre) (x := x) (p := p) (k := kk) HKk.out.symm HPre.out (Nat.le_refl _) HJ7.out HB7.out ((Below.refl _ W7).drew) HAb.out HQ.out (HVb.out) hgrow hat HVhh.out hlt5 (fun qs' hq' => HXs.out qs' hq') hown5 h1 h2 h3 h4 h5
            have hlast := row_last hown5
            have hcells : ∃ cs T, V5.heap[g]? = some (.cells cs T (0, 0)) := by rcases hown5.2 with ⟨h0, _⟩ | ⟨_, _, _, h0, _, h1, _⟩; cases h0; cases h0; exact ⟨_, _, h1⟩
            have hgb : g ≠ box := by rintro rfl; rcases hown5.2 with ⟨h0, _⟩ | ⟨_, _, _, h0, h1, _⟩; cases h0; cases h0; omega
            have hzg : Z.heap.size ≠ g := by
              rintro rfl
              rcases hat with h | h
              · exact HNz.out h
              · have := (Array.getElem?_eq_some_iff.1 HCA.out).1; have := HVhh.out; omega
            have HZg := Lib.hid hzg
            have HLeaf := Lib.hid hleaf
            have HLast := Lib.hid (And.intro hcells hlast)
            have HB5 := Lib.hid hb5
            have HGb := Lib.hid hgb
            have hS5 : S V5 := by rw [HSS.out]; exact ⟨hb5, hc5⟩
            have HC5 := Lib.hid hc5
            clear hleaf hlast hcells hb5 hgb hown5 hgrow hat hc5 hzg
            refine hK _ _ (fun _ => hS5) (fun _ => ?_)
            clear hK K
            refine twoM (i := 6) (j := 8) rfl rfl (by kernel_rfl) (by rfl) (by rfl) (fun K hK => ?_) (fun K hK => ?_)
            · skip
              go_simp
              simp only [if_pos (show (kk : Int) < (kk : Int) + 1 by omega)]
              go_simp
              refine hK _ _ (fun h => absurd h (by decide)) (fun _ => ?_)
              clear hK K
              refine twoM (i := 7) (j := 8) rfl rfl (by kernel_rfl) (by rfl) (by rfl) (fun K hK => ?_) (fun K hK => ?_)
              · skip
                obtain ⟨_, l0, l1, l2, l3, lz⟩ := HLast.out
                simp only [TV.val]
                go_simp
                obtain ⟨Xa, hXa⟩ : ∃ Xa, Xa = store4 V5 g (kk * 4) (.int .u8 p.r) (.int .i64 p.e) (.string p.w) (.slice p.a p.n p.c) := ⟨_, rfl⟩
                have HEXa := Lib.hid hXa
                unfold store4 at hXa
                rw [← hXa]
                clear hXa l0 l1 l2 l3 lz
                have hbX : Boxed Xa box 25 (.slice va kk vc) := boxed_of_heap HB5.out (by rw [HEXa.out]; exact store4_other (fun e => HGb.out e.symm))
                have HBX := Lib.hid hbX
                clear hbX
                refine hK _ _ (fun h => absurd h (by decide)) (fun _ => ?_)
                clear hK K
                refine oneM (i := 8) rfl (by kernel_rfl) (by rfl) (fun K hK => ?_)
                have cX := (HBX.out).cell
                have zX := (HBX.out).frozen
                go_simp
                obtain ⟨Xb, hXb⟩ : ∃ Xb, Xb = Xa.setCell ⟨box, 0, none⟩ (.slice (some ⟨g, 0, none⟩) (kk + 1) cap5) := ⟨_, rfl⟩
                rw [← hXb]
                have HEXb := Lib.hid hXb
                clear hXb cX zX
                refine hK _ _ (fun h => absurd h (by decide)) (fun _ => ?_)
                clear hK K
                refine doneM (by kernel_rfl) ?_ _
                gi_wp2
                refine HLeaf.out Xb ?_ ?_ ?_ ?_ ?_
                · rw [HEXb.out, Below.heap_setCell _ _ _ _ HGb.out, HEXa.out]
                · rw [HEXb.out]; exact (boxed_of_heap (X := Xa) HB5.out (by rw [HEXa.out]; exact store4_other (fun e => HGb.out e.symm))).set _
                · intro b h1 h2; rw [HEXb.out, Below.heap_setCell _ _ _ _ h2, HEXa.out]; exact store4_other h1
                · rw [HEXb.out, World.size_setCell, HEXa.out]; exact store4_size
                · rw [HEXb.out, HEXa.out]; exact ⟨rfl, rfl, rfl⟩
              · skip
                have cX := (HB5.out).cell
                have zX := (HB5.out).frozen
                go_simp
                obtain ⟨Xa, hXa⟩ : ∃ Xa, Xa = V5.setCell ⟨box, 0, none⟩ (.slice (some ⟨g, 0, none⟩) (kk + 1) cap5) := ⟨_, rfl⟩
                rw [← hXa]
                have HEXa := Lib.hid hXa
                clear hXa cX zX
                refine hK _ _ (fun h => absurd h (by decide)) (fun _ => ?_)
                clear hK K
                refine oneM (i := 7) rfl (by kernel_rfl) (by rfl) (fun K hK => ?_)
                obtain ⟨hcs, k0, k1, k2, k3, kz⟩ := HLast.out; obtain ⟨l0, l1, l2, l3, lz⟩ := last_swap (X := Xa) (V5 := V5) (by rw [HEXa.out, Below.heap_setCell _ _ _ _ HGb.out]) k0 k1 k2 k3 kz; clear hcs k0 k1 k2 k3 kz
                simp only [TV.val]
                go_simp
                obtain ⟨Xb, hXb⟩ : ∃ Xb, Xb = store4 Xa g (kk * 4) (.int .u8 p.r) (.int .i64 p.e) (.string p.w) (.slice p.a p.n p.c) := ⟨_, rfl⟩
                have HEXb := Lib.hid hXb
                unfold store4 at hXb
                rw [← hXb]
                clear hXb l0 l1 l2 l3 lz
                refine hK _ _ (fun h => absurd h (by decide)) (fun _ => ?_)
                clear hK K
                refine doneM (by kernel_rfl) ?_ _
                gi_wp2
                refine HLeaf.out Xb ?_ ?_ ?_ ?_ ?_
                · rw [HEXb.out, store4_swap (V := Xa) (V5 := V5) (by rw [HEXa.out, Below.heap_setCell _ _ _ _ HGb.out]) HLast.out.1]
                · exact boxed_of_heap (W := Xa) (by rw [HEXa.out]; exact HB5.out.set _) (by rw [HEXb.out]; exact store4_other (fun e => HGb.out e.symm))
                · intro b h1 h2; rw [HEXb.out, store4_other h1, HEXa.out, Below.heap_setCell _ _ _ _ h2]
                · rw [HEXb.out, store4_size, HEXa.out, World.size_setCell]
                · rw [HEXb.out, HEXa.out]; exact ⟨rfl, rfl, rfl⟩
            · skip
              have cX := (HB5.out).cell
              have zX := (HB5.out).frozen
              go_simp
              obtain ⟨Xa, hXa⟩ : ∃ Xa, Xa = V5.setCell ⟨box, 0, none⟩ (.slice (some ⟨g, 0, none⟩) (kk + 1) cap5) := ⟨_, rfl⟩
              rw [← hXa]
              have HEXa := Lib.hid hXa
              clear hXa cX zX
              refine hK _ _ (fun h => absurd h (by decide)) (fun _ => ?_)
              clear hK K
              refine oneM (i := 6) rfl (by kernel_rfl) (by rfl) (fun K hK => ?_)
              go_simp
              simp only [if_pos (show (kk : Int) < (kk : Int) + 1 by omega)]
              go_simp
              refine hK _ _ (fun h => absurd h (by decide)) (fun _ => ?_)
              clear hK K
              refine oneM (i := 7) rfl (by kernel_rfl) (by rfl) (fun K hK => ?_)
              obtain ⟨hcs, k0, k1, k2, k3, kz⟩ := HLast.out; obtain ⟨l0, l1, l2, l3, lz⟩ := last_swap (X := Xa) (V5 := V5) (by rw [HEXa.out, Below.heap_setCell _ _ _ _ HGb.out]) k0 k1 k2 k3 kz; clear hcs k0 k1 k2 k3 kz
              simp only [TV.val]
              go_simp
              obtain ⟨Xb, hXb⟩ : ∃ Xb, Xb = store4 Xa g (kk * 4) (.int .u8 p.r) (.int .i64 p.e) (.string p.w) (.slice p.a p.n p.c) := ⟨_, rfl⟩
              have HEXb := Lib.hid hXb
              unfold store4 at hXb
              rw [← hXb]
              clear hXb l0 l1 l2 l3 lz
              refine hK _ _ (fun h => absurd h (by decide)) (fun _ => ?_)
              clear hK K
              refine doneM (by kernel_rfl) ?_ _
              gi_wp2
              refine HLeaf.out Xb ?_ ?_ ?_ ?_ ?_
              · rw [HEXb.out, store4_swap (V := Xa) (V5 := V5) (by rw [HEXa.out, Below.heap_setCell _ _ _ _ HGb.out]) HLast.out.1]
              · exact boxed_of_heap (W := Xa) (by rw [HEXa.out]; exact HB5.out.set _) (by rw [HEXb.out]; exact store4_other (fun e => HGb.out e.symm))
              · intro b h1 h2; rw [HEXb.out, store4_other h1, HEXa.out, Below.heap_setCell _ _ _ _ h2]
              · rw [HEXb.out, store4_size, HEXa.out, World.size_setCell]
              · rw [HEXb.out, HEXa.out]; exact ⟨rfl, rfl, rfl⟩
          · go_simp
            obtain ⟨V1, hV1⟩ : ∃ V1, V1 = (W7.alloc (.cells #[.int .u8 0, .int .i64 0, .string ⟨#[]⟩, .slice none 0 0] 36)).drew := ⟨_, rfl⟩
            have hb17 : Below W7.heap.size W7 V1 := by rw [hV1]; exact ((Below.refl _ _).alloc (Nat.le_refl _) _).drew
            have htmp : V1.heap[W7.heap.size]? = some (.cells #[.int .u8 0, .int .i64 0, .string ⟨#[]⟩, .slice none 0 0] 36 (0, 0)) := by rw [hV1]; exact World.alloc_heap_new W7 _
            rw [← hV1]
            clear hV1
            have hS4 : S V1 := by rw [HSS.out]; exact ⟨boxed_below HB7.out hb17, (hb17.block _ (Array.getElem?_eq_some_iff.1 HC7.out).1).trans HC7.out⟩
            refine hK _ _ (fun _ => hS4) (fun _ => ?_)
            clear hK K
            refine oneM (i := 2) rfl (by kernel_rfl) (by rfl) (fun K hK => ?_)
            go_simp
            refine CallsIn.inRound L (callsIn_wide.2 ((copied_any x HSlim.out V1 _ (show TreeV (fun _ => True) V1 q.val x from TreeV.move (W := W7) (W' := V1) (ok' := fun _ => True) (fun b _ h => ⟨trivial, hb17.block b (by obtain ⟨_, _, h⟩ := h; exact cell_lt h)⟩) HTy.out)).mono ?_))
            rintro _ A1 ⟨v', rfl, hq, hbA⟩
            obtain ⟨p, rfl⟩ := hq.form
            have hbV7 : Below W7.heap.size W7 A1 := hb17.trans (hbA.mono hb17.size)
            have HBV := Lib.hid (boxed_below HB7.out hbV7)
            have HCV := Lib.hid ((hbV7.block _ (Array.getElem?_eq_some_iff.1 HC7.out).1).trans HC7.out)
            have HCA := HCV
            have HOV := Lib.hid (ownsRow_below HO7.out hbV7)
            have HTmp := Lib.hid ((hbA.block _ (Array.getElem?_eq_some_iff.1 htmp).1).trans htmp)
            have HVhh := Lib.hid (Nat.le_refl A1.heap.size)
            have HVs := Lib.hid (show box + 1 ≤ A1.heap.size by have := hbV7.size; have := HB7.out.lt; omega)
            have hS5 : S A1 := by rw [HSS.out]; exact ⟨HBV.out, HCV.out⟩
            have HAb := Lib.hid hbA
            have HQ := Lib.hid hq
            have HB17 := Lib.hid hb17
            clear hbA hq htmp hbV7 hb17
            refine hK _ _ (fun _ => hS5) (fun _ => ?_)
            clear hK K
            refine oneM (i := 5) rfl (by kernel_rfl) (by rfl) (fun K hK => ?_)
            refine wpIn_append_lies (.tmp 34) (.tmp 38) 25 rfl (box + 1) 36 i0 (.agg #[.int .u8 0, .int .i64 0, .string ByteArray.empty, .slice none 0 0]) 4 56 Tryz.underlying25 hi hz0 hz1 hz2 rfl (by decide) (.slice va kk vc) kk _ rfl HOV.out ⟨_, 0, none⟩ 1 1 [.int .u8 0, .int .i64 0, .string ⟨#[]⟩, .slice none 0 0] rfl rfl (news_at (cs := #[.int .u8 0, .int .i64 0, .string ⟨#[]⟩, .slice none 0 0]) (t := 36) (fr := (0, 0)) HTmp.out) (by simp [Value.oneCell']) (by decide) (by unfold maxLen; omega) (by omega) HVs.out _ rfl ?_
            intro g cap5 V5 hown5 hgrow hat hlt5
            have hb5 : Boxed V5 box 25 (.slice va kk vc) := (hgrow.block box (by have := HVs.out; omega) (fun e => HNbox.out e.symm)).trans HBV.out
            have hc5 := (hgrow.block Z.heap.size (Array.getElem?_eq_some_iff.1 HCV.out).1 (fun e => HNz.out e.symm)).trans HCV.out
            have hleaf := fun (X : World) h1 h2 h3 h4 h5 => par_leaf (G := G) (base := box) (X := X) (pre := pre) (x := x) (p := p) (k := kk) HKk.out.symm HPre.out (Nat.le_refl _) HJ7.out HB7.out (HB17.out) HAb.out HQ.out (Below.refl _ _) hgrow hat HVhh.out hlt5 (fun qs' hq' => HXs.out qs' hq') hown5 h1 h2 h3 h4 h5
            have hlast := row_last hown5
            have hcells : ∃ cs T, V5.heap[g]? = some (.cells cs T (0, 0)) := by rcases hown5.2 with ⟨h0, _⟩ | ⟨_, _, _, h0, _, h1, _⟩; cases h0; cases h0; exact ⟨_, _, h1⟩
            have hgb : g ≠ box := by rintro rfl; rcases hown5.2 with ⟨h0, _⟩ | ⟨_, _, _, h0, h1, _⟩; cases h0; cases h0; omega
            have hzg : Z.heap.size ≠ g := by
              rintro rfl
              rcases hat with h | h
              · exact HNz.out h
              · have := (Array.getElem?_eq_some_iff.1 HCA.out).1; have := HVhh.out; omega
            have HZg := Lib.hid hzg
            have HLeaf := Lib.hid hleaf
            have HLast := Lib.hid (And.intro hcells hlast)
            have HB5 := Lib.hid hb5
            have HGb := Lib.hid hgb
            have hS5 : S V5 := by rw [HSS.out]; exact ⟨hb5, hc5⟩
            have HC5 := Lib.hid hc5
            clear hleaf hlast hcells hb5 hgb hown5 hgrow hat hc5 hzg
            refine hK _ _ (fun _ => hS5) (fun _ => ?_)
            clear hK K
            refine twoM (i := 6) (j := 8) rfl rfl (by kernel_rfl) (by rfl) (by rfl) (fun K hK => ?_) (fun K hK => ?_)
            · skip
              go_simp
              simp only [if_pos (show (kk : Int) < (kk : Int) + 1 by omega)]
              go_simp
              refine hK _ _ (fun h => absurd h (by decide)) (fun _ => ?_)
              clear hK K
              refine twoM (i := 7) (j := 8) rfl rfl (by kernel_rfl) (by rfl) (by rfl) (fun K hK => ?_) (fun K hK => ?_)
              · skip
                obtain ⟨_, l0, l1, l2, l3, lz⟩ := HLast.out
                simp only [TV.val]
                go_simp
                obtain ⟨Xa, hXa⟩ : ∃ Xa, Xa = store4 V5 g (kk * 4) (.int .u8 p.r) (.int .i64 p.e) (.string p.w) (.slice p.a p.n p.c) := ⟨_, rfl⟩
                have HEXa := Lib.hid hXa
                unfold store4 at hXa
                rw [← hXa]
                clear hXa l0 l1 l2 l3 lz
                have hbX : Boxed Xa box 25 (.slice va kk vc) := boxed_of_heap HB5.out (by rw [HEXa.out]; exact store4_other (fun e => HGb.out e.symm))
                have HBX := Lib.hid hbX
                clear hbX
                refine hK _ _ (fun h => absurd h (by decide)) (fun _ => ?_)
                clear hK K
                refine oneM (i := 8) rfl (by kernel_rfl) (by rfl) (fun K hK => ?_)
                have cX := (HBX.out).cell
                have zX := (HBX.out).frozen
                go_simp
                obtain ⟨Xb, hXb⟩ : ∃ Xb, Xb = Xa.setCell ⟨box, 0, none⟩ (.slice (some ⟨g, 0, none⟩) (kk + 1) cap5) := ⟨_, rfl⟩
                rw [← hXb]
                have HEXb := Lib.hid hXb
                clear hXb cX zX
                refine hK _ _ (fun h => absurd h (by decide)) (fun _ => ?_)
                clear hK K
                refine doneM (by kernel_rfl) ?_ _
                gi_wp2
                refine HLeaf.out Xb ?_ ?_ ?_ ?_ ?_
                · rw [HEXb.out, Below.heap_setCell _ _ _ _ HGb.out, HEXa.out]
                · rw [HEXb.out]; exact (boxed_of_heap (X := Xa) HB5.out (by rw [HEXa.out]; exact store4_other (fun e => HGb.out e.symm))).set _
                · intro b h1 h2; rw [HEXb.out, Below.heap_setCell _ _ _ _ h2, HEXa.out]; exact store4_other h1
                · rw [HEXb.out, World.size_setCell, HEXa.out]; exact store4_size
                · rw [HEXb.out, HEXa.out]; exact ⟨rfl, rfl, rfl⟩
              · skip
                have cX := (HB5.out).cell
                have zX := (HB5.out).frozen
                go_simp
                obtain ⟨Xa, hXa⟩ : ∃ Xa, Xa = V5.setCell ⟨box, 0, none⟩ (.slice (some ⟨g, 0, none⟩) (kk + 1) cap5) := ⟨_, rfl⟩
                rw [← hXa]
                have HEXa := Lib.hid hXa
                clear hXa cX zX
                refine hK _ _ (fun h => absurd h (by decide)) (fun _ => ?_)
                clear hK K
                refine oneM (i := 7) rfl (by kernel_rfl) (by rfl) (fun K hK => ?_)
                obtain ⟨hcs, k0, k1, k2, k3, kz⟩ := HLast.out; obtain ⟨l0, l1, l2, l3, lz⟩ := last_swap (X := Xa) (V5 := V5) (by rw [HEXa.out, Below.heap_setCell _ _ _ _ HGb.out]) k0 k1 k2 k3 kz; clear hcs k0 k1 k2 k3 kz
                simp only [TV.val]
                go_simp
                obtain ⟨Xb, hXb⟩ : ∃ Xb, Xb = store4 Xa g (kk * 4) (.int .u8 p.r) (.int .i64 p.e) (.string p.w) (.slice p.a p.n p.c) := ⟨_, rfl⟩
                have HEXb := Lib.hid hXb
                unfold store4 at hXb
                rw [← hXb]
                clear hXb l0 l1 l2 l3 lz
                refine hK _ _ (fun h => absurd h (by decide)) (fun _ => ?_)
                clear hK K
                refine doneM (by kernel_rfl) ?_ _
                gi_wp2
                refine HLeaf.out Xb ?_ ?_ ?_ ?_ ?_
                · rw [HEXb.out, store4_swap (V := Xa) (V5 := V5) (by rw [HEXa.out, Below.heap_setCell _ _ _ _ HGb.out]) HLast.out.1]
                · exact boxed_of_heap (W := Xa) (by rw [HEXa.out]; exact HB5.out.set _) (by rw [HEXb.out]; exact store4_other (fun e => HGb.out e.symm))
                · intro b h1 h2; rw [HEXb.out, store4_other h1, HEXa.out, Below.heap_setCell _ _ _ _ h2]
                · rw [HEXb.out, store4_size, HEXa.out, World.size_setCell]
                · rw [HEXb.out, HEXa.out]; exact ⟨rfl, rfl, rfl⟩
            · skip
              have cX := (HB5.out).cell
              have zX := (HB5.out).frozen
              go_simp
              obtain ⟨Xa, hXa⟩ : ∃ Xa, Xa = V5.setCell ⟨box, 0, none⟩ (.slice (some ⟨g, 0, none⟩) (kk + 1) cap5) := ⟨_, rfl⟩
              rw [← hXa]
              have HEXa := Lib.hid hXa
              clear hXa cX zX
              refine hK _ _ (fun h => absurd h (by decide)) (fun _ => ?_)
              clear hK K
              refine oneM (i := 6) rfl (by kernel_rfl) (by rfl) (fun K hK => ?_)
              go_simp
              simp only [if_pos (show (kk : Int) < (kk : Int) + 1 by omega)]
              go_simp
              refine hK _ _ (fun h => absurd h (by decide)) (fun _ => ?_)
              clear hK K
              refine oneM (i := 7) rfl (by kernel_rfl) (by rfl) (fun K hK => ?_)
              obtain ⟨hcs, k0, k1, k2, k3, kz⟩ := HLast.out; obtain ⟨l0, l1, l2, l3, lz⟩ := last_swap (X := Xa) (V5 := V5) (by rw [HEXa.out, Below.heap_setCell _ _ _ _ HGb.out]) k0 k1 k2 k3 kz; clear hcs k0 k1 k2 k3 kz
              simp only [TV.val]
              go_simp
              obtain ⟨Xb, hXb⟩ : ∃ Xb, Xb = store4 Xa g (kk * 4) (.int .u8 p.r) (.int .i64 p.e) (.string p.w) (.slice p.a p.n p.c) := ⟨_, rfl⟩
              have HEXb := Lib.hid hXb
              unfold store4 at hXb
              rw [← hXb]
              clear hXb l0 l1 l2 l3 lz
              refine hK _ _ (fun h => absurd h (by decide)) (fun _ => ?_)
              clear hK K
              refine doneM (by kernel_rfl) ?_ _
              gi_wp2
              refine HLeaf.out Xb ?_ ?_ ?_ ?_ ?_
              · rw [HEXb.out, store4_swap (V := Xa) (V5 := V5) (by rw [HEXa.out, Below.heap_setCell _ _ _ _ HGb.out]) HLast.out.1]
              · exact boxed_of_heap (W := Xa) (by rw [HEXa.out]; exact HB5.out.set _) (by rw [HEXb.out]; exact store4_other (fun e => HGb.out e.symm))
              · intro b h1 h2; rw [HEXb.out, store4_other h1, HEXa.out, Below.heap_setCell _ _ _ _ h2]
              · rw [HEXb.out, store4_size, HEXa.out, World.size_setCell]
              · rw [HEXb.out, HEXa.out]; exact ⟨rfl, rfl, rfl⟩
end Go.Proofs.YthmnffgjckpkiaaGreatDoor
namespace Go.Proofs.YthmnffgjckpkiaaGreatDoor
open Go Go.RowKit Go.Shelf

/-- What Sentence returns. -/
def sentenceS (l : List Ent) (s : List UInt8) : List Tr × Int × Int :=
  if !validS l then ([], 0, 2) else if (tokensS s).2.2 ≠ 0 then ([], (tokensS s).2.1, (tokensS s).2.2) else ((parsesS l (tokensS s).1).1, 0, (parsesS l (tokensS s).1).2)
def SentenceOk (w : World) (x : List Tr × Int × Int) (e : Ending) (w' : World) : Prop := ∃ rv, e = .returned (.tuple #[rv, .int .i64 x.2.1, .int .i64 x.2.2]) ∧ Below w.heap.size w w' ∧ ForG w.heap.size rv x.1 x.1.length w'

set_option maxHeartbeats 1000000 in
theorem Sentence_any (W0 w : World) (ht : Tabs W0 w) (v : Value) (l : List Ent) (hl : EntSlice w v l) (s : ByteArray) (hs : s.size ≤ 1000) :
    Calls Tryz.prog 15 #[v, .string s] w (SentenceOk w (sentenceS l s.data.toList)) := by
  have HV := Lib.hid (Valid_all W0 w ht v l hl)
  have HT := Lib.hid (fun (w' : World) (hb : Below w.heap.size w w') => Tokens_short W0 w' (ht.next hb) s hs)
  have HP := Lib.hid (fun (w' : World) (hb : Below w.heap.size w w') (tv : Value) (toks : List (List UInt8)) (hts : StrSlice w' tv toks) => Parses_any W0 w' (ht.next hb) v tv l (hl.below hb) toks hts)
  have hS : sentenceS l s.data.toList = if !validS l then ([], 0, 2) else if (tokensS s.data.toList).2.2 ≠ 0 then ([], (tokensS s.data.toList).2.1, (tokensS s.data.toList).2.2) else ((parsesS l (tokensS s.data.toList).1).1, 0, (parsesS l (tokensS s.data.toList).1).2) := rfl
  have HS := Lib.hid hS
  clear hS hl ht hs
  obtain ⟨T, hT⟩ : ∃ T, T = tokensS s.data.toList := ⟨_, rfl⟩
  rw [← hT] at HT HS
  clear hT
  obtain ⟨toks, pl, er⟩ := T
  obtain ⟨X, hX⟩ : ∃ X, X = sentenceS l s.data.toList := ⟨_, rfl⟩
  rw [← hX] at HS ⊢
  clear hX
  cases hv : validS l
  · rw [hv] at HV HS
    clear hv
    go_enter Tryz.func15, Tryz.ntmps15
    go_wp2_with (go_at_call 37; refine HV.out.mono ?_; rintro r w1 ⟨rfl, hb1⟩)
    refine bodyPost_ret (v := .tuple #[.slice none 0 0, .int .i64 0, .int .i64 2]) (by simp [results, Tryz.results15, go_sem]) rfl ?_
    rw [HS.out]
    exact ⟨_, rfl, hb1, ForG.nil _ _ _⟩
  · rw [hv] at HV HS
    clear hv
    by_cases h0 : er = 0
    · subst h0
      go_enter Tryz.func15, Tryz.ntmps15
      go_wp2_with (first
        | (go_at_call 37; refine HV.out.mono ?_; rintro r w1 ⟨rfl, hb1⟩)
        | (go_at_call 40; refine (HT.out _ hb1).mono ?_; rintro r w2 ⟨tv, rfl, hts, hb2⟩; have HB2 := Lib.hid (hb1.trans (hb2.mono hb1.size)); have HP2 := Lib.hid (HP.out w2 HB2.out tv toks hts); clear hb1 hb2 hts)
        | (go_at_call 23; refine HP2.out.mono ?_; rintro r w3 ⟨rv, rfl, hb3, hF⟩))
      refine bodyPost_ret (v := .tuple #[rv, .int .i64 0, .int .i64 (parsesS l toks).2]) (by simp [results, Tryz.results15, go_sem]) rfl ?_
      rw [HS.out]
      exact ⟨_, rfl, HB2.out.trans (hb3.mono HB2.out.size), hF.mono HB2.out.size⟩
    · have hne : (er != 0) = true := by simpa using h0
      have h0' := Lib.hid h0
      clear h0
      go_enter Tryz.func15, Tryz.ntmps15
      go_wp2_with (first
        | (go_at_call 37; refine HV.out.mono ?_; rintro r w1 ⟨rfl, hb1⟩)
        | (go_at_call 40; refine (HT.out _ hb1).mono ?_; rintro r w2 ⟨tv, rfl, hts, hb2⟩; have HB2 := Lib.hid (hb1.trans (hb2.mono hb1.size)); clear hb1 hb2 hts))
      refine bodyPost_ret (v := .tuple #[.slice none 0 0, .int .i64 pl, .int .i64 er]) (by simp [results, Tryz.results15, go_sem]) rfl ?_
      rw [HS.out]
      have h0 := h0'.out
      rw [if_neg (by decide), if_pos h0]
      exact ⟨_, rfl, HB2.out, ForG.nil _ _ _⟩
end Go.Proofs.YthmnffgjckpkiaaGreatDoor
namespace Go.Proofs.YthmnffgjckpkiaaGreatDoor
open Go Go.RowKit Go.Shelf

mutual
/-- Whether two parses are equal. -/
def eqT : Tr → Tr → Bool
  | .node r e w s, .node r' e' w' s' => (r == r' && (e == e' && (w == w' && s.length == s'.length))) && eqTs s s'
def eqTs : List Tr → List Tr → Bool
  | [], _ => true
  | _ :: _, [] => true
  | a :: xs, b :: ys => eqT a b && eqTs xs ys
end
theorem eqTs_get : ∀ (xs ys : List Tr), xs.length = ys.length → (eqTs xs ys = true ↔ ∀ j (h : j < xs.length) (h2 : j < ys.length), eqT xs[j] ys[j] = true)
  | [], [], _ => by simp [eqTs]
  | a :: xs, b :: ys, h => by
    have ih := eqTs_get xs ys (by simpa using h)
    simp only [eqTs, Bool.and_eq_true, ih]
    constructor
    · rintro ⟨h1, h2⟩ j hj hj2
      cases j with
      | zero => exact h1
      | succ j => exact h2 j (by simpa using hj) (by simpa using hj2)
    · intro h1
      exact ⟨h1 0 (by simp) (by simp), fun j hj hj2 => h1 (j + 1) (by simpa using hj) (by simpa using hj2)⟩
theorem eqT_refl : ∀ a : Tr, eqT a a = true := by
  intro a
  induction a using Tr.ind with
  | h r e w sub ih =>
    simp only [eqT, beq_self_eq_true, Bool.and_self, Bool.true_and]
    exact (eqTs_get sub sub rfl).2 (fun j h _ => ih _ (List.getElem_mem h))
theorem eqT_iff : ∀ (a b : Tr), eqT a b = true ↔ a = b := by
  intro a
  induction a using Tr.ind with
  | h r e w sub ih =>
    intro b
    obtain ⟨r', e', w', sub'⟩ := b
    constructor
    · intro h
      simp only [eqT, Bool.and_eq_true, beq_iff_eq] at h
      obtain ⟨⟨rfl, rfl, rfl, hl⟩, hs⟩ := h
      have h2 := (eqTs_get sub sub' hl).1 hs
      congr 1
      apply List.ext_getElem hl
      intro j h3 h4
      exact (ih _ (List.getElem_mem h3) _).1 (h2 j h3 h4)
    · rintro h
      rw [← h]
      exact eqT_refl _
theorem strv_eq (a b : List UInt8) : ((⟨a.toArray⟩ : ByteArray).toList == (⟨b.toArray⟩ : ByteArray).toList) = (a == b) := by simp [ByteArray.toList_eq]
theorem strv_ne (a b : List UInt8) : ((⟨a.toArray⟩ : ByteArray).toList != (⟨b.toArray⟩ : ByteArray).toList) = (a != b) := by simp [bne, ByteArray.toList_eq]

set_option maxRecDepth 100000 in
set_option maxHeartbeats 4000000 in
theorem Same34_any : ∀ (a : Tr), Slim a → ∀ (b : Tr) (w : World) (va vb : Value), TreeV (fun _ => True) w va a → TreeV (fun _ => True) w vb b →
    Calls Tryz.prog 18 #[va, vb] w fun e w' => e = .returned (.bool (eqT a b)) ∧ Below w.heap.size w w' := by
  intro a
  induction a using Tr.ind with
  | h r e wd sub ih =>
    intro hslim b w va vb hva hvb
    cases hslim with
    | mk _ _ _ _ hlen hss =>
    cases hva with
    | mk _ _ _ _ aa ca vs hs hsub =>
    cases hvb with
    | mk r' e' wd' sub' ab cb vs' hs' hsub' =>
    have hE : eqT (.node r e wd sub) (.node r' e' wd' sub') = ((r == r' && (e == e' && (wd == wd' && sub.length == sub'.length))) && eqTs sub sub') := by simp only [eqT]
    obtain ⟨E, hEd⟩ : ∃ E, E = eqT (.node r e wd sub) (.node r' e' wd' sub') := ⟨_, rfl⟩
    rw [← hEd] at hE ⊢
    have HE := Lib.hid hE
    clear hE hEd
    have hG := eqTs_get sub sub'
    obtain ⟨n, hn⟩ : ∃ n, n = sub.length := ⟨_, rfl⟩
    obtain ⟨n', hn'⟩ : ∃ n', n' = sub'.length := ⟨_, rfl⟩
    have HG := Lib.hid hG
    rw [← hn] at hlen ⊢
    rw [← hn'] 
    have HN := Lib.hid hn
    have HN' := Lib.hid hn'
    have HS := Lib.hid hs
    have HSub := Lib.hid hsub
    have HS' := Lib.hid hs'
    have HSub' := Lib.hid hsub'
    have HIh := Lib.hid ih
    have HSS := Lib.hid hss
    clear hn hn' hs hsub hs' hsub' ih hss hG
    have hb0 : Below w.heap.size w ((w.alloc (.cells #[.int .u8 r, .int .i64 e, .string ⟨wd.toArray⟩, .slice aa n ca] 36)).alloc (.cells #[.int .u8 r', .int .i64 e', .string ⟨wd'.toArray⟩, .slice ab n' cb] 36)) := ((Below.refl _ _).alloc (Nat.le_refl _) _).alloc (by simp) _
    by_cases h1 : r = r'
    · have d1 : (r == r') = true := by simpa using h1
      have d1' : (r != r') = false := by simp [h1]
      by_cases h2 : e = e'
      · have d2 : (e == e') = true := by simpa using h2
        have d2' : (e != e') = false := by simp [h2]
        by_cases h3 : wd = wd'
        · have d3 : (wd == wd') = true := by simpa using h3
          have d3' : (wd != wd') = false := by simp [h3]
          by_cases h4 : n = n'
          · have d4 : (n == n') = true := by simpa using h4
            have d4' : ((n : Int) != (n' : Int)) = false := by simp [h4]
            have d4'' : ((n : Int) == (n' : Int)) = true := by simp; omega
            have hF : E = eqTs sub sub' := by rw [HE.out, d1, d2, d3, ← HN.out, ← HN'.out, d4]; rfl
            have HF := Lib.hid hF
            have H4 := Lib.hid h4
            clear h1 h2 h3 h4 hF
            go_enter Tryz.func18, Tryz.ntmps18
            go_wp2
            obtain ⟨W1, hW1⟩ : ∃ W1, W1 = (w.alloc (.cells #[.int .u8 r, .int .i64 e, .string ⟨wd.toArray⟩, .slice aa n ca] 36)).alloc (.cells #[.int .u8 r', .int .i64 e', .string ⟨wd'.toArray⟩, .slice ab n' cb] 36) := ⟨_, rfl⟩
            have x1 : W1.heap[w.heap.size]? = some (.cells #[.int .u8 r, .int .i64 e, .string ⟨wd.toArray⟩, .slice aa n ca] 36 (0, 0)) := by rw [hW1, Below.heap_alloc _ _ _ (by simp)]; exact heap_atC rfl
            have x2 : W1.heap[w.heap.size + 1]? = some (.cells #[.int .u8 r', .int .i64 e', .string ⟨wd'.toArray⟩, .slice ab n' cb] 36 (0, 0)) := by rw [hW1]; exact heap_atC (by simp)
            rw [← hW1] at hb0 ⊢
            have HX1 := Lib.hid x1
            have HX2 := Lib.hid x2
            have HB0 := Lib.hid hb0
            clear hW1 x1 x2 hb0 d1 d1' d2 d2' d3 d3' d4 d4' d4''
            go_loopw [5] (fun q wr => ∃ k : Nat, k ≤ n ∧ q = .int .i64 k ∧ (∀ j (h : j < sub.length) (h2 : j < sub'.length), j < k → eqT sub[j] sub'[j] = true) ∧ Below W1.heap.size W1 wr) (fun q _ => n - (intOf q).toNat)
            case atStart => exact ⟨0, Nat.zero_le _, rfl, fun _ _ _ h => absurd h (Nat.not_lt_zero _), Below.refl _ _⟩
            case round =>
              obtain ⟨k, hk, rfl, hall, hB⟩ := hrel
              have HAll := Lib.hid hall
              have HB := Lib.hid hB
              clear hall hB
              have c3 : wr.cell? ⟨w.heap.size, 3, none⟩ = some (.slice aa n ca) := cell_kept' HB.out ((cell_rowC HX1.out 3).trans rfl)
              have c3' : wr.cell? ⟨w.heap.size + 1, 3, none⟩ = some (.slice ab n' cb) := cell_kept' HB.out ((cell_rowC HX2.out 3).trans rfl)
              by_cases hlt : k < n
              · have hd : decide ((k : Int) < (n : Int)) = true := decide_eq_true (by omega)
                have hlt' : k < n' := by have := H4.out; omega
                have hsb : sub ≠ [] := by intro h; have := HN.out; rw [h] at this; simp at this; omega
                have hsb' : sub' ≠ [] := by intro h; have := HN'.out; rw [h] at this; simp at this; omega
                obtain ⟨b, off, rfl, _, hc⟩ := HS.out.resolve_left hsb
                obtain ⟨b', off', rfl, _, hc'⟩ := HS'.out.resolve_left hsb'
                have hkl : k < sub.length := by rw [← HN.out]; exact hlt
                have hkl' : k < sub'.length := by rw [← HN'.out]; exact hlt'
                have hBw : Below w.heap.size w wr := HB0.out.trans (HB.out.mono HB0.out.size)
                have htv := HSub.out k hkl
                have htv' := HSub'.out k hkl'
                obtain ⟨q, hq⟩ := htv.form
                obtain ⟨q', hq'⟩ := htv'.form
                obtain ⟨y0, y1, y2, y3, hy, g0, g1, g2, g3⟩ := hc k hkl
                obtain ⟨z0, z1, z2, z3, hz, g0', g1', g2', g3'⟩ := hc' k hkl'
                rw [hq] at hy htv
                rw [hq'] at hz htv'
                unfold TV.val at hy hz
                simp only [Value.agg.injEq, Array.mk.injEq, List.cons.injEq, and_true] at hy hz
                obtain ⟨rfl, rfl, rfl, rfl⟩ := hy
                obtain ⟨rfl, rfl, rfl, rfl⟩ := hz
                have hC := fun x : Later wr => HIh.out sub[k] (List.getElem_mem hkl) (HSS.out _ (List.getElem_mem hkl)) sub'[k] x.w q.val q'.val
                  (TreeV.move (W := w) (W' := x.w) (ok' := fun _ => True) (fun c _ h => ⟨trivial, by obtain ⟨_, _, h⟩ := h; exact (x.below.block c (Nat.lt_of_lt_of_le (cell_lt h) hBw.size)).trans (hBw.block c (cell_lt h))⟩) htv)
                  (TreeV.move (W := w) (W' := x.w) (ok' := fun _ => True) (fun c _ h => ⟨trivial, by obtain ⟨_, _, h⟩ := h; exact (x.below.block c (Nat.lt_of_lt_of_le (cell_lt h) hBw.size)).trans (hBw.block c (cell_lt h))⟩) htv')
                unfold TV.val at hC
                obtain ⟨R, hR⟩ : ∃ R, R = eqT sub[k] sub'[k] := ⟨_, rfl⟩
                rw [← hR] at hC
                have HR := Lib.hid hR
                have HC := Lib.hid hC
                have f0 := fun x : Later wr => x.get c3
                have f1 := fun x : Later wr => x.get c3'
                have f2 := fun x : Later wr => x.get (cell_kept' hBw g0)
                have f3 := fun x : Later wr => x.get (cell_kept' hBw g1)
                have f4 := fun x : Later wr => x.get (cell_kept' hBw g2)
                have f5 := fun x : Later wr => x.get (cell_kept' hBw g3)
                have f6 := fun x : Later wr => x.get (cell_kept' hBw g0')
                have f7 := fun x : Later wr => x.get (cell_kept' hBw g1')
                have f8 := fun x : Later wr => x.get (cell_kept' hBw g2')
                have f9 := fun x : Later wr => x.get (cell_kept' hBw g3')
                clear g0 g1 g2 g3 g0' g1' g2' g3' hc hc' htv htv' hq hq' hC hR hBw
                go_wp2
                refine wp_region_later (by kernel_rfl) (by kernel_rfl) ?_
                repeat (go_big_quiet_step ((go_at_call 18; exact later_call (HC.out _))))
                refine wpQuiet_nil ?_
                rintro _ ⟨x', rfl⟩
                clear f0 f1 f2 f3 f4 f5 f6 f7 f8 f9 c3 c3'
                have HB2 := Lib.hid (HB.out.trans (x'.below.mono HB.out.size))
                cases R
                · go_wp2
                  go_ret
                  have hE0 : E = false := by
                    rw [HF.out]
                    cases hq : eqTs sub sub'
                    · rfl
                    · have := (HG.out (by rw [← HN.out, ← HN'.out]; exact H4.out)).1 hq k hkl hkl'
                      rw [← HR.out] at this
                      cases this
                  exact ⟨by rw [hE0]; rfl, HB0.out.trans (HB2.out.mono HB0.out.size)⟩
                · go_wp2
                  go_roundw
                  case rel => exact ⟨k + 1, by omega, by go_num, fun j h1 h2 h3 => by
                    by_cases hj : j = k
                    · subst hj; exact HR.out.symm
                    · exact HAll.out j h1 h2 (by omega), HB2.out⟩
                  case measure => simp [intOf]; omega
              · have hd : decide ((k : Int) < (n : Int)) = false := decide_eq_false (by omega)
                obtain rfl : k = n := by omega
                go_wp2
                go_ret
                have hE1 : E = true := by
                  rw [HF.out, HG.out (by rw [← HN.out, ← HN'.out]; exact H4.out)]
                  exact fun j h1 h2 => HAll.out j h1 h2 (by rw [HN.out]; exact h1)
                exact ⟨by rw [hE1]; rfl, HB0.out.trans (HB.out.mono HB0.out.size)⟩
          · have d4 : (n == n') = false := by simpa using h4
            have d4' : ((n : Int) != (n' : Int)) = true := by simp; omega
            have d4'' : ((n : Int) == (n' : Int)) = false := by simp; omega
            have hF : E = false := by rw [HE.out, d1, d2, d3, ← HN.out, ← HN'.out, d4]; rfl
            have HF := Lib.hid hF
            clear h1 h2 h3 h4 hF
            go_enter Tryz.func18, Tryz.ntmps18
            go_wp2
            go_ret
            exact ⟨by rw [HF.out]; rfl, hb0⟩
        · have d3 : (wd == wd') = false := by simpa using h3
          have d3' : (wd != wd') = true := by simpa using h3
          have hF : E = false := by rw [HE.out, d1, d2, d3]; rfl
          have HF := Lib.hid hF
          clear h1 h2 h3 hF
          go_enter Tryz.func18, Tryz.ntmps18
          go_wp2
          go_ret
          exact ⟨by rw [HF.out]; rfl, hb0⟩
      · have d2 : (e == e') = false := by simpa using h2
        have d2' : (e != e') = true := by simpa using h2
        have hF : E = false := by rw [HE.out, d1, d2]; rfl
        have HF := Lib.hid hF
        clear h1 h2 hF
        go_enter Tryz.func18, Tryz.ntmps18
        go_wp2
        go_ret
        exact ⟨by rw [HF.out]; rfl, hb0⟩
    · have d1 : (r == r') = false := by simpa using h1
      have d1' : (r != r') = true := by simpa using h1
      have hF : E = false := by rw [HE.out, d1]; rfl
      have HF := Lib.hid hF
      clear h1 hF
      go_enter Tryz.func18, Tryz.ntmps18
      go_wp2
      go_ret
      exact ⟨by rw [HF.out]; rfl, hb0⟩
end Go.Proofs.YthmnffgjckpkiaaGreatDoor
namespace Go.Proofs.YthmnffgjckpkiaaGreatDoor
open Go Go.RowKit Go.Shelf

/-- The lexicon of the examples. -/
def exL : List Ent := [
  ⟨⟨#[65, 110, 110]⟩, 3, ⟨#[97, 110, 110]⟩⟩,
  ⟨⟨#[66, 111, 98]⟩, 3, ⟨#[98, 111, 98]⟩⟩,
  ⟨⟨#[98, 111, 111, 107]⟩, 1, ⟨#[66, 111, 111, 107]⟩⟩,
  ⟨⟨#[104, 97, 112, 112, 121]⟩, 2, ⟨#[72, 97, 112, 112, 121]⟩⟩,
  ⟨⟨#[107, 110, 111, 119]⟩, 5, ⟨#[75, 110, 111, 119, 115]⟩⟩,
  ⟨⟨#[111, 119, 108]⟩, 1, ⟨#[79, 119, 108]⟩⟩,
  ⟨⟨#[115, 108, 101, 101, 112]⟩, 4, ⟨#[83, 108, 101, 101, 112, 115]⟩⟩,
  ⟨⟨#[115, 116, 117, 100, 101, 110, 116]⟩, 1, ⟨#[83, 116, 117, 100, 101, 110, 116]⟩⟩]
def entCells34 (e : Ent) : List Value := [.string e.word, .int .u8 e.cat, .string e.sym]
theorem flat34 (l : List Ent) : ∀ j (h : j < l.length), (l.flatMap entCells34)[j * 3]? = some (.string l[j].word) ∧ (l.flatMap entCells34)[j * 3 + 1]? = some (.int .u8 l[j].cat) ∧ (l.flatMap entCells34)[j * 3 + 2]? = some (.string l[j].sym) := by
  induction l with
  | nil => intro j h; simp at h
  | cons f fs ih =>
    intro j h
    cases j with
    | zero => simp [entCells34]
    | succ j =>
      have := ih j (by simpa using h)
      simp only [List.flatMap_cons, entCells34, List.cons_append, List.nil_append]
      rw [show (j + 1) * 3 = j * 3 + 1 + 1 + 1 by omega, show j * 3 + 1 + 1 + 1 + 1 = (j * 3 + 1) + 1 + 1 + 1 by omega, show j * 3 + 1 + 1 + 1 + 2 = (j * 3 + 2) + 1 + 1 + 1 by omega]
      simpa using this
theorem entSlice_row34 {w : World} {g cap : Nat} {cs : Array Value} {t : TypeId} {fr : Nat × Nat} {l : List Ent} (hb : w.heap[g]? = some (.cells cs t fr)) (hcs : cs.toList = l.flatMap entCells34) (hn : l.length ≤ cap) (hc : cap ≤ maxLen) (hok : ∀ e ∈ l, e.ok) : EntSlice w (.slice (some ⟨g, 0, none⟩) l.length cap) l := by
  refine ⟨⟨_, cap, rfl, hn, hc, .inr ⟨g, 0, rfl, (Array.getElem?_eq_some_iff.1 hb).1, fun j hj => ?_⟩⟩, hok⟩
  have one : ∀ k v, (l.flatMap entCells34)[k]? = some v → w.cell? ⟨g, k, none⟩ = some v := fun k v h => by
    rw [cell_of_row w g k cs t fr hb, ← Array.getElem?_toList, hcs]
    exact h
  obtain ⟨h0, h1, h2⟩ := flat34 l j hj
  rw [Nat.zero_add]
  exact ⟨one _ _ h0, one _ _ h1, one _ _ h2⟩
theorem exL_ok : ∀ e ∈ exL, e.ok := by
  simp [exL, Ent.ok, maxLen]; decide

set_option maxRecDepth 100000 in
set_option maxHeartbeats 2000000 in
theorem Example34_any (w : World) :
    Calls Tryz.prog 24 #[] w fun r w' => ∃ v, r = .returned v ∧ EntSlice w' v exL ∧ Below w.heap.size w w' := by
  go_enter Tryz.func24, Tryz.ntmps24
  go_wp2
  go_ret
  exact ⟨_, rfl, entSlice_row34 (l := exL) (cap := 8) (heap_alloc_new _ _) rfl (by decide) (by decide) exL_ok, (Below.refl _ _).alloc (Nat.le_refl _) _⟩

/-- How many parses a text has with the lexicon of the examples; -1 with an error. -/
def manyS (s : List UInt8) : Int := if (sentenceS exL s).2.2 = 6 then 0 else if (sentenceS exL s).2.2 ≠ 0 then -1 else (sentenceS exL s).1.length
theorem many_any (W0 w : World) (ht : Tabs W0 w) (s : ByteArray) (hs : s.size ≤ 1000) :
    Calls Tryz.prog 39 #[.string s] w fun r w' => r = .returned (.int .i64 (manyS s.data.toList)) ∧ Below w.heap.size w w' := by
  have HS := Lib.hid (fun (w' : World) (hb : Below w.heap.size w w') (v : Value) (hl : EntSlice w' v exL) => Sentence_any W0 w' (ht.next hb) v exL hl s hs)
  have hM : manyS s.data.toList = if (sentenceS exL s.data.toList).2.2 = 6 then 0 else if (sentenceS exL s.data.toList).2.2 ≠ 0 then -1 else ((sentenceS exL s.data.toList).1.length : Int) := rfl
  obtain ⟨X, hX⟩ : ∃ X, X = sentenceS exL s.data.toList := ⟨_, rfl⟩
  rw [← hX] at HS hM
  obtain ⟨ts, pl, er⟩ := X
  obtain ⟨M, hMd⟩ : ∃ M, M = manyS s.data.toList := ⟨_, rfl⟩
  rw [← hMd] at hM ⊢
  have HM := Lib.hid hM
  have HT := Lib.hid (Example34_any w)
  clear hX hMd hM hs ht
  by_cases h6 : er = 6
  · subst h6
    go_enter Tryz.func39, Tryz.ntmps39
    go_wp2_with (first
      | (go_at_call 24; refine HT.out.mono ?_; rintro r w1 ⟨v, rfl, hl, hb1⟩)
      | (go_at_call 15; refine (HS.out _ hb1 _ hl).mono ?_; rintro r w2 ⟨rv, rfl, hb2, hF⟩))
    go_ret
    exact ⟨by rw [HM.out]; rfl, hb1.trans (hb2.mono hb1.size)⟩
  · have d6 : (er == 6) = false := by simpa using h6
    by_cases h0 : er = 0
    · subst h0
      clear h6
      go_enter Tryz.func39, Tryz.ntmps39
      go_wp2_with (first
        | (go_at_call 24; refine HT.out.mono ?_; rintro r w1 ⟨v, rfl, hl, hb1⟩)
        | (go_at_call 15; refine (HS.out _ hb1 _ hl).mono ?_; rintro r w2 ⟨rv, rfl, hb2, hF⟩; obtain ⟨ra, rc, hrv⟩ : ∃ ra rc, rv = .slice ra ts.length rc := (by obtain ⟨_, _, _, _, hown, _⟩ := hF; exact owns_form hown); subst hrv))
      go_ret
      exact ⟨by rw [HM.out]; rfl, hb1.trans (hb2.mono hb1.size)⟩
    · have d0 : (er != 0) = true := by simpa using h0
      have H := Lib.hid (And.intro h6 h0)
      clear h6 h0
      go_enter Tryz.func39, Tryz.ntmps39
      go_wp2_with (first
        | (go_at_call 24; refine HT.out.mono ?_; rintro r w1 ⟨v, rfl, hl, hb1⟩)
        | (go_at_call 15; refine (HS.out _ hb1 _ hl).mono ?_; rintro r w2 ⟨rv, rfl, hb2, hF⟩))
      go_ret
      refine ⟨?_, hb1.trans (hb2.mono hb1.size)⟩
      rw [HM.out]
      simp only
      rw [if_neg H.out.1, if_pos H.out.2]
      rfl

/-- The seven sentences. -/
def sen0 : List UInt8 := [69, 118, 101, 114, 121, 32, 115, 116, 117, 100, 101, 110, 116, 32, 107, 110, 111, 119, 115, 32, 97, 32, 98, 111, 111, 107, 46]
def wantT : Tr := .node 5 0 [] [.node 7 0 wEvery [.node 8 7 [] []], .node 13 4 [] [.node 7 0 wA [.node 8 2 [] []]]]
def eqSent (x : List Tr × Int × Int) (t : Tr) : Bool := x.2.1 == 0 && x.2.2 == 0 && (match x.1 with | [a] => eqT a t | _ => false)
set_option maxRecDepth 100000 in
theorem sen0_is : eqSent (sentenceS exL sen0) wantT = true := by decide +kernel
theorem sen0_eq : sentenceS exL sen0 = ([wantT], 0, 0) := by
  have h := sen0_is
  unfold eqSent at h
  generalize sentenceS exL sen0 = X at h ⊢
  obtain ⟨ts, pl, er⟩ := X
  simp only [Bool.and_eq_true, beq_iff_eq] at h
  obtain ⟨⟨rfl, rfl⟩, h⟩ := h
  split at h
  · rename_i a; rw [(eqT_iff _ _).1 h]
  · cases h
def sen1 : List UInt8 := [65, 110, 110, 32, 107, 110, 111, 119, 115, 32, 97, 32, 115, 116, 117, 100, 101, 110, 116, 32, 119, 104, 111, 32, 115, 108, 101, 101, 112, 115, 32, 97, 110, 100, 32, 107, 110, 111, 119, 115, 32, 66, 111, 98, 46]
set_option maxRecDepth 100000 in
theorem many1 : manyS sen1 = 2 := by decide +kernel
def sen2 : List UInt8 := [73, 102, 32, 65, 110, 110, 32, 115, 108, 101, 101, 112, 115, 32, 116, 104, 101, 110, 32, 66, 111, 98, 32, 115, 108, 101, 101, 112, 115, 32, 97, 110, 100, 32, 65, 110, 110, 32, 107, 110, 111, 119, 115, 32, 66, 111, 98, 46]
set_option maxRecDepth 100000 in
theorem many2 : manyS sen2 = 2 := by decide +kernel
def sen3 : List UInt8 := [65, 110, 110, 32, 107, 110, 111, 119, 32, 66, 111, 98, 46]
set_option maxRecDepth 100000 in
theorem many3 : manyS sen3 = 0 := by decide +kernel
def sen4 : List UInt8 := [65, 110, 110, 32, 100, 111, 101, 115, 32, 110, 111, 116, 32, 115, 108, 101, 101, 112, 115, 46]
set_option maxRecDepth 100000 in
theorem many4 : manyS sen4 = 0 := by decide +kernel
def sen5 : List UInt8 := [65, 110, 110, 32, 107, 110, 111, 119, 115, 32, 97, 110, 32, 98, 111, 111, 107, 46]
set_option maxRecDepth 100000 in
theorem many5 : manyS sen5 = 0 := by decide +kernel
def sen6 : List UInt8 := [65, 110, 110, 32, 100, 111, 101, 115, 32, 110, 111, 116, 32, 115, 108, 101, 101, 112, 46]
set_option maxRecDepth 100000 in
theorem many6 : manyS sen6 = 1 := by decide +kernel

theorem forG_one {B0 : Nat} {a : Option Addr} {cap : Nat} {t : Tr} {W : World} (h : ForG B0 (.slice a 1 cap) [t] 1 W) : ∃ g q, a = some ⟨g, 0, none⟩ ∧ TreeV (fun _ => True) W (TV.val q) t ∧ W.cell? ⟨g, 0, none⟩ = some (.int .u8 q.r) ∧ W.cell? ⟨g, 1, none⟩ = some (.int .i64 q.e) ∧ W.cell? ⟨g, 2, none⟩ = some (.string q.w) ∧ W.cell? ⟨g, 3, none⟩ = some (.slice q.a q.n q.c) := by
  obtain ⟨qs, L, H, hk, hown, ht, _⟩ := h
  obtain ⟨q, rfl⟩ : ∃ q, qs = [q] := List.length_eq_one_iff.1 hk
  rcases hown.2 with ⟨_, h0⟩ | ⟨g, cap', cur, he, _⟩
  · cases h0
  · cases he
    obtain ⟨x0, x1, x2, x3, hx, c0, c1, c2, c3⟩ := owns_cells hown 0 (by simp)
    simp only [List.getElem_cons_zero] at hx
    unfold TV.val at hx
    simp only [Value.agg.injEq, Array.mk.injEq, List.cons.injEq, and_true] at hx
    obtain ⟨rfl, rfl, rfl, rfl⟩ := hx
    exact ⟨g, q, rfl, (ht 0 (by simp) (by simp)).treeV.move (fun b _ _ => ⟨trivial, rfl⟩), c0, c1, c2, c3⟩

theorem tree_leaf {ok : Nat → Prop} {W : World} (r e : Int) (w : List UInt8) (bs : Array UInt8) (hw : w.toArray = bs) : TreeV ok W (.agg #[.int .u8 r, .int .i64 e, .string ⟨bs⟩, .slice none 0 0]) (.node r e w []) := by
  subst hw
  exact TreeV.mk r e w [] none 0 (fun _ => .agg #[]) (.inl rfl) (fun j hj => by simp at hj)
theorem tree_one {ok : Nat → Prop} {W : World} {b : Nat} {T : TypeId} {x : Tr} (q : TV) (hb : W.heap[b]? = some (.cells #[.int .u8 q.r, .int .i64 q.e, .string q.w, .slice q.a q.n q.c] T (0, 0))) (hok : ok b) (hx : TreeV ok W q.val x) (r e : Int) (w : List UInt8) (bs : Array UInt8) (hw : w.toArray = bs) :
    TreeV ok W (.agg #[.int .u8 r, .int .i64 e, .string ⟨bs⟩, .slice (some ⟨b, 0, none⟩) 1 1]) (.node r e w [x]) := by
  subst hw
  refine TreeV.mk r e w [x] (some ⟨b, 0, none⟩) 1 (fun _ => q.val) (.inr ⟨b, 0, rfl, hok, fun j hj => ?_⟩) (fun j hj => ?_)
  · obtain rfl : j = 0 := by simp at hj; omega
    exact ⟨_, _, _, _, rfl, (cell_rowC hb 0).trans rfl, (cell_rowC hb 1).trans rfl, (cell_rowC hb 2).trans rfl, (cell_rowC hb 3).trans rfl⟩
  · obtain rfl : j = 0 := by simp at hj; omega
    exact hx
theorem tree_two {ok : Nat → Prop} {W : World} {b : Nat} {T : TypeId} {x y : Tr} (q p : TV) (hb : W.heap[b]? = some (.cells #[.int .u8 q.r, .int .i64 q.e, .string q.w, .slice q.a q.n q.c, .int .u8 p.r, .int .i64 p.e, .string p.w, .slice p.a p.n p.c] T (0, 0))) (hok : ok b) (hx : TreeV ok W q.val x) (hy : TreeV ok W p.val y) (r e : Int) (w : List UInt8) (bs : Array UInt8) (hw : w.toArray = bs) :
    TreeV ok W (.agg #[.int .u8 r, .int .i64 e, .string ⟨bs⟩, .slice (some ⟨b, 0, none⟩) 2 2]) (.node r e w [x, y]) := by
  subst hw
  refine TreeV.mk r e w [x, y] (some ⟨b, 0, none⟩) 2 (fun j => if j = 0 then q.val else p.val) (.inr ⟨b, 0, rfl, hok, fun j hj => ?_⟩) (fun j hj => ?_)
  · rcases j with _ | _ | j
    · exact ⟨_, _, _, _, rfl, (cell_rowC hb 0).trans rfl, (cell_rowC hb 1).trans rfl, (cell_rowC hb 2).trans rfl, (cell_rowC hb 3).trans rfl⟩
    · exact ⟨_, _, _, _, rfl, (cell_rowC hb 4).trans rfl, (cell_rowC hb 5).trans rfl, (cell_rowC hb 6).trans rfl, (cell_rowC hb 7).trans rfl⟩
    · simp at hj; omega
  · rcases j with _ | _ | j
    · exact hx
    · exact hy
    · simp at hj; omega
theorem want_slim : Slim wantT := by
  refine slim_node2 _ _ _ _ _ (slim_node1 _ _ _ _ (slim_node0 _ _ _)) (slim_node1 _ _ _ _ (slim_node1 _ _ _ _ (slim_node0 _ _ _)))

set_option maxRecDepth 100000 in
set_option maxHeartbeats 4000000 in
/-- **awake holds.** -/
theorem awake34_any (W0 w : World) (ht : Tabs W0 w) : Calls Tryz.prog 14 #[] w fun e w' => e = .returned (.bool true) ∧ Below w.heap.size w w' := by
  have HT := Lib.hid ht
  have HX := Lib.hid (Example34_any w)
  have HS := Lib.hid (fun (w' : World) (hb : Below w.heap.size w w') (v : Value) (hl : EntSlice w' v exL) => by
    have := Sentence_any W0 w' (ht.next hb) v exL hl ⟨sen0.toArray⟩ (by decide)
    rw [show (⟨sen0.toArray⟩ : ByteArray).data.toList = sen0 from rfl, sen0_eq] at this
    exact this)
  clear ht
  go_enter Tryz.func14, Tryz.ntmps14
  go_wp2_with (first
    | (go_at_call 24; refine HX.out.mono ?_; rintro r w1 ⟨v, rfl, hl, hb1⟩)
    | (go_at_call 15; refine (HS.out _ hb1 _ hl).mono ?_; rintro r w2 ⟨rv, rfl, hb2, hF⟩; obtain ⟨ra, rc, hrv⟩ : ∃ ra rc, rv = .slice ra 1 rc := (by obtain ⟨_, _, _, _, hown, _⟩ := hF; exact owns_form hown); subst hrv; obtain ⟨g, q, rfl, htv, c0, c1, c2, c3⟩ := forG_one hF; have HTv := Lib.hid htv; have HB2 := Lib.hid (hb1.trans (hb2.mono hb1.size)); have hglt := cell_lt c0; simp only at hglt; clear hF htv hb1 hb2 hl))
  obtain ⟨B, hB⟩ : ∃ B, B = w2.heap.size := ⟨_, rfl⟩
  obtain ⟨W5, hW5⟩ : ∃ W5, W5 = (((((w2.alloc (.cells #[.int .u8 q.r, .int .i64 q.e, .string q.w, .slice q.a q.n q.c] 36)).alloc (.cells #[.int .u8 8, .int .i64 7, .string ⟨#[]⟩, .slice none 0 0] 36)).alloc (.cells #[.int .u8 8, .int .i64 2, .string ⟨#[]⟩, .slice none 0 0] 36)).alloc (.cells #[.int .u8 7, .int .i64 0, .string ⟨#[97]⟩, .slice (some ⟨w2.heap.size + 1 + 1, 0, none⟩) 1 1] 36)).alloc (.cells #[.int .u8 7, .int .i64 0, .string ⟨#[101, 118, 101, 114, 121]⟩, .slice (some ⟨w2.heap.size + 1, 0, none⟩) 1 1, .int .u8 13, .int .i64 4, .string ⟨#[]⟩, .slice (some ⟨w2.heap.size + 1 + 1 + 1, 0, none⟩) 1 1] 36)).alloc (.cells #[.int .u8 5, .int .i64 0, .string ⟨#[]⟩, .slice (some ⟨w2.heap.size + 1 + 1 + 1 + 1, 0, none⟩) 2 2] 36) := ⟨_, rfl⟩
  have hb5 : Below w2.heap.size w2 W5 := by rw [hW5]; exact ((((((Below.refl _ _).alloc (by first | (simp; done) | (simp; omega)) _).alloc (by first | (simp; done) | (simp; omega)) _).alloc (by first | (simp; done) | (simp; omega)) _).alloc (by first | (simp; done) | (simp; omega)) _).alloc (by first | (simp; done) | (simp; omega)) _).alloc (by first | (simp; done) | (simp; omega)) _
  have top : ∀ {w : World} {o : Obj} {k : Nat}, k = w.heap.size → (w.alloc o).heap[k]? = some o := fun h => heap_atC h
  have bel : ∀ {w : World} {o x : Obj} {k : Nat}, w.heap[k]? = some x → (w.alloc o).heap[k]? = some x := fun h => (Below.heap_alloc _ _ _ (Array.getElem?_eq_some_iff.1 h).1).trans h
  have a1 : W5.heap[w2.heap.size + 1]? = some (.cells #[.int .u8 8, .int .i64 7, .string ⟨#[]⟩, .slice none 0 0] 36 (0, 0)) := by rw [hW5]; exact bel (bel (bel (bel (top (by simp)))))
  have a2 : W5.heap[w2.heap.size + 1 + 1]? = some (.cells #[.int .u8 8, .int .i64 2, .string ⟨#[]⟩, .slice none 0 0] 36 (0, 0)) := by rw [hW5]; exact bel (bel (bel (top (by simp))))
  have a3 : W5.heap[w2.heap.size + 1 + 1 + 1]? = some (.cells #[.int .u8 7, .int .i64 0, .string ⟨#[97]⟩, .slice (some ⟨w2.heap.size + 1 + 1, 0, none⟩) 1 1] 36 (0, 0)) := by rw [hW5]; exact bel (bel (top (by simp)))
  have a4 : W5.heap[w2.heap.size + 1 + 1 + 1 + 1]? = some (.cells #[.int .u8 7, .int .i64 0, .string ⟨#[101, 118, 101, 114, 121]⟩, .slice (some ⟨w2.heap.size + 1, 0, none⟩) 1 1, .int .u8 13, .int .i64 4, .string ⟨#[]⟩, .slice (some ⟨w2.heap.size + 1 + 1 + 1, 0, none⟩) 1 1] 36 (0, 0)) := by rw [hW5]; exact bel (top (by simp))
  have hw : TreeV (fun _ => True) W5 (.agg #[.int .u8 5, .int .i64 0, .string ⟨#[]⟩, .slice (some ⟨w2.heap.size + 1 + 1 + 1 + 1, 0, none⟩) 2 2]) wantT :=
    tree_two ⟨7, 0, ⟨#[101, 118, 101, 114, 121]⟩, some ⟨w2.heap.size + 1, 0, none⟩, 1, 1⟩ ⟨13, 4, ⟨#[]⟩, some ⟨w2.heap.size + 1 + 1 + 1, 0, none⟩, 1, 1⟩ a4 trivial
      (tree_one ⟨8, 7, ⟨#[]⟩, none, 0, 0⟩ a1 trivial (tree_leaf 8 7 [] _ rfl) 7 0 wEvery _ rfl)
      (tree_one ⟨7, 0, ⟨#[97]⟩, some ⟨w2.heap.size + 1 + 1, 0, none⟩, 1, 1⟩ a3 trivial (tree_one ⟨8, 2, ⟨#[]⟩, none, 0, 0⟩ a2 trivial (tree_leaf 8 2 [] _ rfl) 7 0 wA _ rfl) 13 4 [] _ rfl) 5 0 [] _ rfl
  rw [← hW5]
  have ht5 := TreeV.move (W := w2) (W' := W5) (ok' := fun _ => True) (fun b _ h => ⟨trivial, by obtain ⟨_, _, h⟩ := h; exact hb5.block b (cell_lt h)⟩) HTv.out
  have hsame := Same34_any wantT want_slim wantT W5 _ _ ht5 hw
  rw [eqT_refl] at hsame
  unfold TV.val at hsame
  have HSame := Lib.hid hsame
  have HC5 := Lib.hid (HB2.out.trans (hb5.mono HB2.out.size))
  have HM1 := Lib.hid (fun (w' : World) (hb : Below w.heap.size w w') => by
    have := many_any W0 w' (HT.out.next hb) ⟨sen1.toArray⟩ (by decide)
    rw [show (⟨sen1.toArray⟩ : ByteArray).data.toList = sen1 from rfl, many1] at this
    exact this)
  have HM2 := Lib.hid (fun (w' : World) (hb : Below w.heap.size w w') => by
    have := many_any W0 w' (HT.out.next hb) ⟨sen2.toArray⟩ (by decide)
    rw [show (⟨sen2.toArray⟩ : ByteArray).data.toList = sen2 from rfl, many2] at this
    exact this)
  have HM3 := Lib.hid (fun (w' : World) (hb : Below w.heap.size w w') => by
    have := many_any W0 w' (HT.out.next hb) ⟨sen3.toArray⟩ (by decide)
    rw [show (⟨sen3.toArray⟩ : ByteArray).data.toList = sen3 from rfl, many3] at this
    exact this)
  have HM4 := Lib.hid (fun (w' : World) (hb : Below w.heap.size w w') => by
    have := many_any W0 w' (HT.out.next hb) ⟨sen4.toArray⟩ (by decide)
    rw [show (⟨sen4.toArray⟩ : ByteArray).data.toList = sen4 from rfl, many4] at this
    exact this)
  have HM5 := Lib.hid (fun (w' : World) (hb : Below w.heap.size w w') => by
    have := many_any W0 w' (HT.out.next hb) ⟨sen5.toArray⟩ (by decide)
    rw [show (⟨sen5.toArray⟩ : ByteArray).data.toList = sen5 from rfl, many5] at this
    exact this)
  have HM6 := Lib.hid (fun (w' : World) (hb : Below w.heap.size w w') => by
    have := many_any W0 w' (HT.out.next hb) ⟨sen6.toArray⟩ (by decide)
    rw [show (⟨sen6.toArray⟩ : ByteArray).data.toList = sen6 from rfl, many6] at this
    exact this)
  clear hW5 hb5 top bel a1 a2 a3 a4 hw ht5 hsame c0 c1 c2 c3 hglt HX HS hB
  refine HSame.out.mono ?_
  rintro _ w6 ⟨rfl, hb6⟩
  have HC0 := Lib.hid (HC5.out.trans (hb6.mono HC5.out.size))
  clear hb6
  go_wp2_with fail
  refine (HM1.out w6 HC0.out).mono ?_
  rintro _ w7 ⟨rfl, hbm1⟩
  have HC1 := Lib.hid (HC0.out.trans (hbm1.mono HC0.out.size))
  clear hbm1
  go_wp2_with fail
  refine (HM2.out w7 HC1.out).mono ?_
  rintro _ w8 ⟨rfl, hbm2⟩
  have HC2 := Lib.hid (HC1.out.trans (hbm2.mono HC1.out.size))
  clear hbm2
  go_wp2_with fail
  refine (HM3.out w8 HC2.out).mono ?_
  rintro _ w9 ⟨rfl, hbm3⟩
  have HC3 := Lib.hid (HC2.out.trans (hbm3.mono HC2.out.size))
  clear hbm3
  go_wp2_with fail
  refine (HM4.out w9 HC3.out).mono ?_
  rintro _ w10 ⟨rfl, hbm4⟩
  have HC4 := Lib.hid (HC3.out.trans (hbm4.mono HC3.out.size))
  clear hbm4
  go_wp2_with fail
  refine (HM5.out w10 HC4.out).mono ?_
  rintro _ w11 ⟨rfl, hbm5⟩
  have HC5 := Lib.hid (HC4.out.trans (hbm5.mono HC4.out.size))
  clear hbm5
  go_wp2_with fail
  refine (HM6.out w11 HC5.out).mono ?_
  rintro _ w12 ⟨rfl, hbm6⟩
  have HC6 := Lib.hid (HC5.out.trans (hbm6.mono HC5.out.size))
  clear hbm6
  go_wp2
  go_ret
  exact ⟨rfl, HC6.out⟩
end Go.Proofs.YthmnffgjckpkiaaGreatDoor
