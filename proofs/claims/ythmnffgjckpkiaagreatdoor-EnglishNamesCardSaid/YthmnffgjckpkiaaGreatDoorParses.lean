/-
  The contract of 'Parses' of package english.
-/
import Derived.Test.YthmnffgjckpkiaaGreatDoorSent
import Derived.Test.YthmnffgjckpkiaaGreatDoorHeldIn
import Derived.Test.YthmnffgjckpkiaaGreatDoorLen
namespace Go.Proofs.YthmnffgjckpkiaaGreatDoor
open Go Go.RowKit Go.Shelf
section
variable {F : Fence} {n : Nat} {P : Program} {ops : Array Oper} {md : Region.Mode} {Q : Exit → Act → World → Prop} {S : World → Prop} {e : Nat}
/-- Two numbers may come up. -/
theorem twoM {i j : Nat} {oi oj : Oper} {fuel : Nat} {listed : Array Bool} {a : Act} {w : World} (hi : ops[i]? = some oi) (hj : ops[j]? = some oj) (hr : Region.ready md ops listed = [i, j]) (hwi : Region.wanted oi (yielded ops a.tmps) = true) (hwj : Region.wanted oj (yielded ops a.tmps) = true)
    (h1 : ∀ K : Act → World → Prop, (∀ a w, (i < e → S w) → ((i < e → S w) → wpAnyM F n P md ops Q S e fuel (listed.setIfInBounds i true) a w) → K a w) → Oper.wpIn F n P oi a w K Q)
    (h2 : ∀ K : Act → World → Prop, (∀ a w, (j < e → S w) → ((j < e → S w) → wpAnyM F n P md ops Q S e fuel (listed.setIfInBounds j true) a w) → K a w) → Oper.wpIn F n P oj a w K Q) : wpAnyM F n P md ops Q S e (fuel + 1) listed a w := by
  refine ⟨fun h0 => (by rw [hr] at h0; cases h0), fun k hk => ?_⟩
  rw [hr] at hk
  simp only [List.mem_cons, List.not_mem_nil, or_false] at hk
  rcases hk with rfl | rfl
  · refine wpOpIn_step hi (fun K' hK' => ?_)
    rw [if_pos hwi]
    exact h1 K' (fun a w hS hW => hK' a w ⟨hS, hW hS⟩)
  · refine wpOpIn_step hj (fun K' hK' => ?_)
    rw [if_pos hwj]
    exact h2 K' (fun a w hS hW => hK' a w ⟨hS, hW hS⟩)
/-- append at an operation within a round, and where the new slice lies. -/
theorem wpIn_append_lies {o : Oper} {a : Act} {w : World} {K : Act → World → Prop} (s x : Operand) (t : TypeId)
    (ho : o.op = .call { callee := .builtin .append, args := #[s, x], argTypes := #[t, t] })
    (base : Nat) (e : TypeId) (i : TypeInfo) (z : Value) (size bytes : Nat) (ht : P.underlying t = some (.slice e)) (hi : P.info? e = some i) (hz : i.zero = some z)
    (hsize : i.size = size) (hby : i.bytes = bytes) (hzs : z.cells.size = size) (hsz : 0 < size)
    (v : Value) (k : Nat) (xs : List Value) (hs : a.eval s = v) (hown : w.ownsRow base e size v k xs)
    (ad : Addr) (m c : Nat) (news : List Value) (hx : a.eval x = .slice (some ad) m c) (hl : news.length = m * size) (hnews : ∀ j u, news[j]? = some u → w.cell? (ad.add j) = some u) (h1 : ∀ u ∈ news, u.oneCell' = true)
    (hm : 0 < m) (h63 : k + m ≤ maxLen) (hbytes : (k + m) * bytes ≤ 140737488355328) (hbase : base ≤ w.heap.size) (H : Nat) (hH : w.heap.size = H)
    (h : ∀ g cap w', w'.ownsRow base e size (.slice (some ⟨g, 0, none⟩) (k + m) cap) (k + m) (xs ++ news) → w.grownBy w' v.ownBlock → (v.ownBlock = some g ∨ g = H) → g < w'.heap.size → K (a.put o.dst (.slice (some ⟨g, 0, none⟩) (k + m) cap)) w') : o.wpIn F n P a w K Q := by
  obtain ⟨g, cap, w', hr, h2, h3, h4, h5⟩ := run_append_lies (P := P) w t o.type base e i z size bytes ht hi hz hsize hby hzs hsz v k xs hown ad m c news hl hnews h1 hm h63 hbytes hbase H hH
  unfold Oper.wpIn
  refine ⟨?_, ?_⟩
  · simp [Oper.about, ho, resolve, Target.leads, Sem.run_pure]
  · rw [Oper.semAt_plain F _ _ (by rw [ho]; intro c hc'; cases hc')]
    simp [execOp, ho, resolve, invoke, builtin, hs, hx, hr, Result.andThen]
    exact h g cap w' h2 h3 h4 h5
end

attribute [local go_sem] Oper.semAt_some
/-- What abides of a row of parses, and of the box that holds it. -/
theorem row_small {X Y : World} {row : Option Nat} {m base n : Nat} {v : Value} {xs : List Value} (h : X.ownsRow base 36 4 v n xs) (hm : m < base) (hg : X.grownBy Y row) (hs : SmallStep m X row) : Y.ownsRow base 36 4 v n xs := by
  refine h.kept hg ?_
  rcases h.2 with ⟨rfl, _⟩ | ⟨g, cap, cur, rfl, hb, hgc, _⟩
  · exact .inl rfl
  · refine .inr (fun e => ?_)
    have e' : row = some g := by simpa [Value.ownBlock] using e.symm
    rcases hs g e' with h1 | ⟨o, ho, hl⟩
    · omega
    · rw [hgc] at ho
      cases ho
      rcases hl with hl | ⟨u, hl⟩
      · cases hl
      · injection hl with _ hl; exact absurd hl (by decide)
theorem treeI_small {X Y : World} {row : Option Nat} {m : Nat} {v : Value} {t : Tr} {lo hi : Nat} (h : TreeI X v t lo hi) (hm : m < lo) (hg : X.grownBy Y row) (hs : SmallStep m X row) : TreeI Y v t lo hi := by
  refine h.move (fun b h1 _ ⟨o, x, hx⟩ => hg.block b (cell_lt hx) (fun e => ?_))
  rcases hs b e.symm with h2 | ⟨ob, ho, hl⟩
  · omega
  · unfold World.cell? at hx
    rw [show X.heap[b]? = _ from ho] at hx
    rcases hl with hl | ⟨u, rfl⟩
    · cases ob <;> simp_all [Obj.isCells]
    · simp at hx
theorem ForG.small {X Y : World} {row : Option Nat} {m B0 k : Nat} {v : Value} {ts : List Tr} (h : ForG B0 v ts k X) (hm : m < B0) (hg : X.grownBy Y row) (hs : SmallStep m X row) : ForG B0 v ts k Y := by
  obtain ⟨qs, L, H, hk, hown, ht, hin, hdis, hrow⟩ := h
  exact ⟨qs, L, H, hk, row_small hown hm hg hs, fun j h1 h2 => treeI_small (ht j h1 h2) (by have := (hin j (by omega)).1; omega) hg hs, fun j hj => ⟨(hin j hj).1, Nat.le_trans (hin j hj).2 hg.size⟩, hdis, fun b hb => ⟨Nat.lt_of_lt_of_le (hrow b hb).1 hg.size, (hrow b hb).2⟩⟩

/-- Where the loop of Parses stands. -/
def ParJ (w1 : World) (m box : Nat) (ts : List Tr) (pre : List Tr) (X : World) : Prop :=
  ∃ v, Boxed X box 25 v ∧ ForG (box + 1) v ts pre.length X ∧ X.os = w1.os ∧ X.tape = w1.tape ∧ X.output = w1.output ∧ m < box
theorem parJ_abides {w1 : World} {m box base B : Nat} {ts pre : List Tr} {G : Option Obj → Prop} : Abides (mkR m G box base) B (ParJ w1 m box ts pre) := by
  rintro X Y row hg hr hok ⟨v, hb, hF, h1, h2, h3, hm⟩
  have hs : SmallStep m X row := fun r e => by
    rcases hr r e with ⟨h, _⟩ | ⟨_, _, o, ho, hl⟩
    · exact .inl h
    · exact .inr ⟨o, ho, hl⟩
  exact ⟨v, boxed_small hb (by decide) (by omega) hg hs, hF.small (by omega) hg hs, hg.os.trans h1, hg.tape.trans h2, hg.output.trans h3, hm⟩

/-- Four cells stored at the end of a row. -/
theorem set4 (xs : List Value) (z0 z1 z2 z3 a b c d : Value) : ((((xs ++ [z0, z1, z2, z3]).set xs.length a).set (xs.length + 1) b).set (xs.length + 2) c).set (xs.length + 3) d = xs ++ [a, b, c, d] := by
  induction xs with
  | nil => rfl
  | cons x xs _ => simp
def store4 (w : World) (g o : Nat) (a b c d : Value) : World := (((w.setCell ⟨g, o, none⟩ a).setCell ⟨g, o + 1, none⟩ b).setCell ⟨g, o + 2, none⟩ c).setCell ⟨g, o + 3, none⟩ d
theorem store4_heap {w : World} {g o : Nat} {cs : Array Value} {T : TypeId} {a b c d : Value} (h : w.heap[g]? = some (.cells cs T (0, 0))) : (store4 w g o a b c d).heap[g]? = some (.cells ((((cs.setIfInBounds o a).setIfInBounds (o + 1) b).setIfInBounds (o + 2) c).setIfInBounds (o + 3) d) T (0, 0)) := by
  unfold store4
  exact heap_setCell_same _ _ _ _ _ _ (heap_setCell_same _ _ _ _ _ _ (heap_setCell_same _ _ _ _ _ _ (heap_setCell_same _ _ _ _ _ _ h)))
theorem store4_other {w : World} {g o k : Nat} {a b c d : Value} (h : k ≠ g) : (store4 w g o a b c d).heap[k]? = w.heap[k]? := by
  unfold store4
  rw [Below.heap_setCell _ _ _ _ h, Below.heap_setCell _ _ _ _ h, Below.heap_setCell _ _ _ _ h, Below.heap_setCell _ _ _ _ h]
theorem store4_size {w : World} {g o : Nat} {a b c d : Value} : (store4 w g o a b c d).heap.size = w.heap.size := by unfold store4; simp
theorem row_store4 {w X : World} {base g k cap : Nat} {T : TypeId} {xs : List Value} {z0 z1 z2 z3 a b c d : Value} (h : w.ownsRow base T 4 (.slice (some ⟨g, 0, none⟩) (k + 1) cap) (k + 1) (xs ++ [z0, z1, z2, z3])) (hx : X.heap[g]? = (store4 w g (k * 4) a b c d).heap[g]?) :
    X.ownsRow base T 4 (.slice (some ⟨g, 0, none⟩) (k + 1) cap) (k + 1) (xs ++ [a, b, c, d]) := by
  rcases h.2 with ⟨h0, _⟩ | ⟨g', cap', cur, hv, hb, hg, h1, h2, h3, h4⟩
  · cases h0
  · cases hv
    have hxl : xs.length = k * 4 := by have := h.1; simp at this; omega
    refine ⟨by simp [hxl]; omega, .inr ⟨g, cap, _, rfl, hb, hx.trans (store4_heap hg), h1, h2, by simp [h3], ?_⟩⟩
    simp only [Array.toList_setIfInBounds]
    rw [List.take_set, List.take_set, List.take_set, List.take_set, h4, ← hxl, set4]
/-- The last of a row's cells can be stored. -/
theorem row_last {w : World} {base g k cap : Nat} {T : TypeId} {xs : List Value} {z0 z1 z2 z3 : Value} (h : w.ownsRow base T 4 (.slice (some ⟨g, 0, none⟩) (k + 1) cap) (k + 1) (xs ++ [z0, z1, z2, z3])) :
    w.cell? ⟨g, k * 4, none⟩ = some z0 ∧ w.cell? ⟨g, k * 4 + 1, none⟩ = some z1 ∧ w.cell? ⟨g, k * 4 + 2, none⟩ = some z2 ∧ w.cell? ⟨g, k * 4 + 3, none⟩ = some z3 ∧ ∀ o, w.frozen? ⟨g, o, none⟩ = false := by
  have hadd : ∀ j, (⟨g, 0, none⟩ : Addr).add j = ⟨g, j, none⟩ := fun j => by unfold Addr.add; split <;> simp_all
  have hxl : xs.length = k * 4 := by have := h.1; simp at this; omega
  have c0 := h.cells (g := g) rfl (k * 4) z0 (by rw [List.getElem?_append_right (by omega)]; simp [hxl])
  have c1 := h.cells (g := g) rfl (k * 4 + 1) z1 (by rw [List.getElem?_append_right (by omega)]; simp [hxl])
  have c2 := h.cells (g := g) rfl (k * 4 + 2) z2 (by rw [List.getElem?_append_right (by omega)]; simp [hxl])
  have c3 := h.cells (g := g) rfl (k * 4 + 3) z3 (by rw [List.getElem?_append_right (by omega)]; simp [hxl])
  rw [hadd] at c0 c1 c2 c3
  refine ⟨c0, c1, c2, c3, fun o => ?_⟩
  rcases h.2 with ⟨h0, _⟩ | ⟨g', cap', cur, hv, hb, hg, _⟩
  · cases h0
  · cases hv
    simp [World.frozen?, hg]

theorem boxed_of_heap {W X : World} {b : Nat} {t : TypeId} {v : Value} (h : Boxed W b t v) (hx : X.heap[b]? = W.heap[b]?) : Boxed X b t v := hx.trans h
/-- Where the row is the same, its cells can be stored, and the row that comes of it is the same. -/
theorem last_swap {V5 X : World} {g o : Nat} {z0 z1 z2 z3 : Value} (hx : X.heap[g]? = V5.heap[g]?) (k0 : V5.cell? ⟨g, o, none⟩ = some z0) (k1 : V5.cell? ⟨g, o + 1, none⟩ = some z1) (k2 : V5.cell? ⟨g, o + 2, none⟩ = some z2) (k3 : V5.cell? ⟨g, o + 3, none⟩ = some z3) (kz : ∀ i, V5.frozen? ⟨g, i, none⟩ = false) :
    X.cell? ⟨g, o, none⟩ = some z0 ∧ X.cell? ⟨g, o + 1, none⟩ = some z1 ∧ X.cell? ⟨g, o + 2, none⟩ = some z2 ∧ X.cell? ⟨g, o + 3, none⟩ = some z3 ∧ ∀ i, X.frozen? ⟨g, i, none⟩ = false :=
  ⟨(World.cell?_of_block (a := ⟨g, o, none⟩) hx).trans k0, (World.cell?_of_block (a := ⟨g, o + 1, none⟩) hx).trans k1, (World.cell?_of_block (a := ⟨g, o + 2, none⟩) hx).trans k2, (World.cell?_of_block (a := ⟨g, o + 3, none⟩) hx).trans k3, fun i => (World.frozen?_of_block (a := ⟨g, i, none⟩) hx).trans (kz i)⟩
theorem store4_swap {V V5 : World} {g o : Nat} {a b c d : Value} (hx : V.heap[g]? = V5.heap[g]?) (hc : ∃ cs T, V5.heap[g]? = some (.cells cs T (0, 0))) : (store4 V g o a b c d).heap[g]? = (store4 V5 g o a b c d).heap[g]? := by
  obtain ⟨cs, T, h⟩ := hc
  rw [store4_heap h, store4_heap (hx.trans h)]
/-- One round of the loop of Parses: what it leaves. W7: the world ahead of it; A: ahead of the call; A': behind it; V: behind the append; X: the end. -/
theorem par_leaf {w1 W7 A A' V X : World} {m box base g k cap hh : Nat} {v : Value} {ts pre : List Tr} {x : Tr} {G : Option Obj → Prop} {p : TV} (hk : pre.length = k) (hpre : (pre ++ [x]) <+: ts) (_hbase : base ≤ box)
    (hJ : ParJ w1 m box ts pre W7) (hv : Boxed W7 box 25 v) (hA : Below W7.heap.size W7 A) (hA' : Below A.heap.size A A') (hq : TreeI A' p.val x A.heap.size A'.heap.size)
    {V0 : World} (hV0 : Below A'.heap.size A' V0) (hgrow : V0.grownBy V v.ownBlock) (hat : v.ownBlock = some g ∨ g = hh) (hhh : A'.heap.size ≤ hh) (hlt : g < V.heap.size) {xs : List Value} {z0 z1 z2 z3 : Value}
    (hxs : ∀ qs : List TV, W7.ownsRow (box + 1) 36 4 v k (qs.flatMap TV.cells) → xs = qs.flatMap TV.cells)
    (hown : V.ownsRow (box + 1) 36 4 (.slice (some ⟨g, 0, none⟩) (k + 1) cap) (k + 1) (xs ++ [z0, z1, z2, z3]))
    (hXg : X.heap[g]? = (store4 V g (k * 4) (.int .u8 p.r) (.int .i64 p.e) (.string p.w) (.slice p.a p.n p.c)).heap[g]?) (hXbox : Boxed X box 25 (.slice (some ⟨g, 0, none⟩) (k + 1) cap)) (hXo : ∀ b, b ≠ g → b ≠ box → X.heap[b]? = V.heap[b]?) (hXs : X.heap.size = V.heap.size) (hXos : X.os = V.os ∧ X.tape = V.tape ∧ X.output = V.output) :
    Kp (mkR m G box base) W7 X ∧ ParJ w1 m box ts (pre ++ [x]) X := by
  obtain ⟨v', hv', hF, h1, h2, h3, hm⟩ := hJ
  have hvv : v' = v := by have := hv'.symm.trans hv; injection this with this; injection this with h4 _; simpa using h4
  subst hvv
  have hs1 := hA.size
  have hs2 := hA'.size
  have hs3 := hV0.size
  have hs4 := hgrow.size
  have hF' := hF.below hA
  obtain ⟨qs, L, H, hqk, hro, ht, hin, hdis, hrow⟩ := hF'
  have hro7 : W7.ownsRow (box + 1) 36 4 v' k (qs.flatMap TV.cells) := by
    obtain ⟨qs', L', H', hqk', hro', _⟩ := hF
    have := ownsRow_below hro' hA
    have e : qs'.flatMap TV.cells = qs.flatMap TV.cells := by
      rw [hk] at this hro
      rcases this.2 with ⟨rfl, h0⟩ | ⟨g1, c1, cu1, rfl, _, hg1, _, _, _, ht1⟩
      · have e1 := this.1; have e2 := hro.1
        rw [h0] at e1 e2
        rw [List.eq_nil_of_length_eq_zero (by omega : (qs'.flatMap TV.cells).length = 0), List.eq_nil_of_length_eq_zero (by omega : (qs.flatMap TV.cells).length = 0)]
      · rcases hro.2 with ⟨h0, _⟩ | ⟨g2, c2, cu2, hv2, _, hg2, _, _, _, ht2⟩
        · cases h0
        · cases hv2
          rw [hg1] at hg2
          cases hg2
          rw [← ht1, ← ht2]
    rw [← hk, ← e]
    exact hro'
  have hxe := hxs qs hro7
  subst hxe
  have hbox7 := hv.lt
  have hown' := row_store4 hown hXg
  have hgm : box + 1 ≤ g := by
    rcases hown.2 with ⟨h0, _⟩ | ⟨g', cap', cur, hv2, hb, _⟩
    · cases h0
    · cases hv2; exact hb
  have hrow7 : ∀ b, v'.ownBlock = some b → b < W7.heap.size := fun b hb => by
    obtain ⟨_, _, _, _, _, _, _, _, hr⟩ := hF
    exact (hr b hb).1
  have hold : ∀ c, c ≠ box → c < A'.heap.size → v'.ownBlock ≠ some c → X.heap[c]? = A'.heap[c]? := fun c hcb hc hn => by
    have hcg : c ≠ g := by
      rintro rfl
      rcases hat with h | h
      · exact hn h
      · omega
    exact (hXo c hcg hcb).trans ((hgrow.block c (by omega) (fun e => hn e.symm)).trans (hV0.block c hc))
  have hlen : pre.length < ts.length := by obtain ⟨z, rfl⟩ := hpre; simp
  have hx : ts[pre.length] = x := by obtain ⟨z, hz⟩ := hpre; subst hz; simp
  have hstep := ForG.step' (v := v') (q := p) (w4 := X) (W := A) (W1 := A') (g := g) (cap := cap) (ts := ts) hqk hlen ht hin hdis (fun b hb => hrow b hb) hA' (by omega) (by rw [hx]; exact hq) (by rw [hk]; exact hown') (by omega) (fun c hc1 hc2 hn => hold c (by omega) hc2 hn) (by rcases hat with h | h; exact .inl h; exact .inr (by omega)) (by omega)
  refine ⟨kp_body (t := 25) (v := v') (v' := .slice (some ⟨g, 0, none⟩) (k + 1) cap) hv' (by omega) (fun b hb _ hbb hn => ?_) (fun hG => ?_) hXbox (fun r hr => ?_), ?_⟩
  · rw [hold b hbb (by omega) (fun e => hn e.symm)]
    exact (hA'.block b (by omega)).trans (hA.block b hb)
  · have e : X.heap[m]? = W7.heap[m]? := by
      rw [hold m (by omega) (by omega) (fun e => by
        rcases hro7.2 with ⟨rfl, _⟩ | ⟨g', cap', cur, rfl, hb, _⟩
        · simp [Value.ownBlock] at e
        · obtain rfl : g' = m := by simpa [Value.ownBlock] using e
          omega)]
      exact (hA'.block m (by omega)).trans (hA.block m (by omega))
    rw [e]; exact hG
  · obtain rfl : g = r := by simpa [Value.ownBlock] using hr
    refine ⟨?_, by omega⟩
    rcases hat with h | h
    · exact .inl h
    · exact .inr (by omega)
  · refine ⟨_, hXbox, by rw [List.length_append, List.length_singleton]; rw [hk] at hstep ⊢; exact hstep, ?_, ?_, ?_, hm⟩
    · exact hXos.1.trans (hgrow.os.trans (hV0.os.trans (hA'.os.trans (hA.os.trans h1))))
    · exact hXos.2.1.trans (hgrow.tape.trans (hV0.tape.trans (hA'.tape.trans (hA.tape.trans h2))))
    · exact hXos.2.2.trans (hgrow.output.trans (hV0.output.trans (hA'.output.trans (hA.output.trans h3))))

theorem parsesS_err {l : List Ent} {toks : List (List UInt8)} {k : Int} (h : (countS l toks).2 = k) (h0 : k ≠ 0) : parsesS l toks = ([], k) := by unfold parsesS; rw [if_pos (by rw [h]; exact h0), h]
theorem parsesS_zero {l : List Ent} {toks : List (List UInt8)} (h : countS l toks = (0, 0)) : parsesS l toks = ([], 6) := by unfold parsesS; rw [h]; rfl
theorem parsesS_many {l : List Ent} {toks : List (List UInt8)} {c : Nat} (h : countS l toks = (c, 0)) (hc : 64 < c) : parsesS l toks = ([], 5) := by
  unfold parsesS; rw [h, if_neg (by simp), if_neg (by simp; omega), if_pos hc]
theorem parsesS_some {l : List Ent} {toks : List (List UInt8)} {c : Nat} (h : countS l toks = (c, 0)) (h0 : 0 < c) (hc : ¬ 64 < c) : parsesS l toks = (treesS ⟨l, bareS toks⟩ 1 0 (bareS toks).length, 0) := by
  unfold parsesS; rw [h, if_neg (by simp), if_neg (by simp; omega), if_neg hc]

theorem trees_is {l : List Ent} {toks : List (List UInt8)} {c : Nat} (h : countS l toks = (c, 0)) (h0 : 0 < c) (hc : ¬ 64 < c) : (treesS ⟨l, bareS toks⟩ 1 0 (bareS toks).length).length = c := by
  unfold countS at h
  split at h
  · cases h
  · split at h
    · cases h
    · split at h
      · have e : cntS ⟨l, bareS toks⟩ 1 0 (bareS toks).length = c := by injection h
        have hm : (64 : Nat) < most := by decide
        rw [trees_count _ (by rw [e]; omega), e]
      · injection h with h _; omega
theorem boxed_ab2 {m box base B : Nat} {v : Value} {G : Option Obj → Prop} (hm : m < box) : Abides (mkR m G box base) B (fun X => Boxed X box 25 v) := fun X Y row hg hr _ hb =>
  boxed_small hb (by decide) (Nat.ne_of_gt hm) hg (fun r e => by
    rcases hr r e with ⟨h, _⟩ | ⟨_, _, o, ho, hl⟩
    · exact .inl h
    · exact .inr ⟨o, ho, hl⟩)
theorem owns_same {W : World} {base k : Nat} {v : Value} {qs qs' : List TV} (h : W.ownsRow base 36 4 v k (qs.flatMap TV.cells)) (h' : W.ownsRow base 36 4 v k (qs'.flatMap TV.cells)) : qs.flatMap TV.cells = qs'.flatMap TV.cells := by
  rcases h.2 with ⟨rfl, h0⟩ | ⟨g1, c1, cu1, rfl, _, hg1, _, _, _, ht1⟩
  · have e1 := h.1; have e2 := h'.1
    rw [h0] at e1 e2
    rw [List.eq_nil_of_length_eq_zero (by omega : (qs'.flatMap TV.cells).length = 0), List.eq_nil_of_length_eq_zero (by omega : (qs.flatMap TV.cells).length = 0)]
  · rcases h'.2 with ⟨h0, _⟩ | ⟨g2, c2, cu2, hv2, _, hg2, _, _, _, ht2⟩
    · cases h0
    · cases hv2
      rw [hg1] at hg2
      cases hg2
      rw [← ht1, ← ht2]

set_option maxRecDepth 100000 in
set_option maxHeartbeats 8000000 in
theorem Parses_any (W0 w : World) (ht : Tabs W0 w) (v tv : Value) (l : List Ent) (hl : EntSlice w v l) (toks : List (List UInt8)) (hts : StrSlice w tv toks) :
    Calls Tryz.prog 23 #[v, tv] w (ParsesOk w (parsesS l toks)) := by
  have HB := Lib.hid (Begin_any W0 w ht v tv l hl toks hts)
  obtain ⟨i0, hi, hz0, hz1, hz2⟩ := info_parts info_tree
  clear hts hl ht
  refine (callsIn_wide (n := 3)).1 ?_
  refine callsIn_of_wp_marks Tryz.func23 rfl trivial ?_ rfl
  simp only [Tryz.ntmps23, List.size_toArray, List.length_cons, List.length_nil, Nat.reduceAdd, Nat.reduceSub, Array.replicate_succ, Array.replicate_zero, List.push_toArray, List.append_toArray, List.nil_append, List.cons_append]
  have hfw : ∀ f, Fence.wide.fn f := fun _ => trivial
  gi_wp2_with fail
  refine callsIn_wide.2 (HB.out.mono ?_)
  rintro e w1 (⟨hv, rfl, hb⟩ | ⟨hv, h24, rfl, hb⟩ | ⟨hv, h24, m, gb, rfl, hb, hg, hG, hwm⟩)
  · gi_wp2
    refine ⟨_, results_tmp2 rfl _ _ _, ?_⟩
    rw [parsesS_err (by rw [countS_bad hv]) (by decide)]
    exact parses_none hb
  · have HV := Lib.hid (And.intro hv h24)
    clear hv h24
    gi_wp2
    refine ⟨_, results_tmp2 rfl _ _ _, ?_⟩
    rw [parsesS_err (by rw [countS_long HV.out.1 HV.out.2]) (by decide)]
    exact parses_none hb
  · obtain ⟨c, hc⟩ : ∃ c : Nat, c = if decide (toks.getLast? = some wDot) = true then cntS ⟨l, bareS toks⟩ 1 0 (bareS toks).length else 0 := ⟨_, rfl⟩
    have hcnt := countS_good hv h24
    have hs1 := sentence_any hg hG
    rw [← hc] at hs1 hcnt
    have HC := Lib.hid hcnt
    have HS := Lib.hid hs1
    have HG := Lib.hid hg
    have HB1 := Lib.hid hb
    have HWm := Lib.hid hwm
    clear hc hs1 hcnt hv h24 hb hwm HB hg hG
    gi_wp2_with fail
    refine callsIn_wide.2 (HS.out.mono ?_)
    rintro _ W1 ⟨rfl, hg1, hG1⟩
    have hB1 : Below w.heap.size w W1 := HB1.out.grown hg1 HB1.out.size (fun k hk => by cases hk; exact HWm.out)
    by_cases hc0 : c = 0
    · have hd0 : ((c : Int) == 0) = true := by simp; omega
      have HC0 := Lib.hid hc0
      clear hc0
      gi_wp2
      refine ⟨_, results_tmp2 rfl _ _ _, ?_⟩
      rw [parsesS_zero (by rw [HC.out, HC0.out])]
      exact parses_none hB1
    · by_cases hc64 : 64 < c
      · have hd0 : ((c : Int) == 0) = false := by simp; omega
        have hd1 : decide (64 < (c : Int)) = true := decide_eq_true (by omega)
        have hd2 : decide (64 < c) = true := decide_eq_true (by omega)
        have HC0 := Lib.hid hc64
        clear hc0 hc64
        gi_wp2
        refine ⟨_, results_tmp2 rfl _ _ _, ?_⟩
        rw [parsesS_many HC.out HC0.out]
        exact parses_none hB1
      · have hd0 : ((c : Int) == 0) = false := by simp; omega
        have hd1 : decide (64 < (c : Int)) = false := decide_eq_false (by omega)
        have hd2 : decide (64 < c) = false := decide_eq_false (by omega)
        have HC0 := Lib.hid (And.intro (show 0 < c by omega) hc64)
        clear hc0 hc64
        have hs1 : Since m w1 W1 := (Since.refl HG.out.map).grown hg1
        obtain ⟨ta, tc, ct, _, _, _⟩ := HG.out.tok hs1
        have few := HG.out.few
        obtain ⟨n, hn⟩ : ∃ n, n = (bareS toks).length := ⟨_, rfl⟩
        have hmlt : m < w1.heap.size := by obtain ⟨es, cc, hm⟩ := HG.out.map; exact (Array.getElem?_eq_some_iff.1 hm).1
        have hmlt1 := Nat.lt_of_lt_of_le hmlt hs1.size
        rw [show (⟨l, bareS toks⟩ : Gr).toks.length = n from hn.symm] at ct few
        have hctlt := cell_lt ct
        simp only at hctlt
        have HN := Lib.hid hn
        have HGr := Lib.hid hg1
        have HS1 := Lib.hid hs1
        have HG1 := Lib.hid hG1
        have HB2 := Lib.hid hB1
        clear hn hs1 hg1 hG1 hB1 hmlt
        gi_wp2_with fail
        obtain ⟨W2, hW2⟩ : ∃ W2, W2 = W1.alloc (.cells #[.slice none 0 0] 25) := ⟨_, rfl⟩
        have hb2 : Below W1.heap.size W1 W2 := by rw [hW2]; exact (Below.refl _ _).alloc (Nat.le_refl _) _
        have hzW : W2.heap.size = W1.heap.size + 1 := by rw [hW2]; simp
        have hbx : Boxed W2 W1.heap.size 25 (.slice none 0 0) := by rw [hW2]; exact Boxed.new _ _ _
        rw [← hW2]
        obtain ⟨box, hbox⟩ : ∃ box, box = W1.heap.size := ⟨_, rfl⟩
        rw [← hbox] at hbx hzW hmlt1 ⊢
        have HBox := Lib.hid hbox
        clear hW2 ct hctlt hbox
        refine callsIn_wide.2 ((trees_box gb 1 0 n W2).mono ?_)
        rintro _ W6 ⟨rfl, hb6, hz6, hx6⟩
        obtain ⟨G, hGd⟩ : ∃ G, G = MapG ⟨l, bareS toks⟩ := ⟨_, rfl⟩
        have hGm2 : G W2.heap[m]? := by rw [hGd, hb2.block m (by rw [← HBox.out]; exact hmlt1)]; exact HG1.out
        have hok2 : (mkR m G box box).ok W2 := ok_start hGm2 hmlt1 (Nat.le_refl _) hbx (by decide) rfl
        have hok6 : (mkR m G box box).ok W6 := (Mv.of_below hok2 hb6).ok hok2
        have fr : ∀ c, W2.heap.size ≤ c → c < W6.heap.size → (mkR m G box box).sf W6 c := fun c h1 h2 => Rg.fresh hok2 hb6 h1 h2
        have hR : Counts (mkR m G box box) m ⟨l, bareS toks⟩ w1 := by rw [hGd]; exact counts_mkR (by rw [HBox.out]; exact HS1.out.size)
        have hsW6 : Since m w1 W6 := (HS1.out.below hb2).below hb6
        have hseq := trees_all HG.out n 1 0 n (Nat.le_refl _) (Nat.le_of_eq HN.out) (mkR m G box box) hR W6 W2.heap.size hsW6 hok6 hx6 (fr _ (by omega) (by omega)) (fr _ (by omega) (by omega)) (fr _ (by omega) (by omega)) (fr _ (by omega) (by omega))
        obtain ⟨ts, hts⟩ : ∃ ts, ts = treesS ⟨l, bareS toks⟩ 1 0 n := ⟨_, rfl⟩
        rw [← hts] at hseq
        have hbx6 : Boxed W6 box 25 (.slice none 0 0) := boxed_below hbx hb6
        have HSeq := Lib.hid hseq
        have HTs := Lib.hid hts
        have HBx6 := Lib.hid hbx6
        have HGm := Lib.hid hGd
        have hb26 : Below box W1 W6 := by rw [HBox.out]; exact hb2.trans (hb6.mono hb2.size)
        have hJ0 : ParJ w1 m box ts [] W6 := ⟨_, hbx6, ForG.nil _ _ _, hb26.os.trans HGr.out.os, hb26.tape.trans HGr.out.tape, hb26.output.trans HGr.out.output, hmlt1⟩
        have HJ0 := Lib.hid hJ0
        have HB26 := Lib.hid hb26
        clear hseq hts hbx6 hGd hb26 hJ0 fr hR hx6 hb6 hbx hGm2 hb2 hsW6 hok2
        simp only [treesV]
        gi_wp2
        refine wpIn_range_M rfl (enters_of Tryz.func79 (by kernel_rfl) rfl) HSeq.out hok6 (fun _ _ _ h => by obtain ⟨v, rfl, _⟩ := h; rfl)
          (ParJ w1 m box ts) (fun _ _ _ => False) (fun _ => parJ_abides) (fun _ _ _ _ _ _ _ _ h => h) HJ0.out ?round ?done ?stop
        case stop =>
          rintro D c pre X hD hpre hx
          exact hx.elim
        case done =>
          intro D X hD hjX hkX hokX hd _
          obtain ⟨vr, hbX, hFX, ho1, ho2, ho3, _⟩ := hjX
          obtain ⟨va, vc, hvr⟩ : ∃ va vc, vr = .slice va ts.length vc := by obtain ⟨_, _, _, _, hown, _⟩ := hFX; exact owns_form hown
          subst hvr
          have cX := hbX.cell
          have hfin : ParsesOk w (parsesS l toks) (.returned (.tuple #[.slice va ts.length vc, .int .i64 0])) (X.putObj D (.deferred none)) := by
            rw [parsesS_some HC.out HC0.out.1 HC0.out.2, ← HN.out, ← HTs.out]
            have hw1 := HB1.out
            have hgr := grownBy_putObj' X D (.deferred none)
            have hsz : box ≤ W6.heap.size := by omega
            have hwb : w.heap.size ≤ box := by have := HB2.out.size; rw [HBox.out]; exact this
            have hb6 := HB26.out
            refine ⟨_, rfl, ⟨ho1.trans hw1.os, ho2.trans hw1.tape, ho3.trans hw1.output, ?_, fun b hb => ?_⟩, ?_⟩
            · have := hkX.size; simp; omega
            · rw [World.putObj_heap_other (by omega)]
              have hbm : b ≠ m := by have := HWm.out; omega
              rw [(hkX.same b (hok6.old (by omega) hbm)).2]
              exact (hb6.block b (by omega)).trans (HB2.out.block b hb)
            · exact (hFX.small (m := m) (by omega) hgr (fun r e => by cases e; exact .inr ⟨_, hd, .inl rfl⟩)).mono (by omega)
          have HFin := Lib.hid hfin
          clear hfin ho1 ho2 ho3 hFX hbX hkX hokX
          gi_wp2
          refine ⟨by simp, .inl ⟨_, _, rfl, run_takeDeferred hd, ?_⟩⟩
          refine ⟨_, results_tmp2 rfl _ _ _, ?_⟩
          exact HFin.out
        case round =>
          rintro L pre vs x Z hL hjZ ⟨v, rfl, hty⟩ hkZ hokZ hpre
          obtain ⟨q, rfl⟩ := hty.form
          unfold TV.val
          gi_wp2
          obtain ⟨Z2, hZ2⟩ : ∃ Z2, Z2 = Z.alloc (.cells #[.int .u8 q.r, .int .i64 q.e, .string q.w, .slice q.a q.n q.c] 36) := ⟨_, rfl⟩
          have hbZ : Below Z.heap.size Z Z2 := by rw [hZ2]; exact (Below.refl _ _).alloc (Nat.le_refl _) _
          have hcZ : Z2.heap[Z.heap.size]? = some (.cells #[.int .u8 q.r, .int .i64 q.e, .string q.w, .slice q.a q.n q.c] 36 (0, 0)) := by rw [hZ2]; exact World.alloc_heap_new Z _
          rw [← hZ2]
          clear hZ2
          have hmvZ : Mv (mkR m G box box) Z Z2 := Mv.of_below hokZ hbZ
          refine ⟨hmvZ.kp hokZ, parJ_abides.mv (B := W6.heap.size) hmvZ hokZ hjZ, ?_⟩
          intro W7 hl7 hr7 hsl7 hj7 hk7 hok7 hsz7 htr7
          have hc7 := htr7 _ (cells_abides W6.heap.size Z.heap.size _ _ _ (by have := hkZ.size; show _ ≠ m; omega) (.inl (by decide))) hcZ
          have hty7 := htr7 _ (treeR_abides (mkR m G box box) W6.heap.size _ x) (hty.kp (hmvZ.kp hokZ))
          have HJ7 := Lib.hid hj7
          have HTy := Lib.hid hty7
          have HC7 := Lib.hid hc7
          obtain ⟨vZ, hbZ', hFZ, _, _, _, hmb⟩ := hjZ
          have hb7 := htr7 _ (boxed_ab2 (box := box) (v := vZ) hmb) (boxed_below hbZ' hbZ)
          have hzown : ∀ b, vZ.ownBlock = some b → b < Z.heap.size := by
            obtain ⟨_, _, _, _, _, _, _, _, hr⟩ := hFZ
            exact fun b hb => (hr b hb).1
          have hF7 : ForG (box + 1) vZ ts pre.length W7 := by
            obtain ⟨v7, hb7', hF7, _⟩ := hj7
            have hvv : v7 = vZ := by have := hb7'.symm.trans hb7; injection this with this; injection this with h4 _; simpa using h4
            rw [hvv] at hF7
            exact hF7
          obtain ⟨kk, hkk⟩ : ∃ kk, kk = pre.length := ⟨_, rfl⟩
          rw [← hkk] at hF7
          obtain ⟨qs, Lq, Hq, hqk, ho7, _⟩ := hF7
          obtain ⟨va, vc, hv7⟩ : ∃ va vc, vZ = .slice va kk vc := owns_form ho7
          subst hv7
          have HXs := Lib.hid (fun (qs' : List TV) (h' : W7.ownsRow (box + 1) 36 4 (.slice va kk vc) kk (qs'.flatMap TV.cells)) => owns_same ho7 h')
          have HB7 := Lib.hid hb7
          have HO7 := Lib.hid ho7
          have HKk := Lib.hid hkk
          have HPre := Lib.hid hpre
          have HNz := Lib.hid (show (Value.slice va kk vc).ownBlock ≠ some Z.heap.size from fun e => absurd (hzown _ e) (Nat.lt_irrefl _))
          have HNbox := Lib.hid (show (Value.slice va kk vc).ownBlock ≠ some box from row_not_cells ho7 hb7 (by decide))
          have hxs : Slim x := by
            have hmem : x ∈ ts := by obtain ⟨z, rfl⟩ := hpre; simp
            rw [HTs.out] at hmem
            exact treesS_slim _ _ _ _ _ hmem
          have HSlim := Lib.hid hxs
          have hk64 : kk < 64 := by
            have h1 : pre.length < ts.length := by obtain ⟨z, rfl⟩ := hpre; simp
            have h2 : ts.length = c := by
              rw [HTs.out, HN.out]
              exact trees_is HC.out HC0.out.1 HC0.out.2
            have := HC0.out.2
            omega
          obtain ⟨S, hS⟩ : ∃ (S : World → Prop), S = fun V => Boxed V box 25 (.slice va kk vc) ∧ V.heap[Z.heap.size]? = some (.cells #[.int .u8 q.r, .int .i64 q.e, .string q.w, .slice q.a q.n q.c] 36 (0, 0)) := ⟨_, rfl⟩
          have HSS := Lib.hid hS
          have hSd : S W7.drew := by rw [hS]; exact ⟨hb7, hc7⟩
          clear hS hc7 hty7 hcZ hty hb7 hFZ hbZ' ho7 hkk hpre hzown hxs hj7 htr7
          gi_wp2
          have f0 : ∀ V, S V → V.cell? ⟨box, 0, none⟩ = some (.slice va kk vc) := fun V h => by rw [HSS.out] at h; exact h.1.cell
          have f1 : ∀ V, S V → V.cell? ⟨Z.heap.size, 0, none⟩ = some (.int .u8 q.r) ∧ V.cell? ⟨Z.heap.size, 1, none⟩ = some (.int .i64 q.e) ∧ V.cell? ⟨Z.heap.size, 2, none⟩ = some (.string q.w) ∧ V.cell? ⟨Z.heap.size, 3, none⟩ = some (.slice q.a q.n q.c) := fun V h => by
            rw [HSS.out] at h
            exact ⟨(cell_rowC h.2 0).trans rfl, (cell_rowC h.2 1).trans rfl, (cell_rowC h.2 2).trans rfl, (cell_rowC h.2 3).trans rfl⟩
          refine regionM S 6 (by kernel_rfl) hSd (fun hpo hS0 => ?_)
          refine takeM (i := 0) 34 (.slice va kk vc) hpo rfl (by kernel_rfl) (fun _ _ _ h => h) rfl (by rfl) (fun V hX => (by have g0 := f0 V hX; go_simp)) (fun _ => rfl) hS0 (fun hS1 => ?_)
          simp only [List.setIfInBounds_toArray, List.set_cons_zero, List.set_cons_succ]
          refine takeM (i := 1) 35 (.agg #[.int .u8 q.r, .int .i64 q.e, .string q.w, .slice q.a q.n q.c]) hpo rfl (by kernel_rfl) (fun _ _ _ h => h) rfl (by rfl) (fun V hX => (by obtain ⟨g0, g1, g2, g3⟩ := f1 V hX; go_simp)) (fun _ => rfl) hS1 (fun hS2 => ?_)
          simp only [List.setIfInBounds_toArray, List.set_cons_zero, List.set_cons_succ]
          refine takeM (i := 3) 37 (.int .i64 kk) hpo rfl (by kernel_rfl) (fun _ _ _ h => h) rfl (by rfl) (fun V hX => (by go_simp)) (fun _ => rfl) hS2 (fun hS3 => ?_)
          simp only [List.setIfInBounds_toArray, List.set_cons_zero, List.set_cons_succ]
          refine twoM (i := 2) (j := 4) rfl rfl (by kernel_rfl) (by rfl) (by rfl) (fun K hK => ?_) (fun K hK => ?_)
          · go_simp
            refine CallsIn.inRound L (callsIn_wide.2 ((copied_any x HSlim.out W7.drew _ (show TreeV (fun _ => True) W7.drew q.val x from TreeV.move (W := W7) (W' := W7.drew) (ok' := fun _ => True) (fun b _ h => ⟨trivial, rfl⟩) HTy.out)).mono ?_))
            rintro _ A1 ⟨v', rfl, hq, hbA⟩
            obtain ⟨p, rfl⟩ := hq.form
            have hbA7 : Below W7.heap.size W7 A1 := ((Below.refl _ W7).drew).trans (hbA.mono (Nat.le_refl _))
            have hS4 : S A1 := by rw [HSS.out]; exact ⟨boxed_below HB7.out hbA7, (hbA7.block _ (Array.getElem?_eq_some_iff.1 HC7.out).1).trans HC7.out⟩
            refine hK _ _ (fun _ => hS4) (fun _ => ?_)
            clear hK K
            refine oneM (i := 4) rfl (by kernel_rfl) (by rfl) (fun K hK => ?_)
            go_simp
            obtain ⟨V0, hV0⟩ : ∃ V0, V0 = A1.alloc (.cells #[.int .u8 0, .int .i64 0, .string ⟨#[]⟩, .slice none 0 0] 36) := ⟨_, rfl⟩
            have hbV : Below A1.heap.size A1 V0 := by rw [hV0]; exact (Below.refl _ _).alloc (Nat.le_refl _) _
            have htmp : V0.heap[A1.heap.size]? = some (.cells #[.int .u8 0, .int .i64 0, .string ⟨#[]⟩, .slice none 0 0] 36 (0, 0)) := by rw [hV0]; exact World.alloc_heap_new A1 _
            rw [← hV0]
            have hbV7 := hbA7.trans (hbV.mono hbA7.size)
            have HBV := Lib.hid (boxed_below HB7.out hbV7)
            have HCV := Lib.hid ((hbV7.block _ (Array.getElem?_eq_some_iff.1 HC7.out).1).trans HC7.out)
            have HOV := Lib.hid (ownsRow_below HO7.out hbV7)
            have HTmp := Lib.hid htmp
            have HCA := Lib.hid ((hbA7.block _ (Array.getElem?_eq_some_iff.1 HC7.out).1).trans HC7.out)
            have HVhh := Lib.hid hbV.size
            have HVs := Lib.hid (show box + 1 ≤ V0.heap.size by have := hbV7.size; have := HB7.out.lt; omega)
            have hS5 : S V0 := by rw [HSS.out]; exact ⟨HBV.out, HCV.out⟩
            have HAb := Lib.hid hbA
            have HQ := Lib.hid hq
            have HVb := Lib.hid hbV
            clear hbA hq hbV htmp hbV7 hbA7 hV0
            refine hK _ _ (fun _ => hS5) (fun _ => ?_)
            clear hK K
            refine oneM (i := 5) rfl (by kernel_rfl) (by rfl) (fun K hK => ?_)
            refine wpIn_append_lies (.tmp 34) (.tmp 38) 25 rfl (box + 1) 36 i0 (.agg #[.int .u8 0, .int .i64 0, .string ByteArray.empty, .slice none 0 0]) 4 56 Tryz.underlying25 hi hz0 hz1 hz2 rfl (by decide) (.slice va kk vc) kk _ rfl HOV.out ⟨_, 0, none⟩ 1 1 [.int .u8 0, .int .i64 0, .string ⟨#[]⟩, .slice none 0 0] rfl rfl (news_at (cs := #[.int .u8 0, .int .i64 0, .string ⟨#[]⟩, .slice none 0 0]) (t := 36) (fr := (0, 0)) HTmp.out) (by simp [Value.oneCell']) (by decide) (by unfold maxLen; omega) (by omega) HVs.out _ rfl ?_
            intro g cap5 V5 hown5 hgrow hat hlt5
            have hb5 : Boxed V5 box 25 (.slice va kk vc) := (hgrow.block box (by have := HVs.out; omega) (fun e => HNbox.out e.symm)).trans HBV.out
            have hc5 := (hgrow.block Z.heap.size (Array.getElem?_eq_some_iff.1 HCV.out).1 (fun e => HNz.out e.symm)).trans HCV.out
            have hleaf := fun (X : World) h1 h2 h3 h4 h5 => par_leaf (G := G) (base := box) (X := X) (pre := pre) (x := x) (p := p) (k := kk) HKk.out.symm HPre.out (Nat.le_refl _) HJ7.out HB7.out ((Below.refl _ W7).drew) HAb.out HQ.out (HVb.out) hgrow hat HVhh.out hlt5 (fun qs' hq' => HXs.out qs' hq') hown5 h1 h2 h3 h4 h5
            have hlast := row_last hown5
            have hcells : ∃ cs T, V5.heap[g]? = some (.cells cs T (0, 0)) := by rcases hown5.2 with ⟨h0, _⟩ | ⟨_, _, _, h0, _, h1, _⟩; cases h0; cases h0; exact ⟨_, _, h1⟩
            have hgb : g ≠ box := by rintro rfl; rcases hown5.2 with ⟨h0, _⟩ | ⟨_, _, _, h0, h1, _⟩; cases h0; cases h0; omega
            have hzg : Z.heap.size ≠ g := by
              rintro rfl
              rcases hat with h | h
              · exact HNz.out h
              · have := (Array.getElem?_eq_some_iff.1 HCA.out).1; have := HVhh.out; omega
            have HZg := Lib.hid hzg
            have HLeaf := Lib.hid hleaf
            have HLast := Lib.hid (And.intro hcells hlast)
            have HB5 := Lib.hid hb5
            have HGb := Lib.hid hgb
            have hS5 : S V5 := by rw [HSS.out]; exact ⟨hb5, hc5⟩
            have HC5 := Lib.hid hc5
            clear hleaf hlast hcells hb5 hgb hown5 hgrow hat hc5 hzg
            refine hK _ _ (fun _ => hS5) (fun _ => ?_)
            clear hK K
            refine twoM (i := 6) (j := 8) rfl rfl (by kernel_rfl) (by rfl) (by rfl) (fun K hK => ?_) (fun K hK => ?_)
            · skip
              go_simp
              simp only [if_pos (show (kk : Int) < (kk : Int) + 1 by omega)]
              go_simp
              refine hK _ _ (fun h => absurd h (by decide)) (fun _ => ?_)
              clear hK K
              refine twoM (i := 7) (j := 8) rfl rfl (by kernel_rfl) (by rfl) (by rfl) (fun K hK => ?_) (fun K hK => ?_)
              · skip
                obtain ⟨_, l0, l1, l2, l3, lz⟩ := HLast.out
                simp only [TV.val]
                go_simp
                obtain ⟨Xa, hXa⟩ : ∃ Xa, Xa = store4 V5 g (kk * 4) (.int .u8 p.r) (.int .i64 p.e) (.string p.w) (.slice p.a p.n p.c) := ⟨_, rfl⟩
                have HEXa := Lib.hid hXa
                unfold store4 at hXa
                rw [← hXa]
                clear hXa l0 l1 l2 l3 lz
                have hbX : Boxed Xa box 25 (.slice va kk vc) := boxed_of_heap HB5.out (by rw [HEXa.out]; exact store4_other (fun e => HGb.out e.symm))
                have HBX := Lib.hid hbX
                clear hbX
                refine hK _ _ (fun h => absurd h (by decide)) (fun _ => ?_)
                clear hK K
                refine oneM (i := 8) rfl (by kernel_rfl) (by rfl) (fun K hK => ?_)
                have cX := (HBX.out).cell
                have zX := (HBX.out).frozen
                go_simp
                obtain ⟨Xb, hXb⟩ : ∃ Xb, Xb = Xa.setCell ⟨box, 0, none⟩ (.slice (some ⟨g, 0, none⟩) (kk + 1) cap5) := ⟨_, rfl⟩
                rw [← hXb]
                have HEXb := Lib.hid hXb
                clear hXb cX zX
                refine hK _ _ (fun h => absurd h (by decide)) (fun _ => ?_)
                clear hK K
                refine doneM (by kernel_rfl) ?_ _
                gi_wp2
                refine HLeaf.out Xb ?_ ?_ ?_ ?_ ?_
                · rw [HEXb.out, Below.heap_setCell _ _ _ _ HGb.out, HEXa.out]
                · rw [HEXb.out]; exact (boxed_of_heap (X := Xa) HB5.out (by rw [HEXa.out]; exact store4_other (fun e => HGb.out e.symm))).set _
                · intro b h1 h2; rw [HEXb.out, Below.heap_setCell _ _ _ _ h2, HEXa.out]; exact store4_other h1
                · rw [HEXb.out, World.size_setCell, HEXa.out]; exact store4_size
                · rw [HEXb.out, HEXa.out]; exact ⟨rfl, rfl, rfl⟩
              · skip
                have cX := (HB5.out).cell
                have zX := (HB5.out).frozen
                go_simp
                obtain ⟨Xa, hXa⟩ : ∃ Xa, Xa = V5.setCell ⟨box, 0, none⟩ (.slice (some ⟨g, 0, none⟩) (kk + 1) cap5) := ⟨_, rfl⟩
                rw [← hXa]
                have HEXa := Lib.hid hXa
                clear hXa cX zX
                refine hK _ _ (fun h => absurd h (by decide)) (fun _ => ?_)
                clear hK K
                refine oneM (i := 7) rfl (by kernel_rfl) (by rfl) (fun K hK => ?_)
                obtain ⟨hcs, k0, k1, k2, k3, kz⟩ := HLast.out; obtain ⟨l0, l1, l2, l3, lz⟩ := last_swap (X := Xa) (V5 := V5) (by rw [HEXa.out, Below.heap_setCell _ _ _ _ HGb.out]) k0 k1 k2 k3 kz; clear hcs k0 k1 k2 k3 kz
                simp only [TV.val]
                go_simp
                obtain ⟨Xb, hXb⟩ : ∃ Xb, Xb = store4 Xa g (kk * 4) (.int .u8 p.r) (.int .i64 p.e) (.string p.w) (.slice p.a p.n p.c) := ⟨_, rfl⟩
                have HEXb := Lib.hid hXb
                unfold store4 at hXb
                rw [← hXb]
                clear hXb l0 l1 l2 l3 lz
                refine hK _ _ (fun h => absurd h (by decide)) (fun _ => ?_)
                clear hK K
                refine doneM (by kernel_rfl) ?_ _
                gi_wp2
                refine HLeaf.out Xb ?_ ?_ ?_ ?_ ?_
                · rw [HEXb.out, store4_swap (V := Xa) (V5 := V5) (by rw [HEXa.out, Below.heap_setCell _ _ _ _ HGb.out]) HLast.out.1]
                · exact boxed_of_heap (W := Xa) (by rw [HEXa.out]; exact HB5.out.set _) (by rw [HEXb.out]; exact store4_other (fun e => HGb.out e.symm))
                · intro b h1 h2; rw [HEXb.out, store4_other h1, HEXa.out, Below.heap_setCell _ _ _ _ h2]
                · rw [HEXb.out, store4_size, HEXa.out, World.size_setCell]
                · rw [HEXb.out, HEXa.out]; exact ⟨rfl, rfl, rfl⟩
            · skip
              have cX := (HB5.out).cell
              have zX := (HB5.out).frozen
              go_simp
              obtain ⟨Xa, hXa⟩ : ∃ Xa, Xa = V5.setCell ⟨box, 0, none⟩ (.slice (some ⟨g, 0, none⟩) (kk + 1) cap5) := ⟨_, rfl⟩
              rw [← hXa]
              have HEXa := Lib.hid hXa
              clear hXa cX zX
              refine hK _ _ (fun h => absurd h (by decide)) (fun _ => ?_)
              clear hK K
              refine oneM (i := 6) rfl (by kernel_rfl) (by rfl) (fun K hK => ?_)
              go_simp
              simp only [if_pos (show (kk : Int) < (kk : Int) + 1 by omega)]
              go_simp
              refine hK _ _ (fun h => absurd h (by decide)) (fun _ => ?_)
              clear hK K
              refine oneM (i := 7) rfl (by kernel_rfl) (by rfl) (fun K hK => ?_)
              obtain ⟨hcs, k0, k1, k2, k3, kz⟩ := HLast.out; obtain ⟨l0, l1, l2, l3, lz⟩ := last_swap (X := Xa) (V5 := V5) (by rw [HEXa.out, Below.heap_setCell _ _ _ _ HGb.out]) k0 k1 k2 k3 kz; clear hcs k0 k1 k2 k3 kz
              simp only [TV.val]
              go_simp
              obtain ⟨Xb, hXb⟩ : ∃ Xb, Xb = store4 Xa g (kk * 4) (.int .u8 p.r) (.int .i64 p.e) (.string p.w) (.slice p.a p.n p.c) := ⟨_, rfl⟩
              have HEXb := Lib.hid hXb
              unfold store4 at hXb
              rw [← hXb]
              clear hXb l0 l1 l2 l3 lz
              refine hK _ _ (fun h => absurd h (by decide)) (fun _ => ?_)
              clear hK K
              refine doneM (by kernel_rfl) ?_ _
              gi_wp2
              refine HLeaf.out Xb ?_ ?_ ?_ ?_ ?_
              · rw [HEXb.out, store4_swap (V := Xa) (V5 := V5) (by rw [HEXa.out, Below.heap_setCell _ _ _ _ HGb.out]) HLast.out.1]
              · exact boxed_of_heap (W := Xa) (by rw [HEXa.out]; exact HB5.out.set _) (by rw [HEXb.out]; exact store4_other (fun e => HGb.out e.symm))
              · intro b h1 h2; rw [HEXb.out, store4_other h1, HEXa.out, Below.heap_setCell _ _ _ _ h2]
              · rw [HEXb.out, store4_size, HEXa.out, World.size_setCell]
              · rw [HEXb.out, HEXa.out]; exact ⟨rfl, rfl, rfl⟩
          · go_simp
            obtain ⟨V1, hV1⟩ : ∃ V1, V1 = (W7.alloc (.cells #[.int .u8 0, .int .i64 0, .string ⟨#[]⟩, .slice none 0 0] 36)).drew := ⟨_, rfl⟩
            have hb17 : Below W7.heap.size W7 V1 := by rw [hV1]; exact ((Below.refl _ _).alloc (Nat.le_refl _) _).drew
            have htmp : V1.heap[W7.heap.size]? = some (.cells #[.int .u8 0, .int .i64 0, .string ⟨#[]⟩, .slice none 0 0] 36 (0, 0)) := by rw [hV1]; exact World.alloc_heap_new W7 _
            rw [← hV1]
            clear hV1
            have hS4 : S V1 := by rw [HSS.out]; exact ⟨boxed_below HB7.out hb17, (hb17.block _ (Array.getElem?_eq_some_iff.1 HC7.out).1).trans HC7.out⟩
            refine hK _ _ (fun _ => hS4) (fun _ => ?_)
            clear hK K
            refine oneM (i := 2) rfl (by kernel_rfl) (by rfl) (fun K hK => ?_)
            go_simp
            refine CallsIn.inRound L (callsIn_wide.2 ((copied_any x HSlim.out V1 _ (show TreeV (fun _ => True) V1 q.val x from TreeV.move (W := W7) (W' := V1) (ok' := fun _ => True) (fun b _ h => ⟨trivial, hb17.block b (by obtain ⟨_, _, h⟩ := h; exact cell_lt h)⟩) HTy.out)).mono ?_))
            rintro _ A1 ⟨v', rfl, hq, hbA⟩
            obtain ⟨p, rfl⟩ := hq.form
            have hbV7 : Below W7.heap.size W7 A1 := hb17.trans (hbA.mono hb17.size)
            have HBV := Lib.hid (boxed_below HB7.out hbV7)
            have HCV := Lib.hid ((hbV7.block _ (Array.getElem?_eq_some_iff.1 HC7.out).1).trans HC7.out)
            have HCA := HCV
            have HOV := Lib.hid (ownsRow_below HO7.out hbV7)
            have HTmp := Lib.hid ((hbA.block _ (Array.getElem?_eq_some_iff.1 htmp).1).trans htmp)
            have HVhh := Lib.hid (Nat.le_refl A1.heap.size)
            have HVs := Lib.hid (show box + 1 ≤ A1.heap.size by have := hbV7.size; have := HB7.out.lt; omega)
            have hS5 : S A1 := by rw [HSS.out]; exact ⟨HBV.out, HCV.out⟩
            have HAb := Lib.hid hbA
            have HQ := Lib.hid hq
            have HB17 := Lib.hid hb17
            clear hbA hq htmp hbV7 hb17
            refine hK _ _ (fun _ => hS5) (fun _ => ?_)
            clear hK K
            refine oneM (i := 5) rfl (by kernel_rfl) (by rfl) (fun K hK => ?_)
            refine wpIn_append_lies (.tmp 34) (.tmp 38) 25 rfl (box + 1) 36 i0 (.agg #[.int .u8 0, .int .i64 0, .string ByteArray.empty, .slice none 0 0]) 4 56 Tryz.underlying25 hi hz0 hz1 hz2 rfl (by decide) (.slice va kk vc) kk _ rfl HOV.out ⟨_, 0, none⟩ 1 1 [.int .u8 0, .int .i64 0, .string ⟨#[]⟩, .slice none 0 0] rfl rfl (news_at (cs := #[.int .u8 0, .int .i64 0, .string ⟨#[]⟩, .slice none 0 0]) (t := 36) (fr := (0, 0)) HTmp.out) (by simp [Value.oneCell']) (by decide) (by unfold maxLen; omega) (by omega) HVs.out _ rfl ?_
            intro g cap5 V5 hown5 hgrow hat hlt5
            have hb5 : Boxed V5 box 25 (.slice va kk vc) := (hgrow.block box (by have := HVs.out; omega) (fun e => HNbox.out e.symm)).trans HBV.out
            have hc5 := (hgrow.block Z.heap.size (Array.getElem?_eq_some_iff.1 HCV.out).1 (fun e => HNz.out e.symm)).trans HCV.out
            have hleaf := fun (X : World) h1 h2 h3 h4 h5 => par_leaf (G := G) (base := box) (X := X) (pre := pre) (x := x) (p := p) (k := kk) HKk.out.symm HPre.out (Nat.le_refl _) HJ7.out HB7.out (HB17.out) HAb.out HQ.out (Below.refl _ _) hgrow hat HVhh.out hlt5 (fun qs' hq' => HXs.out qs' hq') hown5 h1 h2 h3 h4 h5
            have hlast := row_last hown5
            have hcells : ∃ cs T, V5.heap[g]? = some (.cells cs T (0, 0)) := by rcases hown5.2 with ⟨h0, _⟩ | ⟨_, _, _, h0, _, h1, _⟩; cases h0; cases h0; exact ⟨_, _, h1⟩
            have hgb : g ≠ box := by rintro rfl; rcases hown5.2 with ⟨h0, _⟩ | ⟨_, _, _, h0, h1, _⟩; cases h0; cases h0; omega
            have hzg : Z.heap.size ≠ g := by
              rintro rfl
              rcases hat with h | h
              · exact HNz.out h
              · have := (Array.getElem?_eq_some_iff.1 HCA.out).1; have := HVhh.out; omega
            have HZg := Lib.hid hzg
            have HLeaf := Lib.hid hleaf
            have HLast := Lib.hid (And.intro hcells hlast)
            have HB5 := Lib.hid hb5
            have HGb := Lib.hid hgb
            have hS5 : S V5 := by rw [HSS.out]; exact ⟨hb5, hc5⟩
            have HC5 := Lib.hid hc5
            clear hleaf hlast hcells hb5 hgb hown5 hgrow hat hc5 hzg
            refine hK _ _ (fun _ => hS5) (fun _ => ?_)
            clear hK K
            refine twoM (i := 6) (j := 8) rfl rfl (by kernel_rfl) (by rfl) (by rfl) (fun K hK => ?_) (fun K hK => ?_)
            · skip
              go_simp
              simp only [if_pos (show (kk : Int) < (kk : Int) + 1 by omega)]
              go_simp
              refine hK _ _ (fun h => absurd h (by decide)) (fun _ => ?_)
              clear hK K
              refine twoM (i := 7) (j := 8) rfl rfl (by kernel_rfl) (by rfl) (by rfl) (fun K hK => ?_) (fun K hK => ?_)
              · skip
                obtain ⟨_, l0, l1, l2, l3, lz⟩ := HLast.out
                simp only [TV.val]
                go_simp
                obtain ⟨Xa, hXa⟩ : ∃ Xa, Xa = store4 V5 g (kk * 4) (.int .u8 p.r) (.int .i64 p.e) (.string p.w) (.slice p.a p.n p.c) := ⟨_, rfl⟩
                have HEXa := Lib.hid hXa
                unfold store4 at hXa
                rw [← hXa]
                clear hXa l0 l1 l2 l3 lz
                have hbX : Boxed Xa box 25 (.slice va kk vc) := boxed_of_heap HB5.out (by rw [HEXa.out]; exact store4_other (fun e => HGb.out e.symm))
                have HBX := Lib.hid hbX
                clear hbX
                refine hK _ _ (fun h => absurd h (by decide)) (fun _ => ?_)
                clear hK K
                refine oneM (i := 8) rfl (by kernel_rfl) (by rfl) (fun K hK => ?_)
                have cX := (HBX.out).cell
                have zX := (HBX.out).frozen
                go_simp
                obtain ⟨Xb, hXb⟩ : ∃ Xb, Xb = Xa.setCell ⟨box, 0, none⟩ (.slice (some ⟨g, 0, none⟩) (kk + 1) cap5) := ⟨_, rfl⟩
                rw [← hXb]
                have HEXb := Lib.hid hXb
                clear hXb cX zX
                refine hK _ _ (fun h => absurd h (by decide)) (fun _ => ?_)
                clear hK K
                refine doneM (by kernel_rfl) ?_ _
                gi_wp2
                refine HLeaf.out Xb ?_ ?_ ?_ ?_ ?_
                · rw [HEXb.out, Below.heap_setCell _ _ _ _ HGb.out, HEXa.out]
                · rw [HEXb.out]; exact (boxed_of_heap (X := Xa) HB5.out (by rw [HEXa.out]; exact store4_other (fun e => HGb.out e.symm))).set _
                · intro b h1 h2; rw [HEXb.out, Below.heap_setCell _ _ _ _ h2, HEXa.out]; exact store4_other h1
                · rw [HEXb.out, World.size_setCell, HEXa.out]; exact store4_size
                · rw [HEXb.out, HEXa.out]; exact ⟨rfl, rfl, rfl⟩
              · skip
                have cX := (HB5.out).cell
                have zX := (HB5.out).frozen
                go_simp
                obtain ⟨Xa, hXa⟩ : ∃ Xa, Xa = V5.setCell ⟨box, 0, none⟩ (.slice (some ⟨g, 0, none⟩) (kk + 1) cap5) := ⟨_, rfl⟩
                rw [← hXa]
                have HEXa := Lib.hid hXa
                clear hXa cX zX
                refine hK _ _ (fun h => absurd h (by decide)) (fun _ => ?_)
                clear hK K
                refine oneM (i := 7) rfl (by kernel_rfl) (by rfl) (fun K hK => ?_)
                obtain ⟨hcs, k0, k1, k2, k3, kz⟩ := HLast.out; obtain ⟨l0, l1, l2, l3, lz⟩ := last_swap (X := Xa) (V5 := V5) (by rw [HEXa.out, Below.heap_setCell _ _ _ _ HGb.out]) k0 k1 k2 k3 kz; clear hcs k0 k1 k2 k3 kz
                simp only [TV.val]
                go_simp
                obtain ⟨Xb, hXb⟩ : ∃ Xb, Xb = store4 Xa g (kk * 4) (.int .u8 p.r) (.int .i64 p.e) (.string p.w) (.slice p.a p.n p.c) := ⟨_, rfl⟩
                have HEXb := Lib.hid hXb
                unfold store4 at hXb
                rw [← hXb]
                clear hXb l0 l1 l2 l3 lz
                refine hK _ _ (fun h => absurd h (by decide)) (fun _ => ?_)
                clear hK K
                refine doneM (by kernel_rfl) ?_ _
                gi_wp2
                refine HLeaf.out Xb ?_ ?_ ?_ ?_ ?_
                · rw [HEXb.out, store4_swap (V := Xa) (V5 := V5) (by rw [HEXa.out, Below.heap_setCell _ _ _ _ HGb.out]) HLast.out.1]
                · exact boxed_of_heap (W := Xa) (by rw [HEXa.out]; exact HB5.out.set _) (by rw [HEXb.out]; exact store4_other (fun e => HGb.out e.symm))
                · intro b h1 h2; rw [HEXb.out, store4_other h1, HEXa.out, Below.heap_setCell _ _ _ _ h2]
                · rw [HEXb.out, store4_size, HEXa.out, World.size_setCell]
                · rw [HEXb.out, HEXa.out]; exact ⟨rfl, rfl, rfl⟩
            · skip
              have cX := (HB5.out).cell
              have zX := (HB5.out).frozen
              go_simp
              obtain ⟨Xa, hXa⟩ : ∃ Xa, Xa = V5.setCell ⟨box, 0, none⟩ (.slice (some ⟨g, 0, none⟩) (kk + 1) cap5) := ⟨_, rfl⟩
              rw [← hXa]
              have HEXa := Lib.hid hXa
              clear hXa cX zX
              refine hK _ _ (fun h => absurd h (by decide)) (fun _ => ?_)
              clear hK K
              refine oneM (i := 6) rfl (by kernel_rfl) (by rfl) (fun K hK => ?_)
              go_simp
              simp only [if_pos (show (kk : Int) < (kk : Int) + 1 by omega)]
              go_simp
              refine hK _ _ (fun h => absurd h (by decide)) (fun _ => ?_)
              clear hK K
              refine oneM (i := 7) rfl (by kernel_rfl) (by rfl) (fun K hK => ?_)
              obtain ⟨hcs, k0, k1, k2, k3, kz⟩ := HLast.out; obtain ⟨l0, l1, l2, l3, lz⟩ := last_swap (X := Xa) (V5 := V5) (by rw [HEXa.out, Below.heap_setCell _ _ _ _ HGb.out]) k0 k1 k2 k3 kz; clear hcs k0 k1 k2 k3 kz
              simp only [TV.val]
              go_simp
              obtain ⟨Xb, hXb⟩ : ∃ Xb, Xb = store4 Xa g (kk * 4) (.int .u8 p.r) (.int .i64 p.e) (.string p.w) (.slice p.a p.n p.c) := ⟨_, rfl⟩
              have HEXb := Lib.hid hXb
              unfold store4 at hXb
              rw [← hXb]
              clear hXb l0 l1 l2 l3 lz
              refine hK _ _ (fun h => absurd h (by decide)) (fun _ => ?_)
              clear hK K
              refine doneM (by kernel_rfl) ?_ _
              gi_wp2
              refine HLeaf.out Xb ?_ ?_ ?_ ?_ ?_
              · rw [HEXb.out, store4_swap (V := Xa) (V5 := V5) (by rw [HEXa.out, Below.heap_setCell _ _ _ _ HGb.out]) HLast.out.1]
              · exact boxed_of_heap (W := Xa) (by rw [HEXa.out]; exact HB5.out.set _) (by rw [HEXb.out]; exact store4_other (fun e => HGb.out e.symm))
              · intro b h1 h2; rw [HEXb.out, store4_other h1, HEXa.out, Below.heap_setCell _ _ _ _ h2]
              · rw [HEXb.out, store4_size, HEXa.out, World.size_setCell]
              · rw [HEXb.out, HEXa.out]; exact ⟨rfl, rfl, rfl⟩
end Go.Proofs.YthmnffgjckpkiaaGreatDoor
