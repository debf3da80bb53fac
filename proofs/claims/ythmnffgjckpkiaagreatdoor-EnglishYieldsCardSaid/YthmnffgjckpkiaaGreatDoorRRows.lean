/-
  Rows of words of the call's own, two or three of them apart from each other; append of one to another.
-/
import Derived.Test.YthmnffgjckpkiaaGreatDoorWrite
import Derived.Deep.AppendLies
namespace Go.Proofs.YthmnffgjckpkiaaGreatDoor
open Go Go.RowKit Go.Shelf

/-- The rows of two slices are not the same. -/
def Dis (v v' : Value) : Prop := ∀ g, v.ownBlock = some g → v'.ownBlock ≠ some g
theorem Dis.symm {v v' : Value} (h : Dis v v') : Dis v' v := fun g h1 h2 => h g h2 h1
theorem dis_nil (v : Value) : Dis v (.slice none 0 0) := fun g _ h => by simp [Value.ownBlock] at h
theorem Dis.or {v v' : Value} (h : Dis v v') : v'.ownBlock = none ∨ v'.ownBlock ≠ v.ownBlock := by
  cases hv : v'.ownBlock with
  | none => exact .inl rfl
  | some g =>
    refine .inr (fun e => ?_)
    exact h g e.symm hv
theorem rowW_kept {B : Nat} {W W' : World} {v s : Value} {xs : List (List UInt8)} (h : RowW B W v xs) (hg : W.grownBy W' s.ownBlock) (hd : Dis s v) : RowW B W' v xs := h.kept hg hd.or
theorem rowW_new {B : Nat} {W : World} (hB : B ≤ W.heap.size) (cs : Array Value) (xs : List (List UInt8)) (hc : cs.toList = xs.map strVal) (n : Nat) (hn : n = xs.length) (hm : n ≤ 100) : RowW B (W.alloc (.cells cs 9)) (.slice (some ⟨W.heap.size, 0, none⟩) n n) xs := by
  subst hn
  have hsz : cs.size = xs.length := by rw [← Array.length_toList, hc, List.length_map]
  refine ⟨by simp, .inr ⟨W.heap.size, xs.length, cs, rfl, hB, World.alloc_heap_new _ _, Nat.le_refl _, by unfold maxLen; omega, by rw [hsz]; omega, ?_⟩⟩
  rw [hc, List.take_of_length_le (by simp)]
/-- What a row has as news for an append. -/
theorem rowW_news {B : Nat} {W : World} {v : Value} {xs : List (List UInt8)} (h : RowW B W v xs) : (v = .slice none 0 0 ∧ xs = []) ∨ ∃ g cap, v = .slice (some ⟨g, 0, none⟩) xs.length cap ∧ ∀ j u, (xs.map strVal)[j]? = some u → W.cell? ((⟨g, 0, none⟩ : Addr).add j) = some u := by
  rcases h.2 with ⟨rfl, h0⟩ | ⟨g, cap, cur, rfl, _⟩
  · exact .inl ⟨rfl, List.eq_nil_of_length_eq_zero h0⟩
  · exact .inr ⟨g, cap, rfl, fun j u hu => h.cells (g := g) rfl j u hu⟩

/-- append of a row to a row. -/
theorem run_append_words (w : World) (ty : TypeId) (base : Nat) (v : Value) (p : List (List UInt8)) (hown : RowW base w v p) (bx : Nat) (x : Value) (q : List (List UInt8)) (hx : RowW bx w x q)
    (hn : p.length + q.length ≤ 1000000) (hbase : base ≤ w.heap.size) :
    ∃ v' w', (Builtin.append_ #[41, 41] ty #[v, x]).run Tryz.prog w = .ok v' w' ∧ RowW base w' v' (p ++ q) ∧ w.grownBy w' v.ownBlock ∧ (v'.ownBlock = v.ownBlock ∨ v'.ownBlock = some w.heap.size) := by
  obtain ⟨i0, hi, hz0, hz1, hz2⟩ := info_parts info_str
  rcases rowW_news hx with ⟨rfl, rfl⟩ | ⟨g, cap, rfl, hnews⟩
  · refine ⟨v, w, ?_, by rw [List.append_nil]; exact hown, ⟨rfl, rfl, rfl, Nat.le_refl _, fun _ _ _ => rfl⟩, .inl rfl⟩
    exact run_append_owned_none (P := Tryz.prog) (w := w) base 41 ty 9 i0 1 Tryz.underlying41 hi v p.length (p.map strVal) hown
  · obtain ⟨v', w', hr, h2, h3, _, h5⟩ := run_append_own_at (P := Tryz.prog) w base 41 ty 9 i0 _ 1 16 Tryz.underlying41 hi hz0 hz1 hz2 rfl (by decide) v p.length (p.map strVal) hown ⟨g, 0, none⟩ q.length cap (q.map strVal) (by simp) hnews (by intro u hu; obtain ⟨y, _, rfl⟩ := List.mem_map.1 hu; rfl) (by unfold maxLen; omega) (by omega) hbase
    refine ⟨v', w', hr, ?_, h3, h5⟩
    unfold RowW
    rw [List.length_append, List.map_append]
    exact h2
theorem wpList_append_words {ops : Array Oper} {rest : List Oper} {o : Oper} {a : Act} {w : World} {Q : Exit → Act → World → Prop} (hgd : o.guard = none) (s x : Operand)
    (ho : o.op = .call { callee := .builtin .append, args := #[s, x], argTypes := #[41, 41] })
    (base : Nat) (v : Value) (p : List (List UInt8)) (hs : a.eval s = v) (hown : RowW base w v p) (bx : Nat) (vx : Value) (q : List (List UInt8)) (hvx : a.eval x = vx) (hx : RowW bx w vx q)
    (hn : p.length + q.length ≤ 1000000) (hbase : base ≤ w.heap.size)
    (h : ∀ v' w', RowW base w' v' (p ++ q) → w.grownBy w' v.ownBlock → (v'.ownBlock = v.ownBlock ∨ v'.ownBlock = some w.heap.size) → wpList Tryz.prog ops Q rest (a.put o.dst v') w') : wpList Tryz.prog ops Q (o :: rest) a w := by
  refine wpList_plain hgd fun K hK => ?_
  obtain ⟨v', w', hr, h1, h2, h3⟩ := run_append_words w o.type base v p hown bx vx q hx hn hbase
  unfold Oper.wp execOp
  simp only [ho, resolve, invoke, builtin, Sem.run_bind, Sem.run_pure, Result.andThen_ok, List.map_toArray, List.map_cons, List.map_nil, hs, hvx, hr]
  exact hK _ _ (h v' w' h1 h2 h3)

/-- Two rows, and three. -/
structure Pair (w W : World) (s : Value) (S : List (List UInt8)) (b : Value) (Bl : List (List UInt8)) : Prop where
  below : Below w.heap.size w W
  rs : RowW w.heap.size W s S
  rb : RowW w.heap.size W b Bl
  sb : Dis s b
structure Tri (w W : World) (s : Value) (S : List (List UInt8)) (a : Value) (A : List (List UInt8)) (b : Value) (Bl : List (List UInt8)) : Prop where
  below : Below w.heap.size w W
  rs : RowW w.heap.size W s S
  ra : RowW w.heap.size W a A
  rb : RowW w.heap.size W b Bl
  sa : Dis s a
  sb : Dis s b
  ab : Dis a b
section
variable {w W : World} {s a b : Value} {S A Bl : List (List UInt8)}
theorem Tri.pair (h : Tri w W s S a A b Bl) : Pair w W s S b Bl := ⟨h.below, h.rs, h.rb, h.sb⟩
theorem Tri.tail (h : Tri w W s S a A b Bl) : Pair w W a A b Bl := ⟨h.below, h.ra, h.rb, h.ab⟩
theorem Tri.front (h : Tri w W s S a A b Bl) : Pair w W s S a A := ⟨h.below, h.rs, h.ra, h.sa⟩
theorem Pair.later (h : Pair w W s S b Bl) {W' : World} (hb : Below W.heap.size W W') : Pair w W' s S b Bl := ⟨h.below.trans (hb.mono h.below.size), ownsRow_below h.rs hb, ownsRow_below h.rb hb, h.sb⟩
theorem Tri.later (h : Tri w W s S a A b Bl) {W' : World} (hb : Below W.heap.size W W') : Tri w W' s S a A b Bl := ⟨h.below.trans (hb.mono h.below.size), ownsRow_below h.rs hb, ownsRow_below h.ra hb, ownsRow_below h.rb hb, h.sa, h.sb, h.ab⟩
theorem dis_new {B : Nat} {v : Value} {xs : List (List UInt8)} (h : RowW B W v xs) (n c : Nat) : Dis v (.slice (some ⟨W.heap.size, 0, none⟩) n c) := fun g hg he => by
  have := (World.ownsRow.lt h g hg).2
  simp [Value.ownBlock] at he
  omega
/-- A new row. -/
theorem Pair.buildS (h : Pair w W a A b Bl) (cs : Array Value) (xs : List (List UInt8)) (hc : cs.toList = xs.map strVal) (n : Nat) (hn : n = xs.length) (hm : n ≤ 100) : Tri w (W.alloc (.cells cs 9)) (.slice (some ⟨W.heap.size, 0, none⟩) n n) xs a A b Bl :=
  ⟨h.below.alloc h.below.size _, rowW_new h.below.size cs xs hc n hn hm, rowW_alloc h.rs _, rowW_alloc h.rb _, (dis_new h.rs _ _).symm, (dis_new h.rb _ _).symm, h.sb⟩
theorem Pair.buildM (h : Pair w W s S b Bl) (cs : Array Value) (xs : List (List UInt8)) (hc : cs.toList = xs.map strVal) (n : Nat) (hn : n = xs.length) (hm : n ≤ 100) : Tri w (W.alloc (.cells cs 9)) s S (.slice (some ⟨W.heap.size, 0, none⟩) n n) xs b Bl :=
  ⟨h.below.alloc h.below.size _, rowW_alloc h.rs _, rowW_new h.below.size cs xs hc n hn hm, rowW_alloc h.rb _, dis_new h.rs _ _, h.sb, (dis_new h.rb _ _).symm⟩
theorem Pair.nil (h : Pair w W s S a A) : Tri w W s S a A (.slice none 0 0) [] := ⟨h.below, h.rs, h.rb, World.ownsRow_nil _ _ _ _, h.sb, dis_nil _, dis_nil _⟩
theorem Tri.grown (h : Tri w W s S a A b Bl) {v' : Value} {W' : World} {T : List (List UInt8)} (hr : RowW w.heap.size W' v' T) (hg : W.grownBy W' s.ownBlock) (ho : v'.ownBlock = s.ownBlock ∨ v'.ownBlock = some W.heap.size) : Tri w W' v' T a A b Bl := by
  have key : ∀ {x : Value} {xs : List (List UInt8)}, RowW w.heap.size W x xs → Dis s x → Dis v' x := by
    intro x xs hx hd g h1 h2
    rcases ho with ho | ho
    · exact hd g (ho ▸ h1) h2
    · rw [ho] at h1
      injection h1 with h1
      have := (World.ownsRow.lt hx g h2).2
      omega
  exact ⟨h.below.grown hg h.below.size (fun k hk => (World.ownsRow.lt h.rs k hk).1), hr, rowW_kept h.ra hg h.sa, rowW_kept h.rb hg h.sb, key h.ra h.sa, key h.rb h.sb, h.ab⟩
end
theorem wpList_tri_app {ops : Array Oper} {rest : List Oper} {o : Oper} {ac : Act} {W w : World} {Q : Exit → Act → World → Prop} (hgd : o.guard = none) (sx xx : Operand)
    (ho : o.op = .call { callee := .builtin .append, args := #[sx, xx], argTypes := #[41, 41] })
    {s a b : Value} {S A Bl : List (List UInt8)} (hs : ac.eval sx = s) (hx : ac.eval xx = a) (h3 : Tri w W s S a A b Bl) (hn : S.length + A.length ≤ 1000000)
    (h : ∀ v' W', Tri w W' v' (S ++ A) a A b Bl → wpList Tryz.prog ops Q rest (ac.put o.dst v') W') : wpList Tryz.prog ops Q (o :: rest) ac W :=
  wpList_append_words hgd sx xx ho w.heap.size s S hs h3.rs w.heap.size a A hx h3.ra hn h3.below.size (fun v' W' hr hg hw => h v' W' (h3.grown hr hg hw))
theorem wpList_pair_app {ops : Array Oper} {rest : List Oper} {o : Oper} {ac : Act} {W w : World} {Q : Exit → Act → World → Prop} (hgd : o.guard = none) (sx xx : Operand)
    (ho : o.op = .call { callee := .builtin .append, args := #[sx, xx], argTypes := #[41, 41] })
    {s b : Value} {S Bl : List (List UInt8)} (hs : ac.eval sx = s) (hx : ac.eval xx = b) (h2 : Pair w W s S b Bl) (hn : S.length + Bl.length ≤ 1000000)
    (h : ∀ v' W', Pair w W' v' (S ++ Bl) b Bl → wpList Tryz.prog ops Q rest (ac.put o.dst v') W') : wpList Tryz.prog ops Q (o :: rest) ac W :=
  wpList_tri_app hgd sx xx ho hs hx (h2.nil) hn (fun v' W' h3 => h v' W' h3.front)
end Go.Proofs.YthmnffgjckpkiaaGreatDoor
