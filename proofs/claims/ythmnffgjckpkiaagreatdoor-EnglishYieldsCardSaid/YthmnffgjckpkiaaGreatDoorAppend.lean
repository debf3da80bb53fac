/-
  append of a lexicon to a lexicon of the call's own, the source nil or not: the run's equation, and the law at a step of a region that draws its order.
-/
import Derived.Test.YthmnffgjckpkiaaGreatDoorSameEnts
import Derived.Deep.AppendLies
namespace Go.Proofs.YthmnffgjckpkiaaGreatDoor
open Go Go.RowKit

theorem ents_nilform' {w : World} {v : Value} {l : List Ent} (h : EntSlice w v l) (h0 : ∀ n cap, v = .slice none n cap → v = .slice none 0 0) :
    (v = .slice none 0 0 ∧ l = []) ∨ ∃ ad cap, v = .slice (some ad) l.length cap ∧ ∀ j u, (l.flatMap entCells)[j]? = some u → w.cell? (ad.add j) = some u := by
  obtain ⟨⟨a, cap, rfl, h1, h2, h3⟩, h4⟩ := h
  cases a with
  | none =>
    have := h0 l.length cap rfl
    injection this with _ e2 e3
    have hl : l = [] := List.eq_nil_of_length_eq_zero e2
    subst hl
    exact .inl ⟨by rw [e3]; rfl, rfl⟩
  | some ad =>
    refine .inr ⟨ad, cap, rfl, fun j u hj => ?_⟩
    rcases h3 with h3 | ⟨b, off, ha, hlt, hc⟩
    · subst h3; simp at hj
    · injection ha with ha
      subst ha
      have hadd : (⟨b, off, none⟩ : Addr).add j = ⟨b, off + j, none⟩ := by unfold Addr.add; split <;> simp_all
      rw [hadd]
      have hjl : j < l.length * 3 := by
        have := (List.getElem?_eq_some_iff.1 hj).1
        rwa [ents_len] at this
      obtain ⟨q, hq⟩ : ∃ q, j = q * 3 ∨ j = q * 3 + 1 ∨ j = q * 3 + 2 := ⟨j / 3, by omega⟩
      have hql : q < l.length := by omega
      obtain ⟨f0, f1, f2⟩ := flat3 l q hql
      obtain ⟨c0, c1, c2⟩ := hc q hql
      rcases hq with rfl | rfl | rfl
      · rw [f0] at hj; injection hj with hj; rw [← hj]; exact c0
      · rw [f1] at hj; injection hj with hj; rw [← hj, ← Nat.add_assoc]; exact c1
      · rw [f2] at hj; injection hj with hj; rw [← hj, ← Nat.add_assoc]; exact c2
theorem ownEnts_empty {w : World} {g base : Nat} (hg : w.heap[g]? = some (.cells #[] 63 (0, 0))) (hb : base ≤ g) : OwnEnts w base (.slice (some ⟨g, 0, none⟩) 0 0) [] :=
  ⟨by simp, .inr ⟨g, 0, #[], rfl, hb, hg, Nat.le_refl _, Nat.zero_le _, by simp, by simp⟩⟩

/-- append of a lexicon to one of the call's own. -/
theorem run_append_ents (w : World) (ty : TypeId) (base : Nat) (v : Value) (p : List Ent) (hown : OwnEnts w base v p) (x : Value) (q : List Ent) (hx : EntSlice w x q) (h0 : ∀ n cap, x = .slice none n cap → x = .slice none 0 0)
    (hn : (p.length + q.length) * 40 ≤ 140737488355328) (hbase : base ≤ w.heap.size) :
    ∃ v' w', (Builtin.append_ #[22, 22] ty #[v, x]).run Tryz.prog w = .ok v' w' ∧ OwnEnts w' base v' (p ++ q) ∧ w.grownBy w' v.ownBlock ∧ (v'.ownBlock = v.ownBlock ∨ v'.ownBlock = some w.heap.size) := by
  obtain ⟨i0, hi, hz0, hz1, hz2⟩ := info_parts info_ent
  rcases ents_nilform' hx h0 with ⟨rfl, rfl⟩ | ⟨ad, cap, rfl, hnews⟩
  · refine ⟨v, w, ?_, by rw [List.append_nil]; exact hown, ⟨rfl, rfl, rfl, Nat.le_refl _, fun _ _ _ => rfl⟩, .inl rfl⟩
    exact run_append_owned_none (P := Tryz.prog) (w := w) base 22 ty 63 i0 3 Tryz.underlying22 hi v p.length (p.flatMap entCells) hown
  · obtain ⟨v', w', hr, h2, h3, _, h5⟩ := run_append_own_at (P := Tryz.prog) w base 22 ty 63 i0 _ 3 40 Tryz.underlying22 hi hz0 hz1 hz2 rfl (by decide) v p.length (p.flatMap entCells) hown ad q.length cap (q.flatMap entCells) (ents_len _) hnews (ents_one _) (by unfold maxLen; omega) (by omega) hbase
    refine ⟨v', w', hr, ?_, h3, h5⟩
    unfold OwnEnts
    rw [List.length_append, List.flatMap_append]
    exact h2

/-- At a step of a region that draws its order. -/
theorem step_append_ents {ops : Array Oper} {o : Oper} {a : Act} {w : World} {K : Act → World → Prop} {Q : Exit → Act → World → Prop} {E : Prop} (hgd : o.guard = none) (s x : Operand)
    (ho : o.op = .call { callee := .builtin .append, args := #[s, x], argTypes := #[22, 22] })
    (base : Nat) (v : Value) (p : List Ent) (hs : a.eval s = v) (hown : OwnEnts w base v p) (vx : Value) (q : List Ent) (hvx : a.eval x = vx) (hx : EntSlice w vx q) (h0 : ∀ n cap, vx = .slice none n cap → vx = .slice none 0 0)
    (hn : (p.length + q.length) * 40 ≤ 140737488355328) (hbase : base ≤ w.heap.size)
    (h : ∀ v' w', OwnEnts w' base v' (p ++ q) → w.grownBy w' v.ownBlock → (v'.ownBlock = v.ownBlock ∨ v'.ownBlock = some w.heap.size) → K (a.put o.dst v') w') :
    if Region.wanted o (yielded ops a.tmps) = true then Oper.wp Tryz.prog o a w K Q else E := by
  have hw : Region.wanted o (yielded ops a.tmps) = true := by simp [Region.wanted, hgd]
  rw [if_pos hw]
  obtain ⟨v', w', hr, h1, h2, h3⟩ := run_append_ents w o.type base v p hown vx q hx h0 hn hbase
  unfold Oper.wp execOp
  simp only [ho, resolve, invoke, builtin, Sem.run_bind, Sem.run_pure, Result.andThen_ok, List.map_toArray, List.map_cons, List.map_nil, hs, hvx, hr]
  exact h v' w' h1 h2 h3
theorem wpList_append_ents {ops : Array Oper} {rest : List Oper} {o : Oper} {a : Act} {w : World} {Q : Exit → Act → World → Prop} (hgd : o.guard = none) (s x : Operand)
    (ho : o.op = .call { callee := .builtin .append, args := #[s, x], argTypes := #[22, 22] })
    (base : Nat) (v : Value) (p : List Ent) (hs : a.eval s = v) (hown : OwnEnts w base v p) (vx : Value) (q : List Ent) (hvx : a.eval x = vx) (hx : EntSlice w vx q) (h0 : ∀ n cap, vx = .slice none n cap → vx = .slice none 0 0)
    (hn : (p.length + q.length) * 40 ≤ 140737488355328) (hbase : base ≤ w.heap.size)
    (h : ∀ v' w', OwnEnts w' base v' (p ++ q) → w.grownBy w' v.ownBlock → (v'.ownBlock = v.ownBlock ∨ v'.ownBlock = some w.heap.size) → wpList Tryz.prog ops Q rest (a.put o.dst v') w') : wpList Tryz.prog ops Q (o :: rest) a w := by
  refine wpList_plain hgd fun K hK => ?_
  obtain ⟨v', w', hr, h1, h2, h3⟩ := run_append_ents w o.type base v p hown vx q hx h0 hn hbase
  unfold Oper.wp execOp
  simp only [ho, resolve, invoke, builtin, Sem.run_bind, Sem.run_pure, Result.andThen_ok, List.map_toArray, List.map_cons, List.map_nil, hs, hvx, hr]
  exact hK _ _ (h v' w' h1 h2 h3)
theorem ents_one_slice {w : World} {g : Nat} {e : Ent} (he : e.ok) (c0 : w.cell? ⟨g, 0, none⟩ = some (.string e.word)) (c1 : w.cell? ⟨g, 1, none⟩ = some (.int .u8 e.cat)) (c2 : w.cell? ⟨g, 2, none⟩ = some (.string e.sym)) : EntSlice w (.slice (some ⟨g, 0, none⟩) 1 1) [e] := by
  refine ⟨⟨_, 1, rfl, Nat.le_refl _, by decide, .inr ⟨g, 0, rfl, cell_lt c0, fun j hj => ?_⟩⟩, fun x hx => by rw [List.mem_singleton.1 hx]; exact he⟩
  obtain rfl : j = 0 := by simp at hj; omega
  exact ⟨c0, c1, c2⟩
theorem ents_one_block {w : World} {g : Nat} {e : Ent} {t : TypeId} {fr : Nat × Nat} (he : e.ok) (hg : w.heap[g]? = some (.cells #[.string e.word, .int .u8 e.cat, .string e.sym] t fr)) : EntSlice w (.slice (some ⟨g, 0, none⟩) 1 1) [e] :=
  ents_one_slice he (by rw [cell_of_row w g 0 _ t fr hg]; rfl) (by rw [cell_of_row w g 1 _ t fr hg]; rfl) (by rw [cell_of_row w g 2 _ t fr hg]; rfl)
end Go.Proofs.YthmnffgjckpkiaaGreatDoor
