/-
  The map of counts: what its block may hold; the look-up and the store at a key of three numbers.
-/
import Derived.Test.YthmnffgjckpkiaaGreatDoorEng
import Derived.Test.YthmnffgjckpkiaaGreatDoorSeqR
import Derived.Laws.StructEq
import Derived.ChangeKeysEq
import Derived.MapKept
namespace Go.Proofs.YthmnffgjckpkiaaGreatDoor
open Go Go.RowKit

def spanV (k f t : Nat) : Value := .agg #[.int .u8 k, .int .i64 f, .int .i64 t]
/-- The map holds right counts alone. -/
def MapG (g : Gr) (o : Option Obj) : Prop := ∃ es clock, o = some (.map es clock) ∧ ∀ e ∈ es.toList, ∃ k f t : Nat, e.key = spanV k f t ∧ e.val = .int .i64 (cntS g k f t)

theorem held_span : Tryz.prog.stoodInHeld 160 = false := by kernel_rfl

theorem eq_span (k f t k' f' t' : Nat) (w : World) : (Op.equal 160 (spanV k f t) (spanV k' f' t')).run Tryz.prog w = .ok (decide (k = k' ∧ f = f' ∧ t = t')) w := by
  have hd : decide (k = k' ∧ f = f' ∧ t = t') = (((k : Int) == k') && (((f : Int) == f') && ((t : Int) == t'))) := by
    rw [Bool.eq_iff_iff]; simp; omega
  rw [hd]
  unfold Op.equal Op.maxDepth spanV
  rw [run_equalIn_struct w 9999 _ _ _ (by simp [go_sem, Tryz.underlying160]) held_span]
  cases h1 : ((k : Int) == k') <;> cases h2 : ((f : Int) == f') <;> cases h3 : ((t : Int) == t') <;>
  simp [go_sem, Tryz.underlying160, Tryz.underlying5, Tryz.underlying3, part, isAgg, run_underlying, h1, h2, h3]
theorem check_span' (d : Nat) (b : Bool) (k f t : Nat) (w : World) : (Instr.checkKey b (d + 2) 160 (spanV k f t)).run Tryz.prog w = .ok () w := by
  unfold spanV
  simp [Instr.checkKey, go_sem, Tryz.underlying160, Tryz.underlying5, Tryz.underlying3, part, isAgg, run_underlying]
theorem check_span (b : Bool) (k f t : Nat) (w : World) : (Instr.checkKey b 10000 160 (spanV k f t)).run Tryz.prog w = .ok () w := check_span' 9998 b k f t w

theorem spanV_inj {k f t k' f' t' : Nat} : spanV k f t = spanV k' f' t' ↔ k = k' ∧ f = f' ∧ t = t' := by
  unfold spanV; simp; omega

theorem find_span (g : Gr) (k f t : Nat) (w : World) : ∀ (es : List MapEntry) (i : Nat), (∀ e ∈ es, ∃ k f t : Nat, e.key = spanV k f t ∧ e.val = .int .i64 (cntS g k f t)) →
    ((Instr.findAsking 160 (spanV k f t) es i).run Tryz.prog w = .ok none w ∧ ∀ e ∈ es, e.key ≠ spanV k f t) ∨
    (∃ j e, es[j]? = some e ∧ e.key = spanV k f t ∧ (Instr.findAsking 160 (spanV k f t) es i).run Tryz.prog w = .ok (some (i + j, .int .i64 (cntS g k f t))) w)
  | [], i, _ => .inl ⟨by simp [Instr.findAsking], by simp⟩
  | e :: es, i, h => by
    obtain ⟨k', f', t', hk, hv⟩ := h e (by simp)
    have he := eq_span k f t k' f' t' w
    by_cases hq : k = k' ∧ f = f' ∧ t = t'
    · obtain ⟨rfl, rfl, rfl⟩ := hq
      refine .inr ⟨0, e, rfl, hk, ?_⟩
      simp only [Instr.findAsking, Sem.run_bind, hk, he, Result.andThen_ok]
      simp [hv]
    · rcases find_span g k f t w es (i + 1) (fun e he => h e (by simp [he])) with ⟨h1, h2⟩ | ⟨j, e', h1, h2, h3⟩
      · refine .inl ⟨?_, ?_⟩
        · simp only [Instr.findAsking, Sem.run_bind, hk, he, Result.andThen_ok]
          simp [hq, h1]
        · intro x hx
          rcases List.mem_cons.1 hx with rfl | hx
          · rw [hk]; intro e; exact hq (by have := spanV_inj.1 e; omega)
          · exact h2 x hx
      · refine .inr ⟨j + 1, e', by simpa using h1, h2, ?_⟩
        simp only [Instr.findAsking, Sem.run_bind, hk, he, Result.andThen_ok]
        simp [hq, h3]; omega

theorem findNow_span (k f t : Nat) (d : Array Field) (e : MapEntry) (es : List MapEntry) (i : Nat) (k' f' t' : Nat) (h : e.key = spanV k' f' t') : Instr.findNow (.struct d) (spanV k f t) (e :: es) i = none := by
  unfold Instr.findNow
  rw [h]
  rfl
theorem findKey_span (g : Gr) (k f t : Nat) (w : World) (es : List MapEntry) (h : ∀ e ∈ es, ∃ k f t : Nat, e.key = spanV k f t ∧ e.val = .int .i64 (cntS g k f t)) :
    ((Instr.findKey 160 (spanV k f t) es).run Tryz.prog w = .ok none w ∧ ∀ e ∈ es, e.key ≠ spanV k f t) ∨
    (∃ j e, es[j]? = some e ∧ e.key = spanV k f t ∧ (Instr.findKey 160 (spanV k f t) es).run Tryz.prog w = .ok (some (j, .int .i64 (cntS g k f t))) w) := by
  cases es with
  | nil => exact .inl ⟨by simp [Instr.findKey, Instr.findNow, run_underlying Tryz.underlying160], by simp⟩
  | cons e es =>
    obtain ⟨k', f', t', hk, _⟩ := h e (by simp)
    have hr : ∀ r, (Instr.findAsking 160 (spanV k f t) (e :: es)).run Tryz.prog w = r → (Instr.findKey 160 (spanV k f t) (e :: es)).run Tryz.prog w = r := fun r hr => by
      simp only [Instr.findKey, Sem.run_bind, run_underlying Tryz.underlying160, Result.andThen_ok, findNow_span k f t _ e es 0 k' f' t' hk]
      exact hr
    rcases find_span g k f t w (e :: es) 0 h with ⟨h1, h2⟩ | ⟨j, e', h1, h2, h3⟩
    · exact .inl ⟨hr _ h1, h2⟩
    · exact .inr ⟨j, e', h1, h2, by have := hr _ h3; simpa using this⟩

/-- The look-up. -/
theorem look_span (g : Gr) (k f t m : Nat) (w : World) (h : MapG g w.heap[m]?) :
    (Instr.lookup 86 (.map (some m)) (spanV k f t) true).run Tryz.prog w = .ok (.tuple #[.int .i64 (cntS g k f t), .bool true]) w ∨
    (Instr.lookup 86 (.map (some m)) (spanV k f t) true).run Tryz.prog w = .ok (.tuple #[.int .i64 0, .bool false]) w := by
  obtain ⟨es, clock, hb, hes⟩ := h
  have hz : (zeroValue 3).run Tryz.prog w = .ok (.int .i64 0) w := by kernel_rfl
  rcases findKey_span g k f t w es.toList hes with ⟨h1, _⟩ | ⟨j, e, _, _, h1⟩
  · right
    simp [Instr.lookup, run_underlying Tryz.underlying86, MapKept.run_getObj_map hb, check_span, h1, hz, Result.andThen]
  · left
    simp [Instr.lookup, run_underlying Tryz.underlying86, MapKept.run_getObj_map hb, check_span, h1, Result.andThen]
/-- Found or not, wherever the map's block is as it is. -/
theorem look_same (g : Gr) (k f t m : Nat) (o : Option Obj) (h : MapG g o) :
    (∀ w : World, w.heap[m]? = o → (Instr.lookup 86 (.map (some m)) (spanV k f t) true).run Tryz.prog w = .ok (.tuple #[.int .i64 (cntS g k f t), .bool true]) w) ∨
    (∀ w : World, w.heap[m]? = o → (Instr.lookup 86 (.map (some m)) (spanV k f t) true).run Tryz.prog w = .ok (.tuple #[.int .i64 0, .bool false]) w) := by
  obtain ⟨es, clock, rfl, hes⟩ := h
  have hz : ∀ w, (zeroValue 3).run Tryz.prog w = .ok (.int .i64 0) w := fun w => by kernel_rfl
  by_cases hk : ∃ e ∈ es.toList, e.key = spanV k f t
  · left
    intro w hb
    rcases findKey_span g k f t w es.toList hes with ⟨h1, h2⟩ | ⟨j, e, _, _, h1⟩
    · obtain ⟨e, he, hek⟩ := hk
      exact absurd hek (h2 e he)
    · simp [Instr.lookup, run_underlying Tryz.underlying86, MapKept.run_getObj_map hb, check_span, h1, Result.andThen]
  · right
    intro w hb
    rcases findKey_span g k f t w es.toList hes with ⟨h1, _⟩ | ⟨j, e, h0, h2, _⟩
    · simp [Instr.lookup, run_underlying Tryz.underlying86, MapKept.run_getObj_map hb, check_span, h1, hz, Result.andThen]
    · exact absurd ⟨e, List.mem_of_getElem? h0, h2⟩ hk
theorem sameBits_span (d k f t : Nat) : Instr.sameBits (d + 1) (spanV k f t) (spanV k f t) = true := by
  unfold spanV
  simp [Instr.sameBits]
/-- The store. -/
theorem store_span (g : Gr) (k f t m : Nat) (w : World) (h : MapG g w.heap[m]?) :
    ∃ w', (Instr.mapUpdate 86 (.map (some m)) (spanV k f t) (.int .i64 (cntS g k f t))).run Tryz.prog w = .ok () w' ∧ w.grownBy w' (some m) ∧ w'.heap.size = w.heap.size ∧ MapG g w'.heap[m]? := by
  obtain ⟨es, clock, hb, hes⟩ := h
  have hlt := (Array.getElem?_eq_some_iff.1 hb).1
  have hput : ∀ o, (setObj m o).run Tryz.prog w = .ok () (w.putObj m o) := fun o => by rw [MapKept.run_setObj_map o hb]; rfl
  rcases findKey_span g k f t w es.toList hes with ⟨h1, _⟩ | ⟨j, e, h0, hk, h1⟩
  · refine ⟨w.putObj m (.map (es.push { key := spanV k f t, val := .int .i64 (cntS g k f t), born := clock }) (clock + 1)), ?_, grownBy_putObj' _ _ _, by simp, _, _, World.putObj_heap_same hlt, ?_⟩
    · simp [Instr.mapUpdate, run_underlying Tryz.underlying86, MapKept.run_getObj_map hb, check_span, h1, Result.andThen, hput]
    · intro e he
      simp only [Array.toList_push, List.mem_append, List.mem_singleton] at he
      rcases he with he | rfl
      · exact hes e he
      · exact ⟨k, f, t, rfl, rfl⟩
  · have hj : (es[j]?) = some e := by simpa using h0
    refine ⟨w.putObj m (.map (es.modify j fun e => { e with key := spanV k f t, val := .int .i64 (cntS g k f t) }) clock), ?_, grownBy_putObj' _ _ _, by simp, _, _, World.putObj_heap_same hlt, ?_⟩
    · have hs : (Instr.keyThatStays (spanV k f t) (spanV k f t)).run Tryz.prog w = .ok (spanV k f t) w := by
        unfold Instr.keyThatStays; rw [sameBits_span 9999]; simp
      simp [Instr.mapUpdate, run_underlying Tryz.underlying86, MapKept.run_getObj_map hb, check_span, h1, Result.andThen, hput, hj, hk, hs]
    · intro e' he
      obtain ⟨i, hi, rfl⟩ := List.getElem_of_mem he
      simp only [Array.toList_modify, List.getElem_modify, Array.getElem_toList] at hi ⊢
      split
      · exact ⟨k, f, t, rfl, rfl⟩
      · rename_i hne
        exact hes _ (by simp)
end Go.Proofs.YthmnffgjckpkiaaGreatDoor
