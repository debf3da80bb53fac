/-
  Contracts of 'Example' and 'many' of the laws of chapter 34, and 'awake'.
-/
import Derived.Test.YthmnffgjckpkiaaGreatDoorSentence
import Derived.Test.YthmnffgjckpkiaaGreatDoorSame34
namespace Go.Proofs.YthmnffgjckpkiaaGreatDoor
open Go Go.RowKit Go.Shelf

/-- The lexicon of the examples. -/
def exL : List Ent := [
  ⟨⟨#[65, 110, 110]⟩, 3, ⟨#[97, 110, 110]⟩⟩,
  ⟨⟨#[66, 111, 98]⟩, 3, ⟨#[98, 111, 98]⟩⟩,
  ⟨⟨#[98, 111, 111, 107]⟩, 1, ⟨#[66, 111, 111, 107]⟩⟩,
  ⟨⟨#[104, 97, 112, 112, 121]⟩, 2, ⟨#[72, 97, 112, 112, 121]⟩⟩,
  ⟨⟨#[107, 110, 111, 119]⟩, 5, ⟨#[75, 110, 111, 119, 115]⟩⟩,
  ⟨⟨#[111, 119, 108]⟩, 1, ⟨#[79, 119, 108]⟩⟩,
  ⟨⟨#[115, 108, 101, 101, 112]⟩, 4, ⟨#[83, 108, 101, 101, 112, 115]⟩⟩,
  ⟨⟨#[115, 116, 117, 100, 101, 110, 116]⟩, 1, ⟨#[83, 116, 117, 100, 101, 110, 116]⟩⟩]
def entCells34 (e : Ent) : List Value := [.string e.word, .int .u8 e.cat, .string e.sym]
theorem flat34 (l : List Ent) : ∀ j (h : j < l.length), (l.flatMap entCells34)[j * 3]? = some (.string l[j].word) ∧ (l.flatMap entCells34)[j * 3 + 1]? = some (.int .u8 l[j].cat) ∧ (l.flatMap entCells34)[j * 3 + 2]? = some (.string l[j].sym) := by
  induction l with
  | nil => intro j h; simp at h
  | cons f fs ih =>
    intro j h
    cases j with
    | zero => simp [entCells34]
    | succ j =>
      have := ih j (by simpa using h)
      simp only [List.flatMap_cons, entCells34, List.cons_append, List.nil_append]
      rw [show (j + 1) * 3 = j * 3 + 1 + 1 + 1 by omega, show j * 3 + 1 + 1 + 1 + 1 = (j * 3 + 1) + 1 + 1 + 1 by omega, show j * 3 + 1 + 1 + 1 + 2 = (j * 3 + 2) + 1 + 1 + 1 by omega]
      simpa using this
theorem entSlice_row34 {w : World} {g cap : Nat} {cs : Array Value} {t : TypeId} {fr : Nat × Nat} {l : List Ent} (hb : w.heap[g]? = some (.cells cs t fr)) (hcs : cs.toList = l.flatMap entCells34) (hn : l.length ≤ cap) (hc : cap ≤ maxLen) (hok : ∀ e ∈ l, e.ok) : EntSlice w (.slice (some ⟨g, 0, none⟩) l.length cap) l := by
  refine ⟨⟨_, cap, rfl, hn, hc, .inr ⟨g, 0, rfl, (Array.getElem?_eq_some_iff.1 hb).1, fun j hj => ?_⟩⟩, hok⟩
  have one : ∀ k v, (l.flatMap entCells34)[k]? = some v → w.cell? ⟨g, k, none⟩ = some v := fun k v h => by
    rw [cell_of_row w g k cs t fr hb, ← Array.getElem?_toList, hcs]
    exact h
  obtain ⟨h0, h1, h2⟩ := flat34 l j hj
  rw [Nat.zero_add]
  exact ⟨one _ _ h0, one _ _ h1, one _ _ h2⟩
theorem exL_ok : ∀ e ∈ exL, e.ok := by
  simp [exL, Ent.ok, maxLen]; decide

set_option maxRecDepth 100000 in
set_option maxHeartbeats 2000000 in
theorem Example34_any (w : World) :
    Calls Tryz.prog 24 #[] w fun r w' => ∃ v, r = .returned v ∧ EntSlice w' v exL ∧ Below w.heap.size w w' := by
  go_enter Tryz.func24, Tryz.ntmps24
  go_wp2
  go_ret
  exact ⟨_, rfl, entSlice_row34 (l := exL) (cap := 8) (heap_alloc_new _ _) rfl (by decide) (by decide) exL_ok, (Below.refl _ _).alloc (Nat.le_refl _) _⟩

/-- How many parses a text has with the lexicon of the examples; -1 with an error. -/
def manyS (s : List UInt8) : Int := if (sentenceS exL s).2.2 = 6 then 0 else if (sentenceS exL s).2.2 ≠ 0 then -1 else (sentenceS exL s).1.length
theorem many_any (W0 w : World) (ht : Tabs W0 w) (s : ByteArray) (hs : s.size ≤ 1000) :
    Calls Tryz.prog 39 #[.string s] w fun r w' => r = .returned (.int .i64 (manyS s.data.toList)) ∧ Below w.heap.size w w' := by
  have HS := Lib.hid (fun (w' : World) (hb : Below w.heap.size w w') (v : Value) (hl : EntSlice w' v exL) => Sentence_any W0 w' (ht.next hb) v exL hl s hs)
  have hM : manyS s.data.toList = if (sentenceS exL s.data.toList).2.2 = 6 then 0 else if (sentenceS exL s.data.toList).2.2 ≠ 0 then -1 else ((sentenceS exL s.data.toList).1.length : Int) := rfl
  obtain ⟨X, hX⟩ : ∃ X, X = sentenceS exL s.data.toList := ⟨_, rfl⟩
  rw [← hX] at HS hM
  obtain ⟨ts, pl, er⟩ := X
  obtain ⟨M, hMd⟩ : ∃ M, M = manyS s.data.toList := ⟨_, rfl⟩
  rw [← hMd] at hM ⊢
  have HM := Lib.hid hM
  have HT := Lib.hid (Example34_any w)
  clear hX hMd hM hs ht
  by_cases h6 : er = 6
  · subst h6
    go_enter Tryz.func39, Tryz.ntmps39
    go_wp2_with (first
      | (go_at_call 24; refine HT.out.mono ?_; rintro r w1 ⟨v, rfl, hl, hb1⟩)
      | (go_at_call 15; refine (HS.out _ hb1 _ hl).mono ?_; rintro r w2 ⟨rv, rfl, hb2, hF⟩))
    go_ret
    exact ⟨by rw [HM.out]; rfl, hb1.trans (hb2.mono hb1.size)⟩
  · have d6 : (er == 6) = false := by simpa using h6
    by_cases h0 : er = 0
    · subst h0
      clear h6
      go_enter Tryz.func39, Tryz.ntmps39
      go_wp2_with (first
        | (go_at_call 24; refine HT.out.mono ?_; rintro r w1 ⟨v, rfl, hl, hb1⟩)
        | (go_at_call 15; refine (HS.out _ hb1 _ hl).mono ?_; rintro r w2 ⟨rv, rfl, hb2, hF⟩; obtain ⟨ra, rc, hrv⟩ : ∃ ra rc, rv = .slice ra ts.length rc := (by obtain ⟨_, _, _, _, hown, _⟩ := hF; exact owns_form hown); subst hrv))
      go_ret
      exact ⟨by rw [HM.out]; rfl, hb1.trans (hb2.mono hb1.size)⟩
    · have d0 : (er != 0) = true := by simpa using h0
      have H := Lib.hid (And.intro h6 h0)
      clear h6 h0
      go_enter Tryz.func39, Tryz.ntmps39
      go_wp2_with (first
        | (go_at_call 24; refine HT.out.mono ?_; rintro r w1 ⟨v, rfl, hl, hb1⟩)
        | (go_at_call 15; refine (HS.out _ hb1 _ hl).mono ?_; rintro r w2 ⟨rv, rfl, hb2, hF⟩))
      go_ret
      refine ⟨?_, hb1.trans (hb2.mono hb1.size)⟩
      rw [HM.out]
      simp only
      rw [if_neg H.out.1, if_pos H.out.2]
      rfl

/-- The seven sentences. -/
def sen0 : List UInt8 := [69, 118, 101, 114, 121, 32, 115, 116, 117, 100, 101, 110, 116, 32, 107, 110, 111, 119, 115, 32, 97, 32, 98, 111, 111, 107, 46]
def wantT : Tr := .node 5 0 [] [.node 7 0 wEvery [.node 8 7 [] []], .node 13 4 [] [.node 7 0 wA [.node 8 2 [] []]]]
def eqSent (x : List Tr × Int × Int) (t : Tr) : Bool := x.2.1 == 0 && x.2.2 == 0 && (match x.1 with | [a] => eqT a t | _ => false)
set_option maxRecDepth 100000 in
theorem sen0_is : eqSent (sentenceS exL sen0) wantT = true := by decide +kernel
theorem sen0_eq : sentenceS exL sen0 = ([wantT], 0, 0) := by
  have h := sen0_is
  unfold eqSent at h
  generalize sentenceS exL sen0 = X at h ⊢
  obtain ⟨ts, pl, er⟩ := X
  simp only [Bool.and_eq_true, beq_iff_eq] at h
  obtain ⟨⟨rfl, rfl⟩, h⟩ := h
  split at h
  · rename_i a; rw [(eqT_iff _ _).1 h]
  · cases h
def sen1 : List UInt8 := [65, 110, 110, 32, 107, 110, 111, 119, 115, 32, 97, 32, 115, 116, 117, 100, 101, 110, 116, 32, 119, 104, 111, 32, 115, 108, 101, 101, 112, 115, 32, 97, 110, 100, 32, 107, 110, 111, 119, 115, 32, 66, 111, 98, 46]
set_option maxRecDepth 100000 in
theorem many1 : manyS sen1 = 2 := by decide +kernel
def sen2 : List UInt8 := [73, 102, 32, 65, 110, 110, 32, 115, 108, 101, 101, 112, 115, 32, 116, 104, 101, 110, 32, 66, 111, 98, 32, 115, 108, 101, 101, 112, 115, 32, 97, 110, 100, 32, 65, 110, 110, 32, 107, 110, 111, 119, 115, 32, 66, 111, 98, 46]
set_option maxRecDepth 100000 in
theorem many2 : manyS sen2 = 2 := by decide +kernel
def sen3 : List UInt8 := [65, 110, 110, 32, 107, 110, 111, 119, 32, 66, 111, 98, 46]
set_option maxRecDepth 100000 in
theorem many3 : manyS sen3 = 0 := by decide +kernel
def sen4 : List UInt8 := [65, 110, 110, 32, 100, 111, 101, 115, 32, 110, 111, 116, 32, 115, 108, 101, 101, 112, 115, 46]
set_option maxRecDepth 100000 in
theorem many4 : manyS sen4 = 0 := by decide +kernel
def sen5 : List UInt8 := [65, 110, 110, 32, 107, 110, 111, 119, 115, 32, 97, 110, 32, 98, 111, 111, 107, 46]
set_option maxRecDepth 100000 in
theorem many5 : manyS sen5 = 0 := by decide +kernel
def sen6 : List UInt8 := [65, 110, 110, 32, 100, 111, 101, 115, 32, 110, 111, 116, 32, 115, 108, 101, 101, 112, 46]
set_option maxRecDepth 100000 in
theorem many6 : manyS sen6 = 1 := by decide +kernel

theorem forG_one {B0 : Nat} {a : Option Addr} {cap : Nat} {t : Tr} {W : World} (h : ForG B0 (.slice a 1 cap) [t] 1 W) : ∃ g q, a = some ⟨g, 0, none⟩ ∧ TreeV (fun _ => True) W (TV.val q) t ∧ W.cell? ⟨g, 0, none⟩ = some (.int .u8 q.r) ∧ W.cell? ⟨g, 1, none⟩ = some (.int .i64 q.e) ∧ W.cell? ⟨g, 2, none⟩ = some (.string q.w) ∧ W.cell? ⟨g, 3, none⟩ = some (.slice q.a q.n q.c) := by
  obtain ⟨qs, L, H, hk, hown, ht, _⟩ := h
  obtain ⟨q, rfl⟩ : ∃ q, qs = [q] := List.length_eq_one_iff.1 hk
  rcases hown.2 with ⟨_, h0⟩ | ⟨g, cap', cur, he, _⟩
  · cases h0
  · cases he
    obtain ⟨x0, x1, x2, x3, hx, c0, c1, c2, c3⟩ := owns_cells hown 0 (by simp)
    simp only [List.getElem_cons_zero] at hx
    unfold TV.val at hx
    simp only [Value.agg.injEq, Array.mk.injEq, List.cons.injEq, and_true] at hx
    obtain ⟨rfl, rfl, rfl, rfl⟩ := hx
    exact ⟨g, q, rfl, (ht 0 (by simp) (by simp)).treeV.move (fun b _ _ => ⟨trivial, rfl⟩), c0, c1, c2, c3⟩

theorem tree_leaf {ok : Nat → Prop} {W : World} (r e : Int) (w : List UInt8) (bs : Array UInt8) (hw : w.toArray = bs) : TreeV ok W (.agg #[.int .u8 r, .int .i64 e, .string ⟨bs⟩, .slice none 0 0]) (.node r e w []) := by
  subst hw
  exact TreeV.mk r e w [] none 0 (fun _ => .agg #[]) (.inl rfl) (fun j hj => by simp at hj)
theorem tree_one {ok : Nat → Prop} {W : World} {b : Nat} {T : TypeId} {x : Tr} (q : TV) (hb : W.heap[b]? = some (.cells #[.int .u8 q.r, .int .i64 q.e, .string q.w, .slice q.a q.n q.c] T (0, 0))) (hok : ok b) (hx : TreeV ok W q.val x) (r e : Int) (w : List UInt8) (bs : Array UInt8) (hw : w.toArray = bs) :
    TreeV ok W (.agg #[.int .u8 r, .int .i64 e, .string ⟨bs⟩, .slice (some ⟨b, 0, none⟩) 1 1]) (.node r e w [x]) := by
  subst hw
  refine TreeV.mk r e w [x] (some ⟨b, 0, none⟩) 1 (fun _ => q.val) (.inr ⟨b, 0, rfl, hok, fun j hj => ?_⟩) (fun j hj => ?_)
  · obtain rfl : j = 0 := by simp at hj; omega
    exact ⟨_, _, _, _, rfl, (cell_rowC hb 0).trans rfl, (cell_rowC hb 1).trans rfl, (cell_rowC hb 2).trans rfl, (cell_rowC hb 3).trans rfl⟩
  · obtain rfl : j = 0 := by simp at hj; omega
    exact hx
theorem tree_two {ok : Nat → Prop} {W : World} {b : Nat} {T : TypeId} {x y : Tr} (q p : TV) (hb : W.heap[b]? = some (.cells #[.int .u8 q.r, .int .i64 q.e, .string q.w, .slice q.a q.n q.c, .int .u8 p.r, .int .i64 p.e, .string p.w, .slice p.a p.n p.c] T (0, 0))) (hok : ok b) (hx : TreeV ok W q.val x) (hy : TreeV ok W p.val y) (r e : Int) (w : List UInt8) (bs : Array UInt8) (hw : w.toArray = bs) :
    TreeV ok W (.agg #[.int .u8 r, .int .i64 e, .string ⟨bs⟩, .slice (some ⟨b, 0, none⟩) 2 2]) (.node r e w [x, y]) := by
  subst hw
  refine TreeV.mk r e w [x, y] (some ⟨b, 0, none⟩) 2 (fun j => if j = 0 then q.val else p.val) (.inr ⟨b, 0, rfl, hok, fun j hj => ?_⟩) (fun j hj => ?_)
  · rcases j with _ | _ | j
    · exact ⟨_, _, _, _, rfl, (cell_rowC hb 0).trans rfl, (cell_rowC hb 1).trans rfl, (cell_rowC hb 2).trans rfl, (cell_rowC hb 3).trans rfl⟩
    · exact ⟨_, _, _, _, rfl, (cell_rowC hb 4).trans rfl, (cell_rowC hb 5).trans rfl, (cell_rowC hb 6).trans rfl, (cell_rowC hb 7).trans rfl⟩
    · simp at hj; omega
  · rcases j with _ | _ | j
    · exact hx
    · exact hy
    · simp at hj; omega
theorem want_slim : Slim wantT := by
  refine slim_node2 _ _ _ _ _ (slim_node1 _ _ _ _ (slim_node0 _ _ _)) (slim_node1 _ _ _ _ (slim_node1 _ _ _ _ (slim_node0 _ _ _)))

set_option maxRecDepth 100000 in
set_option maxHeartbeats 4000000 in
/-- **awake holds.** -/
theorem awake34_any (W0 w : World) (ht : Tabs W0 w) : Calls Tryz.prog 14 #[] w fun e w' => e = .returned (.bool true) ∧ Below w.heap.size w w' := by
  have HT := Lib.hid ht
  have HX := Lib.hid (Example34_any w)
  have HS := Lib.hid (fun (w' : World) (hb : Below w.heap.size w w') (v : Value) (hl : EntSlice w' v exL) => by
    have := Sentence_any W0 w' (ht.next hb) v exL hl ⟨sen0.toArray⟩ (by decide)
    rw [show (⟨sen0.toArray⟩ : ByteArray).data.toList = sen0 from rfl, sen0_eq] at this
    exact this)
  clear ht
  go_enter Tryz.func14, Tryz.ntmps14
  go_wp2_with (first
    | (go_at_call 24; refine HX.out.mono ?_; rintro r w1 ⟨v, rfl, hl, hb1⟩)
    | (go_at_call 15; refine (HS.out _ hb1 _ hl).mono ?_; rintro r w2 ⟨rv, rfl, hb2, hF⟩; obtain ⟨ra, rc, hrv⟩ : ∃ ra rc, rv = .slice ra 1 rc := (by obtain ⟨_, _, _, _, hown, _⟩ := hF; exact owns_form hown); subst hrv; obtain ⟨g, q, rfl, htv, c0, c1, c2, c3⟩ := forG_one hF; have HTv := Lib.hid htv; have HB2 := Lib.hid (hb1.trans (hb2.mono hb1.size)); have hglt := cell_lt c0; simp only at hglt; clear hF htv hb1 hb2 hl))
  obtain ⟨B, hB⟩ : ∃ B, B = w2.heap.size := ⟨_, rfl⟩
  obtain ⟨W5, hW5⟩ : ∃ W5, W5 = (((((w2.alloc (.cells #[.int .u8 q.r, .int .i64 q.e, .string q.w, .slice q.a q.n q.c] 36)).alloc (.cells #[.int .u8 8, .int .i64 7, .string ⟨#[]⟩, .slice none 0 0] 36)).alloc (.cells #[.int .u8 8, .int .i64 2, .string ⟨#[]⟩, .slice none 0 0] 36)).alloc (.cells #[.int .u8 7, .int .i64 0, .string ⟨#[97]⟩, .slice (some ⟨w2.heap.size + 1 + 1, 0, none⟩) 1 1] 36)).alloc (.cells #[.int .u8 7, .int .i64 0, .string ⟨#[101, 118, 101, 114, 121]⟩, .slice (some ⟨w2.heap.size + 1, 0, none⟩) 1 1, .int .u8 13, .int .i64 4, .string ⟨#[]⟩, .slice (some ⟨w2.heap.size + 1 + 1 + 1, 0, none⟩) 1 1] 36)).alloc (.cells #[.int .u8 5, .int .i64 0, .string ⟨#[]⟩, .slice (some ⟨w2.heap.size + 1 + 1 + 1 + 1, 0, none⟩) 2 2] 36) := ⟨_, rfl⟩
  have hb5 : Below w2.heap.size w2 W5 := by rw [hW5]; exact ((((((Below.refl _ _).alloc (by first | (simp; done) | (simp; omega)) _).alloc (by first | (simp; done) | (simp; omega)) _).alloc (by first | (simp; done) | (simp; omega)) _).alloc (by first | (simp; done) | (simp; omega)) _).alloc (by first | (simp; done) | (simp; omega)) _).alloc (by first | (simp; done) | (simp; omega)) _
  have top : ∀ {w : World} {o : Obj} {k : Nat}, k = w.heap.size → (w.alloc o).heap[k]? = some o := fun h => heap_atC h
  have bel : ∀ {w : World} {o x : Obj} {k : Nat}, w.heap[k]? = some x → (w.alloc o).heap[k]? = some x := fun h => (Below.heap_alloc _ _ _ (Array.getElem?_eq_some_iff.1 h).1).trans h
  have a1 : W5.heap[w2.heap.size + 1]? = some (.cells #[.int .u8 8, .int .i64 7, .string ⟨#[]⟩, .slice none 0 0] 36 (0, 0)) := by rw [hW5]; exact bel (bel (bel (bel (top (by simp)))))
  have a2 : W5.heap[w2.heap.size + 1 + 1]? = some (.cells #[.int .u8 8, .int .i64 2, .string ⟨#[]⟩, .slice none 0 0] 36 (0, 0)) := by rw [hW5]; exact bel (bel (bel (top (by simp))))
  have a3 : W5.heap[w2.heap.size + 1 + 1 + 1]? = some (.cells #[.int .u8 7, .int .i64 0, .string ⟨#[97]⟩, .slice (some ⟨w2.heap.size + 1 + 1, 0, none⟩) 1 1] 36 (0, 0)) := by rw [hW5]; exact bel (bel (top (by simp)))
  have a4 : W5.heap[w2.heap.size + 1 + 1 + 1 + 1]? = some (.cells #[.int .u8 7, .int .i64 0, .string ⟨#[101, 118, 101, 114, 121]⟩, .slice (some ⟨w2.heap.size + 1, 0, none⟩) 1 1, .int .u8 13, .int .i64 4, .string ⟨#[]⟩, .slice (some ⟨w2.heap.size + 1 + 1 + 1, 0, none⟩) 1 1] 36 (0, 0)) := by rw [hW5]; exact bel (top (by simp))
  have hw : TreeV (fun _ => True) W5 (.agg #[.int .u8 5, .int .i64 0, .string ⟨#[]⟩, .slice (some ⟨w2.heap.size + 1 + 1 + 1 + 1, 0, none⟩) 2 2]) wantT :=
    tree_two ⟨7, 0, ⟨#[101, 118, 101, 114, 121]⟩, some ⟨w2.heap.size + 1, 0, none⟩, 1, 1⟩ ⟨13, 4, ⟨#[]⟩, some ⟨w2.heap.size + 1 + 1 + 1, 0, none⟩, 1, 1⟩ a4 trivial
      (tree_one ⟨8, 7, ⟨#[]⟩, none, 0, 0⟩ a1 trivial (tree_leaf 8 7 [] _ rfl) 7 0 wEvery _ rfl)
      (tree_one ⟨7, 0, ⟨#[97]⟩, some ⟨w2.heap.size + 1 + 1, 0, none⟩, 1, 1⟩ a3 trivial (tree_one ⟨8, 2, ⟨#[]⟩, none, 0, 0⟩ a2 trivial (tree_leaf 8 2 [] _ rfl) 7 0 wA _ rfl) 13 4 [] _ rfl) 5 0 [] _ rfl
  rw [← hW5]
  have ht5 := TreeV.move (W := w2) (W' := W5) (ok' := fun _ => True) (fun b _ h => ⟨trivial, by obtain ⟨_, _, h⟩ := h; exact hb5.block b (cell_lt h)⟩) HTv.out
  have hsame := Same34_any wantT want_slim wantT W5 _ _ ht5 hw
  rw [eqT_refl] at hsame
  unfold TV.val at hsame
  have HSame := Lib.hid hsame
  have HC5 := Lib.hid (HB2.out.trans (hb5.mono HB2.out.size))
  have HM1 := Lib.hid (fun (w' : World) (hb : Below w.heap.size w w') => by
    have := many_any W0 w' (HT.out.next hb) ⟨sen1.toArray⟩ (by decide)
    rw [show (⟨sen1.toArray⟩ : ByteArray).data.toList = sen1 from rfl, many1] at this
    exact this)
  have HM2 := Lib.hid (fun (w' : World) (hb : Below w.heap.size w w') => by
    have := many_any W0 w' (HT.out.next hb) ⟨sen2.toArray⟩ (by decide)
    rw [show (⟨sen2.toArray⟩ : ByteArray).data.toList = sen2 from rfl, many2] at this
    exact this)
  have HM3 := Lib.hid (fun (w' : World) (hb : Below w.heap.size w w') => by
    have := many_any W0 w' (HT.out.next hb) ⟨sen3.toArray⟩ (by decide)
    rw [show (⟨sen3.toArray⟩ : ByteArray).data.toList = sen3 from rfl, many3] at this
    exact this)
  have HM4 := Lib.hid (fun (w' : World) (hb : Below w.heap.size w w') => by
    have := many_any W0 w' (HT.out.next hb) ⟨sen4.toArray⟩ (by decide)
    rw [show (⟨sen4.toArray⟩ : ByteArray).data.toList = sen4 from rfl, many4] at this
    exact this)
  have HM5 := Lib.hid (fun (w' : World) (hb : Below w.heap.size w w') => by
    have := many_any W0 w' (HT.out.next hb) ⟨sen5.toArray⟩ (by decide)
    rw [show (⟨sen5.toArray⟩ : ByteArray).data.toList = sen5 from rfl, many5] at this
    exact this)
  have HM6 := Lib.hid (fun (w' : World) (hb : Below w.heap.size w w') => by
    have := many_any W0 w' (HT.out.next hb) ⟨sen6.toArray⟩ (by decide)
    rw [show (⟨sen6.toArray⟩ : ByteArray).data.toList = sen6 from rfl, many6] at this
    exact this)
  clear hW5 hb5 top bel a1 a2 a3 a4 hw ht5 hsame c0 c1 c2 c3 hglt HX HS hB
  refine HSame.out.mono ?_
  rintro _ w6 ⟨rfl, hb6⟩
  have HC0 := Lib.hid (HC5.out.trans (hb6.mono HC5.out.size))
  clear hb6
  go_wp2_with fail
  refine (HM1.out w6 HC0.out).mono ?_
  rintro _ w7 ⟨rfl, hbm1⟩
  have HC1 := Lib.hid (HC0.out.trans (hbm1.mono HC0.out.size))
  clear hbm1
  go_wp2_with fail
  refine (HM2.out w7 HC1.out).mono ?_
  rintro _ w8 ⟨rfl, hbm2⟩
  have HC2 := Lib.hid (HC1.out.trans (hbm2.mono HC1.out.size))
  clear hbm2
  go_wp2_with fail
  refine (HM3.out w8 HC2.out).mono ?_
  rintro _ w9 ⟨rfl, hbm3⟩
  have HC3 := Lib.hid (HC2.out.trans (hbm3.mono HC2.out.size))
  clear hbm3
  go_wp2_with fail
  refine (HM4.out w9 HC3.out).mono ?_
  rintro _ w10 ⟨rfl, hbm4⟩
  have HC4 := Lib.hid (HC3.out.trans (hbm4.mono HC3.out.size))
  clear hbm4
  go_wp2_with fail
  refine (HM5.out w10 HC4.out).mono ?_
  rintro _ w11 ⟨rfl, hbm5⟩
  have HC5 := Lib.hid (HC4.out.trans (hbm5.mono HC4.out.size))
  clear hbm5
  go_wp2_with fail
  refine (HM6.out w11 HC5.out).mono ?_
  rintro _ w12 ⟨rfl, hbm6⟩
  have HC6 := Lib.hid (HC5.out.trans (hbm6.mono HC5.out.size))
  clear hbm6
  go_wp2
  go_ret
  exact ⟨rfl, HC6.out⟩
end Go.Proofs.YthmnffgjckpkiaaGreatDoor
