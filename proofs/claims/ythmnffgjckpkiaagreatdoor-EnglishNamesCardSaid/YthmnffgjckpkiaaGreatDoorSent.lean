/-
  Contracts of 'sentence', 'Count', 'Parses' and 'Sentence' of package english.
-/
import Derived.Test.YthmnffgjckpkiaaGreatDoorBegin
import Derived.Test.YthmnffgjckpkiaaGreatDoorTrees
import Derived.Test.YthmnffgjckpkiaaGreatDoorCopy
namespace Go.Proofs.YthmnffgjckpkiaaGreatDoor
open Go Go.RowKit Go.Shelf

theorem sentence_any {m gb : Nat} {g : Gr} {ended : Bool} {W0 : World} (hg : Gram m gb g ended W0) (hG : MapG g W0.heap[m]?) :
    Calls Tryz.prog 48 #[.pointer (some ⟨gb, 0, none⟩)] W0 fun e W' => e = .returned (.int .i64 (if ended then cntS g 1 0 g.toks.length else 0 : Nat)) ∧ W0.grownBy W' (some m) ∧ MapG g W'.heap[m]? := by
  have hs := Since.refl hg.map
  have hC := Lib.hid (count_all hg 1 0 g.toks.length (Nat.le_refl _) W0 hs hG)
  have c2 := hg.ended
  obtain ⟨a, cap, c1, _, _, _⟩ := hg.tok hs
  have few := hg.few
  obtain ⟨n, hn⟩ : ∃ n, n = g.toks.length := ⟨_, rfl⟩
  rw [← hn] at hC c1 few ⊢
  have HG := Lib.hid hG
  clear hn hg hG hs
  cases ended
  · go_enter Tryz.func48, Tryz.ntmps48
    go_wp2
    go_ret
    exact ⟨rfl, ⟨rfl, rfl, rfl, Nat.le_refl _, fun _ _ _ => rfl⟩, HG.out⟩
  · go_enter Tryz.func48, Tryz.ntmps48
    go_wp2_with (go_at_call 78; refine hC.out.mono ?_; rintro e W1 ⟨rfl, hg1, hG1⟩)
    go_ret
    exact ⟨rfl, hg1, hG1⟩

/-- What begin returns, in its three ways. -/
def BeginAll (w : World) (l : List Ent) (toks : List (List UInt8)) (e : Ending) (w' : World) : Prop :=
  (validS l = false ∧ e = .returned (.tuple #[.pointer none, .int .i64 2]) ∧ Below w.heap.size w w') ∨
  (validS l = true ∧ 24 < toks.length ∧ e = .returned (.tuple #[.pointer none, .int .i64 3]) ∧ Below w.heap.size w w') ∨
  (validS l = true ∧ toks.length ≤ 24 ∧ BeginOk w l (bareS toks) (decide (toks.getLast? = some wDot)) e w')
theorem Valid_all (W0 w : World) (ht : Tabs W0 w) (v : Value) (l : List Ent) (hl : EntSlice w v l) :
    Calls Tryz.prog 37 #[v] w fun r w' => r = .returned (.bool (validS l)) ∧ Below w.heap.size w w' := by
  by_cases h100 : l.length ≤ 100
  · exact Valid_short W0 w ht v l hl h100
  · obtain ⟨⟨a, cap, rfl, hcap, hcm, _⟩, _⟩ := hl
    have e : validS l = false := by simp [validS, h100]
    rw [e]
    refine (Valid_long w a l.length cap (by omega) (by unfold maxLen at hcm; omega)).mono ?_
    rintro r w' ⟨rfl, rfl⟩
    exact ⟨rfl, Below.refl _ _⟩
theorem Begin_huge (W0 w : World) (ht : Tabs W0 w) (v tv : Value) (l : List Ent) (hl : EntSlice w v l) (hv : validS l = false) :
    Calls Tryz.prog 47 #[v, tv] w fun e w' => e = .returned (.tuple #[.pointer none, .int .i64 2]) ∧ Below w.heap.size w w' := by
  go_enter Tryz.func47, Tryz.ntmps47
  go_wp2_with (go_at_call 37; refine (hv ▸ Valid_all W0 _ ht v l hl).mono ?_; rintro r w1 ⟨rfl, hb⟩)
  go_ret2
  exact ⟨rfl, hb⟩
theorem valid_100 {l : List Ent} (h : validS l = true) : l.length ≤ 100 := by simp [validS] at h; exact h.1
theorem Begin_any (W0 w : World) (ht : Tabs W0 w) (v tv : Value) (l : List Ent) (hl : EntSlice w v l) (toks : List (List UInt8)) (hts : StrSlice w tv toks) : Calls Tryz.prog 47 #[v, tv] w (BeginAll w l toks) := by
  cases hv : validS l
  · exact (Begin_huge W0 w ht v tv l hl hv).mono fun e w' h => .inl ⟨hv, h.1, h.2⟩
  · have h100 := valid_100 hv
    by_cases h24 : toks.length ≤ 24
    · exact (Begin_good W0 w ht v tv l hl h100 hv toks hts h24).mono fun e w' h => .inr (.inr ⟨hv, h24, h⟩)
    · obtain ⟨a, c, rfl, h1, h2, _⟩ := hts
      exact (Begin_long W0 w ht v l hl h100 hv a _ c (by omega) (by omega)).mono fun e w' h => .inr (.inl ⟨hv, by omega, h.1, h.2⟩)

theorem countS_bad {l : List Ent} {toks : List (List UInt8)} (h : validS l = false) : countS l toks = (0, 2) := by unfold countS; rw [h]; rfl
theorem countS_long {l : List Ent} {toks : List (List UInt8)} (h : validS l = true) (h2 : 24 < toks.length) : countS l toks = (0, 3) := by unfold countS; rw [h, if_neg (by decide), if_pos h2]
theorem countS_good {l : List Ent} {toks : List (List UInt8)} (h : validS l = true) (h2 : toks.length ≤ 24) : countS l toks = (if decide (toks.getLast? = some wDot) = true then cntS ⟨l, bareS toks⟩ 1 0 (bareS toks).length else 0, 0) := by
  unfold countS; rw [h, if_neg (by decide), if_neg (by omega)]; simp
theorem Count_any (W0 w : World) (ht : Tabs W0 w) (v tv : Value) (l : List Ent) (hl : EntSlice w v l) (toks : List (List UInt8)) (hts : StrSlice w tv toks) :
    Calls Tryz.prog 22 #[v, tv] w fun e w' => e = .returned (.tuple #[.int .i64 (countS l toks).1, .int .i64 (countS l toks).2]) ∧ Below w.heap.size w w' := by
  have HB := Lib.hid (Begin_any W0 w ht v tv l hl toks hts)
  clear hts hl ht
  go_enter Tryz.func22, Tryz.ntmps22
  go_wp2_with fail
  refine HB.out.mono ?_
  rintro e w1 (⟨hv, rfl, hb⟩ | ⟨hv, h24, rfl, hb⟩ | ⟨hv, h24, m, gb, rfl, hb, hg, hG, hwm⟩)
  · go_wp2
    go_ret2
    rw [countS_bad hv]
    exact ⟨rfl, hb⟩
  · have HV := Lib.hid (And.intro hv h24)
    clear hv h24
    go_wp2
    go_ret2
    rw [countS_long HV.out.1 HV.out.2]
    exact ⟨rfl, hb⟩
  · have HV := Lib.hid (And.intro hv h24)
    obtain ⟨c, hc⟩ : ∃ c : Nat, c = if decide (toks.getLast? = some wDot) = true then cntS ⟨l, bareS toks⟩ 1 0 (bareS toks).length else 0 := ⟨_, rfl⟩
    have hs1 := sentence_any hg hG
    rw [← hc] at hs1
    have HC := Lib.hid hc
    have HS := Lib.hid hs1
    clear hc hs1
    have HB1 := Lib.hid hb
    have HWm := Lib.hid hwm
    clear hg hG hv h24 hb hwm HB
    go_wp2_with (go_at_call 48; refine HS.out.mono ?_; rintro e W1 ⟨rfl, hg1, hG1⟩)
    go_ret2
    rw [countS_good HV.out.1 HV.out.2, ← HC.out]
    exact ⟨rfl, HB1.out.grown hg1 HB1.out.size (fun k hk => by cases hk; exact HWm.out)⟩

/-- The trees of the model are slim. -/
theorem slim_node0 (r e : Int) (w : List UInt8) : Slim (.node r e w []) := .mk r e w [] (by simp) (by simp)
theorem slim_node1 (r e : Int) (w : List UInt8) (x : Tr) (h : Slim x) : Slim (.node r e w [x]) := .mk r e w [x] (by simp) (fun t ht => by obtain rfl := List.mem_singleton.1 ht; exact h)
theorem slim_node2 (r e : Int) (w : List UInt8) (x y : Tr) (h : Slim x) (h2 : Slim y) : Slim (.node r e w [x, y]) := .mk r e w [x, y] (by simp) (fun t ht => by
  simp only [List.mem_cons, List.not_mem_nil, or_false] at ht
  rcases ht with rfl | rfl
  · exact h
  · exact h2)
theorem treesF_slim (g : Gr) : ∀ (d k f t : Nat) (x : Tr), x ∈ treesF g d k f t → Slim x := by
  intro d
  induction d with
  | zero => intro k f t x hx; simp [treesF] at hx
  | succ d ih =>
    intro k f t x hx
    simp only [treesF] at hx
    split at hx
    · cases hx
    · obtain ⟨r, _, hx⟩ := List.mem_flatMap.1 hx
      unfold rowTrees at hx
      split at hx
      · obtain ⟨o, _, hx⟩ := List.mem_flatMap.1 hx
        split at hx
        · unfold fillF at hx
          split at hx
          · obtain rfl := List.mem_singleton.1 hx; exact slim_node0 _ _ _
          · obtain ⟨y, hy, rfl⟩ := List.mem_map.1 hx
            exact slim_node1 _ _ _ _ (ih _ _ _ _ hy)
          · obtain ⟨s, _, hx⟩ := List.mem_flatMap.1 hx
            split at hx
            · obtain ⟨y, hy, hx⟩ := List.mem_flatMap.1 hx
              obtain ⟨z, hz, rfl⟩ := List.mem_map.1 hx
              exact slim_node2 _ _ _ _ _ (ih _ _ _ _ hy) (ih _ _ _ _ hz)
            · cases hx
        · cases hx
      · cases hx
theorem treesS_slim (g : Gr) (k f t : Nat) (x : Tr) (h : x ∈ treesS g k f t) : Slim x := treesF_slim g _ _ _ _ _ h

theorem ForG.mono {B0 B1 : Nat} {v : Value} {ts : List Tr} {k : Nat} {W : World} (h : ForG B0 v ts k W) (hB : B1 ≤ B0) : ForG B1 v ts k W := by
  obtain ⟨qs, L, H, hk, hown, ht, hin, hdis, hrow⟩ := h
  refine ⟨qs, L, H, hk, ⟨hown.1, ?_⟩, ht, fun j hj => ⟨Nat.le_trans hB (hin j hj).1, (hin j hj).2⟩, hdis, hrow⟩
  rcases hown.2 with h | ⟨g, cap, cur, h1, h2, h3⟩
  · exact .inl h
  · exact .inr ⟨g, cap, cur, h1, Nat.le_trans hB h2, h3⟩
/-- What Parses returns. -/
def ParsesOk (w : World) (x : List Tr × Int) (e : Ending) (w' : World) : Prop := ∃ rv, e = .returned (.tuple #[rv, .int .i64 x.2]) ∧ Below w.heap.size w w' ∧ ForG w.heap.size rv x.1 x.1.length w'
theorem parses_none {w w' : World} {k : Int} (hb : Below w.heap.size w w') : ParsesOk w ([], k) (.returned (.tuple #[.slice none 0 0, .int .i64 k])) w' := ⟨_, rfl, hb, ForG.nil _ _ _⟩

end Go.Proofs.YthmnffgjckpkiaaGreatDoor
