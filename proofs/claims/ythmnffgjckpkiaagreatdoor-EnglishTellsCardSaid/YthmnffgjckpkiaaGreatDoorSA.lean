/-
  Lexicons in a row of the call's own.
  A lexicon of the call's own as the walks read it; contract of 'Same' of the laws at two equal lexicons.
  append of a lexicon to a lexicon of the call's own, the source nil or not: the run's equation, and the law at a step of a region that draws its order.
  Plain laws of third forms and of right parses (the few that the walks want).
  Contracts of the reference's byte tests, 'Function' and 'lower'.
  Contracts of the reference's 'Plain', 'ThirdOf', 'Third' and 'Article': what the program's functions return.
  Contracts of the references' names and entries: 'in', 'letters', 'Function', 'Predicate' of lyceumref02, 'Proper' and 'Right' of lyceumref33.
  Plain laws of the order of entries: a valid lexicon is sorted.
  Plain laws of the reference's Valid.
  Contracts of the reference's 'Proper', 'Right', 'ahead', 'clash' and 'Valid'.
  Contract of the reference's 'Valid'.
  Contracts of 'Given' and 'Taken' of the laws, and of 'Same' at any two lexicons.
  Contract of the reference's 'Look'.
-/
import Derived.Test.YthmnffgjckpkiaaGreatDoorGEngH
import Derived.Deep.AppendLies
import Derived.Test.YthmnffgjckpkiaaGreatDoorGLow
import Derived.Test.YthmnffgjckpkiaaGreatDoorGEngB
import Derived.Test.YthmnffgjckpkiaaGreatDoorGTok
import Derived.Laws.BytesArg
import Derived.IntWalk
namespace Go.Proofs.YthmnffgjckpkiaaGreatDoor
open Go Go.RowKit

def entCells (e : Ent) : List Value := [.string e.word, .int .u8 e.cat, .string e.sym]
theorem flat3 (l : List Ent) : ∀ j (h : j < l.length), (l.flatMap entCells)[j * 3]? = some (.string l[j].word) ∧ (l.flatMap entCells)[j * 3 + 1]? = some (.int .u8 l[j].cat) ∧ (l.flatMap entCells)[j * 3 + 2]? = some (.string l[j].sym) := by
  induction l with
  | nil => intro j h; simp at h
  | cons f fs ih =>
    intro j h
    cases j with
    | zero => simp [entCells]
    | succ j =>
      have := ih j (by simpa using h)
      simp only [List.flatMap_cons, entCells, List.cons_append, List.nil_append]
      rw [show (j + 1) * 3 = j * 3 + 1 + 1 + 1 by omega, show j * 3 + 1 + 1 + 1 + 1 = (j * 3 + 1) + 1 + 1 + 1 by omega, show j * 3 + 1 + 1 + 1 + 2 = (j * 3 + 2) + 1 + 1 + 1 by omega]
      simpa using this
theorem len_data (s : ByteArray) : s.data.toList.length = s.size := by simp
theorem info_ent : (Tryz.prog.info? 63).map (fun i => (i.zero, i.size, i.bytes)) = some (some (.agg #[.string ByteArray.empty, .int .u8 0, .string ByteArray.empty]), 3, 40) := by kernel_rfl
theorem ents_len (l : List Ent) : (l.flatMap entCells).length = l.length * 3 := by
  induction l with
  | nil => rfl
  | cons e l ih => rw [List.flatMap_cons, List.length_append, ih]; simp [entCells]; omega
theorem ents_one (l : List Ent) : ∀ u ∈ l.flatMap entCells, u.oneCell' = true := by
  intro u hu
  obtain ⟨e, _, he⟩ := List.mem_flatMap.1 hu
  simp only [entCells, List.mem_cons, List.not_mem_nil, or_false] at he
  rcases he with rfl | rfl | rfl <;> rfl
/-- A new lexicon that lies in a row of its own. -/
def OwnEnts (w : World) (base : Nat) (v : Value) (l : List Ent) : Prop := w.ownsRow base 63 3 v l.length (l.flatMap entCells)
theorem ents_none (w : World) : EntSlice w (.slice none 0 0) [] := ⟨⟨none, 0, rfl, Nat.le_refl _, Nat.zero_le _, .inl rfl⟩, fun e he => by simp at he⟩
end Go.Proofs.YthmnffgjckpkiaaGreatDoor
namespace Go.Proofs.YthmnffgjckpkiaaGreatDoor
open Go Go.RowKit

theorem entSlice_of_owns {w : World} {base : Nat} {v : Value} {l : List Ent} (h : OwnEnts w base v l) (hok : ∀ e ∈ l, e.ok) : EntSlice w v l := by
  rcases h.2 with ⟨rfl, h0⟩ | ⟨g, cap, cur, rfl, hbg, hg, hnc, hcm, hcs, htake⟩
  · have : l = [] := List.eq_nil_of_length_eq_zero h0
    subst this
    exact ents_none w
  · refine ⟨⟨_, cap, rfl, hnc, hcm, .inr ⟨g, 0, rfl, (Array.getElem?_eq_some_iff.1 hg).1, fun j hj => ?_⟩⟩, hok⟩
    have hadd : ∀ j, (⟨g, 0, none⟩ : Addr).add j = ⟨g, j, none⟩ := fun j => by unfold Addr.add; split <;> simp_all
    obtain ⟨f0, f1, f2⟩ := flat3 l j hj
    have h0 := h.cells (g := g) rfl (j * 3) _ f0
    have h1 := h.cells (g := g) rfl (j * 3 + 1) _ f1
    have h2 := h.cells (g := g) rfl (j * 3 + 2) _ f2
    rw [hadd] at h0 h1 h2
    rw [Nat.zero_add]
    exact ⟨h0, h1, h2⟩

set_option maxRecDepth 100000 in
set_option maxHeartbeats 1000000 in
theorem Same_eq (w : World) (va vb : Value) (l : List Ent) (ha : EntSlice w va l) (hb : EntSlice w vb l) :
    Calls Tryz.prog 46 #[va, vb] w fun e w' => e = .returned (.bool true) ∧ Below w.heap.size w w' := by
  obtain ⟨⟨a, cap, rfl, hcap, hcm, ha⟩, _⟩ := ha
  obtain ⟨⟨b, cap', rfl, hcap', hcm', hb⟩, _⟩ := hb
  have hlm : l.length ≤ 9223372036854775807 := by unfold maxLen at hcm; omega
  have HA := Lib.hid ha
  have HB := Lib.hid hb
  clear ha hb hcm hcm'
  go_enter Tryz.func46, Tryz.ntmps46
  go_wp2
  go_loopw [5] (fun i wr => ∃ k : Nat, k ≤ l.length ∧ i = .int .i64 k ∧ Below w.heap.size w wr) (fun i _ => l.length - (intOf i).toNat)
  case atStart => exact ⟨0, Nat.zero_le _, rfl, Below.refl _ _⟩
  case round =>
    obtain ⟨k, hk, rfl, hbw⟩ := hrel
    by_cases hlt : k < l.length
    · rcases HA.out with h0 | ⟨ga, oa, rfl, _, ca⟩
      · rw [h0] at hlt; exact absurd hlt (by simp)
      rcases HB.out with h0 | ⟨gb, ob, rfl, _, cb⟩
      · rw [h0] at hlt; exact absurd hlt (by simp)
      obtain ⟨a0, a1, a2⟩ := ca k hlt
      obtain ⟨b0, b1, b2⟩ := cb k hlt
      obtain ⟨e, he⟩ : ∃ e, e = l[k] := ⟨_, rfl⟩
      rw [← he] at a0 a1 a2 b0 b1 b2
      have f0 := fun x : Later wr => x.get (cell_kept' hbw a0)
      have f1 := fun x : Later wr => x.get (cell_kept' hbw a1)
      have f2 := fun x : Later wr => x.get (cell_kept' hbw a2)
      have g0 := fun x : Later wr => x.get (cell_kept' hbw b0)
      have g1 := fun x : Later wr => x.get (cell_kept' hbw b1)
      have g2 := fun x : Later wr => x.get (cell_kept' hbw b2)
      have e3 : (k : Int) < (l.length : Int) := by omega
      have e5 : (0 : Int) ≤ k := by omega
      clear ca cb he a0 a1 a2 b0 b1 b2
      go_wp2
      refine wp_region_later (by kernel_rfl) (by kernel_rfl) ?_
      repeat (go_big_quiet_step (fail))
      refine wpQuiet_nil ?_
      rintro _ ⟨x, rfl⟩
      go_wp2
      go_roundw
      case rel => exact ⟨k + 1, by omega, by go_num, hbw.trans (x.below.mono hbw.size)⟩
      case measure => simp [intOf]; omega
    · go_wp2
      go_ret
      exact ⟨rfl, hbw⟩
end Go.Proofs.YthmnffgjckpkiaaGreatDoor
namespace Go.Proofs.YthmnffgjckpkiaaGreatDoor
open Go Go.RowKit

theorem ents_nilform' {w : World} {v : Value} {l : List Ent} (h : EntSlice w v l) (h0 : ∀ n cap, v = .slice none n cap → v = .slice none 0 0) :
    (v = .slice none 0 0 ∧ l = []) ∨ ∃ ad cap, v = .slice (some ad) l.length cap ∧ ∀ j u, (l.flatMap entCells)[j]? = some u → w.cell? (ad.add j) = some u := by
  obtain ⟨⟨a, cap, rfl, h1, h2, h3⟩, h4⟩ := h
  cases a with
  | none =>
    have := h0 l.length cap rfl
    injection this with _ e2 e3
    have hl : l = [] := List.eq_nil_of_length_eq_zero e2
    subst hl
    exact .inl ⟨by rw [e3]; rfl, rfl⟩
  | some ad =>
    refine .inr ⟨ad, cap, rfl, fun j u hj => ?_⟩
    rcases h3 with h3 | ⟨b, off, ha, hlt, hc⟩
    · subst h3; simp at hj
    · injection ha with ha
      subst ha
      have hadd : (⟨b, off, none⟩ : Addr).add j = ⟨b, off + j, none⟩ := by unfold Addr.add; split <;> simp_all
      rw [hadd]
      have hjl : j < l.length * 3 := by
        have := (List.getElem?_eq_some_iff.1 hj).1
        rwa [ents_len] at this
      obtain ⟨q, hq⟩ : ∃ q, j = q * 3 ∨ j = q * 3 + 1 ∨ j = q * 3 + 2 := ⟨j / 3, by omega⟩
      have hql : q < l.length := by omega
      obtain ⟨f0, f1, f2⟩ := flat3 l q hql
      obtain ⟨c0, c1, c2⟩ := hc q hql
      rcases hq with rfl | rfl | rfl
      · rw [f0] at hj; injection hj with hj; rw [← hj]; exact c0
      · rw [f1] at hj; injection hj with hj; rw [← hj, ← Nat.add_assoc]; exact c1
      · rw [f2] at hj; injection hj with hj; rw [← hj, ← Nat.add_assoc]; exact c2
theorem ownEnts_empty {w : World} {g base : Nat} (hg : w.heap[g]? = some (.cells #[] 63 (0, 0))) (hb : base ≤ g) : OwnEnts w base (.slice (some ⟨g, 0, none⟩) 0 0) [] :=
  ⟨by simp, .inr ⟨g, 0, #[], rfl, hb, hg, Nat.le_refl _, Nat.zero_le _, by simp, by simp⟩⟩

/-- append of a lexicon to one of the call's own. -/
theorem run_append_ents (w : World) (ty : TypeId) (base : Nat) (v : Value) (p : List Ent) (hown : OwnEnts w base v p) (x : Value) (q : List Ent) (hx : EntSlice w x q) (h0 : ∀ n cap, x = .slice none n cap → x = .slice none 0 0)
    (hn : (p.length + q.length) * 40 ≤ 140737488355328) (hbase : base ≤ w.heap.size) :
    ∃ v' w', (Builtin.append_ #[22, 22] ty #[v, x]).run Tryz.prog w = .ok v' w' ∧ OwnEnts w' base v' (p ++ q) ∧ w.grownBy w' v.ownBlock ∧ (v'.ownBlock = v.ownBlock ∨ v'.ownBlock = some w.heap.size) := by
  obtain ⟨i0, hi, hz0, hz1, hz2⟩ := info_parts info_ent
  rcases ents_nilform' hx h0 with ⟨rfl, rfl⟩ | ⟨ad, cap, rfl, hnews⟩
  · refine ⟨v, w, ?_, by rw [List.append_nil]; exact hown, ⟨rfl, rfl, rfl, Nat.le_refl _, fun _ _ _ => rfl⟩, .inl rfl⟩
    exact run_append_owned_none (P := Tryz.prog) (w := w) base 22 ty 63 i0 3 Tryz.underlying22 hi v p.length (p.flatMap entCells) hown
  · obtain ⟨v', w', hr, h2, h3, _, h5⟩ := run_append_own_at (P := Tryz.prog) w base 22 ty 63 i0 _ 3 40 Tryz.underlying22 hi hz0 hz1 hz2 rfl (by decide) v p.length (p.flatMap entCells) hown ad q.length cap (q.flatMap entCells) (ents_len _) hnews (ents_one _) (by unfold maxLen; omega) (by omega) hbase
    refine ⟨v', w', hr, ?_, h3, h5⟩
    unfold OwnEnts
    rw [List.length_append, List.flatMap_append]
    exact h2

theorem wpList_append_ents {ops : Array Oper} {rest : List Oper} {o : Oper} {a : Act} {w : World} {Q : Exit → Act → World → Prop} (hgd : o.guard = none) (s x : Operand)
    (ho : o.op = .call { callee := .builtin .append, args := #[s, x], argTypes := #[22, 22] })
    (base : Nat) (v : Value) (p : List Ent) (hs : a.eval s = v) (hown : OwnEnts w base v p) (vx : Value) (q : List Ent) (hvx : a.eval x = vx) (hx : EntSlice w vx q) (h0 : ∀ n cap, vx = .slice none n cap → vx = .slice none 0 0)
    (hn : (p.length + q.length) * 40 ≤ 140737488355328) (hbase : base ≤ w.heap.size)
    (h : ∀ v' w', OwnEnts w' base v' (p ++ q) → w.grownBy w' v.ownBlock → (v'.ownBlock = v.ownBlock ∨ v'.ownBlock = some w.heap.size) → wpList Tryz.prog ops Q rest (a.put o.dst v') w') : wpList Tryz.prog ops Q (o :: rest) a w := by
  refine wpList_plain hgd fun K hK => ?_
  obtain ⟨v', w', hr, h1, h2, h3⟩ := run_append_ents w o.type base v p hown vx q hx h0 hn hbase
  unfold Oper.wp execOp
  simp only [ho, resolve, invoke, builtin, Sem.run_bind, Sem.run_pure, Result.andThen_ok, List.map_toArray, List.map_cons, List.map_nil, hs, hvx, hr]
  exact hK _ _ (h v' w' h1 h2 h3)
end Go.Proofs.YthmnffgjckpkiaaGreatDoor
namespace Go.Proofs.YthmnffgjckpkiaaGreatDoor
open Go Go.RowKit

theorem third_some (l : List UInt8) : ∃ e ∈ endsS, fitsS l e = true ∧ thirdS l = putS l e := by
  have h : (endsS.find? (fitsS l)).isSome = true := by
    rw [List.find?_isSome]
    exact ⟨([], false, 0, [115]), by decide, by simp [fitsS, Lib.hasSuffix]⟩
  obtain ⟨e, he⟩ := Option.isSome_iff_exists.1 h
  exact ⟨e, List.mem_of_find?_eq_some he, List.find?_some he, by simp [thirdS, he]⟩
theorem suffix_two (p : List UInt8) (x y : UInt8) (e : List UInt8) (h : e.length ≤ 2) : Lib.hasSuffix (p ++ [x, y]) e = Lib.hasSuffix [x, y] e := by
  rw [Bool.eq_iff_iff, Lib.hasSuffix, Lib.hasSuffix, List.isSuffixOf_iff_suffix, List.isSuffixOf_iff_suffix]
  constructor
  · intro hs
    exact List.suffix_of_suffix_length_le hs (List.suffix_append _ _) (by simpa using h)
  · intro hs
    exact hs.trans (List.suffix_append _ _)
theorem fits_two (p : List UInt8) (x y : UInt8) (e : List UInt8 × Bool × Nat × List UInt8) (he : e ∈ endsS) : fitsS (p ++ [x, y]) e = fitsS [x, y] e := by
  have h2 : ∀ e ∈ endsS, e.1.length ≤ 2 ∧ (e.2.1 = true → e.1.length = 1) := by decide
  obtain ⟨h2, h1⟩ := h2 e he
  unfold fitsS
  rw [suffix_two p x y e.1 h2]
  cases hs : Lib.hasSuffix [x, y] e.1
  · rfl
  · cases hh : e.2.1
    · rfl
    · have hs' : Lib.hasSuffix (p ++ [x, y]) e.1 = true := by rw [suffix_two p x y e.1 h2]; exact hs
      have h1 := h1 hh
      have e1 : Lib.trimSuffix (p ++ [x, y]) e.1 = p ++ [x] := by
        rw [Lib.trimSuffix, if_pos hs', h1]
        simp [List.take_append]
        exact List.take_of_length_le (by simp)
      have e2 : Lib.trimSuffix [x, y] e.1 = [x] := by rw [Lib.trimSuffix, if_pos hs, h1]; rfl
      rw [e1, e2]
      simp [hardS]
theorem third_two (p : List UInt8) (x y : UInt8) : thirdS (p ++ [x, y]) = p ++ thirdS [x, y] := by
  have hf : endsS.find? (fitsS (p ++ [x, y])) = endsS.find? (fitsS [x, y]) := by
    have : ∀ es : List (List UInt8 × Bool × Nat × List UInt8), (∀ e ∈ es, e ∈ endsS) → es.find? (fitsS (p ++ [x, y])) = es.find? (fitsS [x, y]) := by
      intro es
      induction es with
      | nil => intro _; rfl
      | cons e es ih =>
        intro h
        rw [List.find?_cons, List.find?_cons, fits_two p x y e (h e (by simp)), ih (fun e he => h e (by simp [he]))]
    exact this endsS (fun e h => h)
  have h1 := third_some [x, y]
  obtain ⟨e, he, hfit, _⟩ := h1
  have hs : (endsS.find? (fitsS [x, y])).isSome = true := by rw [List.find?_isSome]; exact ⟨e, he, hfit⟩
  obtain ⟨e', he'⟩ := Option.isSome_iff_exists.1 hs
  have hm := List.mem_of_find?_eq_some he'
  have hc : ∀ e ∈ endsS, e.2.2.1 ≤ 1 := by decide
  have := hc e' hm
  simp only [thirdS, hf, he', putS]
  rw [List.take_append, List.append_assoc]
  congr 1
  · rw [List.take_of_length_le (by simp; omega)]
  · congr 2
    simp; omega
end Go.Proofs.YthmnffgjckpkiaaGreatDoor
namespace Go.Proofs.YthmnffgjckpkiaaGreatDoor
open Go Go.RowKit

def capitalI (c : Int) : Bool := decide (65 ≤ c ∧ c ≤ 90)
theorem rsmall_any (c : Int) (w : World) :
    Calls Tryz.prog 109 #[.int .u8 c] w fun e w' => e = .returned (.bool (smallI c)) ∧ w = w' := by
  by_cases h1 : 97 ≤ c <;> by_cases h2 : c ≤ 122
  all_goals
    have hs : smallI c = (decide (97 ≤ c) && decide (c ≤ 122)) := by simp [smallI]
    rw [hs]; clear hs
    go_enter Tryz.func109, Tryz.ntmps109
    go_wp2
    go_ret
    simp [h1, h2]
theorem rcapital_any (c : Int) (w : World) :
    Calls Tryz.prog 110 #[.int .u8 c] w fun e w' => e = .returned (.bool (capitalI c)) ∧ w = w' := by
  by_cases h1 : 65 ≤ c <;> by_cases h2 : c ≤ 90
  all_goals
    have hs : capitalI c = (decide (65 ≤ c) && decide (c ≤ 90)) := by simp [capitalI]
    rw [hs]; clear hs
    go_enter Tryz.func110, Tryz.ntmps110
    go_wp2
    go_ret
    simp [h1, h2]
theorem rletter_any (c : Int) (w : World) :
    Calls Tryz.prog 69 #[.int .u8 c] w fun e w' => e = .returned (.bool (letterI c)) ∧ w = w' := by
  have hl : letterI c = (smallI c || capitalI c) := by simp [letterI, smallI, capitalI]
  rw [hl]; clear hl
  go_enter Tryz.func69, Tryz.ntmps69
  go_wp2_with (first
    | (go_at_call 109; refine (rsmall_any _ _).mono ?_; rintro e w' ⟨rfl, rfl⟩)
    | (go_at_call 110; refine (rcapital_any _ _).mono ?_; rintro e w' ⟨rfl, rfl⟩))
  all_goals (go_ret; simp_all)

set_option maxRecDepth 100000 in
set_option maxHeartbeats 2000000 in
theorem rFunction_any (s : ByteArray) (w : World) :
    Calls Tryz.prog 70 #[.string s] w fun e w' => e = .returned (.bool (isFn s.data.toList)) ∧ w = w' := by
  have he := ByteArray.toList_eq s
  obtain ⟨l, hl⟩ : ∃ l, l = s.data.toList := ⟨_, rfl⟩
  rw [← hl] at he ⊢
  have HE := Lib.hid he
  clear he hl
  go_enter Tryz.func70, Tryz.ntmps70
  go_wp2
  all_goals
    go_ret
    refine ⟨ret_bool ?_, rfl⟩
    have := HE.out
    simp_all [isFn, fnWords]

/-- A text of one byte, made of a new slice. -/
theorem one_byte (w : World) (n : Int) : (convert 48 9 (.slice (some ⟨w.heap.size, 0, none⟩) 1 1)).run Tryz.prog (w.alloc (.cells #[.int .u8 n] 5)) = .ok (.string ⟨#[UInt8.ofNat n.toNat]⟩) (w.alloc (.cells #[.int .u8 n] 5)) := by
  have h := run_convert_bytes_arg (P := Tryz.prog) (w.alloc (.cells #[.int .u8 n] 5)) 48 5 Tryz.underlying48 Tryz.underlying5 w.heap.size 0 1 1 [n] rfl (fun i hi => by
    obtain rfl : i = 0 := by omega
    simp) 9 Tryz.underlying9
  rw [h]
  simp [strOfNums]
theorem lower_byte (c : UInt8) : Lib.lowerB c = if capitalI c.toNat then UInt8.ofNat (c.toNat + 32) else c := by
  have e : Lib.isUpperB c = capitalI c.toNat := by
    simp only [Lib.isUpperB, capitalI]
    rw [Bool.eq_iff_iff]; simp [UInt8.le_iff_toNat_le]; omega
  unfold Lib.lowerB
  rw [e]
  split
  · rename_i h
    simp [capitalI] at h
    apply UInt8.toNat_inj.1
    simp [UInt8.toNat_add]
  · rfl
theorem lowerA_take (s : ByteArray) (k : Nat) (h : k < s.size) : Lib.toLowerA (s.data.toList.take (k + 1)) = Lib.toLowerA (s.data.toList.take k) ++ [Lib.lowerB s[k]] := by
  rw [List.take_succ_eq_append_getElem (by simpa using h), Lib.toLowerA, Lib.toLowerA, List.map_append]
  rfl
theorem push_str (l : List UInt8) (c : UInt8) : (⟨l.toArray⟩ : ByteArray) ++ ⟨#[c]⟩ = ⟨(l ++ [c]).toArray⟩ := by
  apply ByteArray.ext
  simp [ByteArray.data_append]

set_option maxRecDepth 100000 in
set_option maxHeartbeats 1000000 in
theorem rlower_any (s : ByteArray) (w : World) (hs : s.size ≤ 1000000000) :
    Calls Tryz.prog 71 #[.string s] w fun e w' => e = .returned (.string ⟨(Lib.toLowerA s.data.toList).toArray⟩) ∧ Below w.heap.size w w' := by
  have hone := one_byte
  go_enter Tryz.func71, Tryz.ntmps71
  go_wp2
  go_loopw [3, 4] (fun o i wr => ∃ k : Nat, k ≤ s.size ∧ i = .int .i64 k ∧ o = .string ⟨(Lib.toLowerA (s.data.toList.take k)).toArray⟩ ∧ Below w.heap.size w wr) (fun _ i _ => s.size - (intOf i).toNat)
  case atStart => exact ⟨0, Nat.zero_le _, rfl, by simp [Lib.toLowerA], Below.refl _ _⟩
  case round =>
    obtain ⟨k, hk, rfl, rfl, hb⟩ := hrel
    obtain ⟨o, ho⟩ : ∃ o, o = (⟨(Lib.toLowerA (s.data.toList.take k)).toArray⟩ : ByteArray) := ⟨_, rfl⟩
    have hos : o.size ≤ k := by rw [ho, bytes_size]; simp [Lib.toLowerA]; omega
    rw [← ho]
    have HO := Lib.hid ho
    clear ho
    by_cases hlt : k < s.size
    · have hadd : ∀ (c : UInt8) w, (Op.stringOp .add o ⟨#[c]⟩).run Tryz.prog w = .ok (.string (o ++ ⟨#[c]⟩)) w := fun c w => run_string_add_sum w _ _ (by have h1 : (⟨#[c]⟩ : ByteArray).size = 1 := rfl; omega)
      have hstep := lowerA_take s k hlt
      have hbt := lower_byte s[k]
      have HS := Lib.hid hstep
      have HB := Lib.hid hbt
      have hk256 : s[k].toNat < 256 := UInt8.toNat_lt _
      clear hstep hbt
      cases hc : capitalI s[k].toNat
      · have HC := Lib.hid hc
        go_wp2_with (go_at_call 110; refine (rcapital_any _ _).mono ?_; rintro e w' ⟨rfl, rfl⟩)
        go_roundw
        case rel => exact ⟨k + 1, by omega, by go_num, by rw [HS.out, HB.out, HC.out, HO.out, push_str]; simp, hb.alloc hb.size _⟩
        case measure => simp [intOf]; omega
      · have hcap : 65 ≤ s[k].toNat ∧ s[k].toNat ≤ 90 := by simp [capitalI] at hc; omega
        obtain ⟨hc1, hc2⟩ := hcap
        have HC := Lib.hid hc
        go_wp2_with (go_at_call 110; refine (rcapital_any _ _).mono ?_; rintro e w' ⟨rfl, rfl⟩)
        go_roundw
        case rel => exact ⟨k + 1, by omega, by go_num, by rw [HS.out, HB.out, HC.out, HO.out, push_str]; simp, hb.alloc hb.size _⟩
        case measure => simp [intOf]; omega
    · obtain rfl : k = s.size := by omega
      go_wp2
      go_ret
      exact ⟨ret_str (by rw [HO.out, List.take_of_length_le (by simp)]), hb⟩
end Go.Proofs.YthmnffgjckpkiaaGreatDoor
namespace Go.Proofs.YthmnffgjckpkiaaGreatDoor
open Go Go.RowKit

def vowelI (c : Int) : Bool := c == 97 || c == 101 || c == 105 || c == 111 || c == 117
theorem rvowel_any (c : Int) (w : World) :
    Calls Tryz.prog 161 #[.int .u8 c] w fun e w' => e = .returned (.bool (vowelI c)) ∧ w = w' := by
  go_enter Tryz.func161, Tryz.ntmps161
  go_wp2
  all_goals
    go_ret
    refine ⟨ret_bool ?_, rfl⟩
    simp_all [vowelI]
theorem vowel_one (c : UInt8) : inVowels [c] = vowelI c.toNat := by
  have h : ∀ n, n < 256 → inVowels [UInt8.ofNat n] = vowelI (UInt8.ofNat n).toNat := by decide +kernel
  have := h c.toNat (UInt8.toNat_lt _)
  simpa using this

set_option maxHeartbeats 1000000 in
theorem rPlain_any (s : ByteArray) (w : World) (hs : s.size ≤ 9223372036854775807) :
    Calls Tryz.prog 107 #[.string s] w fun e w' => e = .returned (.bool (plainS s.data.toList)) ∧ w = w' := by
  have hp : plainS s.data.toList = (decide (1 ≤ s.size) && (decide (s.size ≤ 16) && allSmall s.data.toList)) := by
    unfold plainS; rw [Bool.decide_and, Bool.and_assoc]; rfl
  rw [hp]; clear hp
  go_enter Tryz.func107, Tryz.ntmps107
  go_wp2
  go_loop [3] (fun i => ∃ k : Nat, k ≤ s.size ∧ i = .int .i64 k ∧ allSmall (s.data.toList.take k) = true) (fun i => s.size - (intOf i).toNat)
  case atStart => exact ⟨0, Nat.zero_le _, rfl, by simp [allSmall]⟩
  case round =>
    obtain ⟨k, hk, rfl, ha⟩ := hrel
    have HA := Lib.hid ha
    clear ha
    by_cases hlt : k < s.size
    · go_wp2_with (go_at_call 109; refine (rsmall_any _ _).mono ?_; rintro e w' ⟨rfl, rfl⟩)
      · have hp : (!smallI ↑s[k].toNat) = true := by assumption
        go_ret
        have h0 : allSmall s.data.toList = false := all_false_at (fun c => smallI c.toNat) s k hlt (by simpa using hp)
        exact ⟨ret_bool (by rw [h0]; simp), rfl⟩
      · have hp : (!smallI ↑s[k].toNat) = false := by assumption
        go_round
        case rel => exact ⟨k + 1, by omega, by go_num, by unfold allSmall; rw [all_take_succ _ _ _ hlt]; have := HA.out; unfold allSmall at this; rw [this]; simpa using hp⟩
        case measure => simp [intOf]; omega
    · have hall : allSmall s.data.toList = true := by have := HA.out; rw [List.take_of_length_le (by simp; omega)] at this; exact this
      have HAll := Lib.hid hall
      clear hall
      by_cases h1 : 1 ≤ s.size
      · by_cases h2 : s.size ≤ 16
        · go_wp2
          go_ret
          exact ⟨ret_bool (by simp [HAll.out]; omega), rfl⟩
        · go_wp2
          go_ret
          exact ⟨ret_bool (by simp; omega), rfl⟩
      · go_wp2
        go_ret
        exact ⟨ret_bool (by simp), rfl⟩

/-- The third form by the last two letters. -/
def thirdR (l : List UInt8) (x y : Nat) : List UInt8 :=
  if y = 115 ∨ y = 120 ∨ y = 122 then l ++ [101, 115]
  else if y = 104 ∧ (x = 99 ∨ x = 115) then l ++ [101, 115]
  else if y = 111 ∧ vowelI x = false then l ++ [101, 115]
  else if y = 121 ∧ vowelI x = false then l.take (l.length - 1) ++ [105, 101, 115]
  else l ++ [115]
theorem third_pair (x y : UInt8) : thirdS [x, y] = thirdR [x, y] x.toNat y.toNat := by
  have n : ∀ (a b : UInt8), (a = b) = (a.toNat = b.toNat) := fun a b => by rw [UInt8.toNat_inj]
  have e1 : ∀ c : UInt8, Lib.hasSuffix [x, y] [c] = decide (y.toNat = c.toNat) := by
    intro c
    rw [Bool.eq_iff_iff, Lib.hasSuffix, List.isSuffixOf_iff_suffix, decide_eq_true_eq, ← n]
    constructor
    · rintro ⟨p, hp⟩
      match p, hp with
      | [z], h => simp at h; exact h.2.symm
      | [], h => simp at h
      | z :: z' :: r, h => simp at h
    · rintro rfl; exact ⟨[x], rfl⟩
  have e2 : ∀ c d : UInt8, Lib.hasSuffix [x, y] [c, d] = decide (x.toNat = c.toNat ∧ y.toNat = d.toNat) := by
    intro c d
    rw [Bool.eq_iff_iff, Lib.hasSuffix, List.isSuffixOf_iff_suffix, decide_eq_true_eq, ← n, ← n]
    constructor
    · rintro ⟨p, hp⟩
      match p, hp with
      | [], h => simp at h; exact ⟨h.1.symm, h.2.symm⟩
      | z :: r, h => simp at h; have := congrArg List.length h.2; simp at this
    · rintro ⟨rfl, rfl⟩; exact ⟨[], rfl⟩
  have e0 : Lib.hasSuffix [x, y] [] = true := by simp [Lib.hasSuffix]
  have t1 : ∀ c : UInt8, y.toNat = c.toNat → hardS (Lib.trimSuffix [x, y] [c]) = !vowelI x.toNat := by
    intro c hc
    have : Lib.trimSuffix [x, y] [c] = [x] := by rw [Lib.trimSuffix, if_pos (by rw [e1]; simpa using hc)]; rfl
    rw [this, hardS]
    simp [vowel_one]
  have f1 := t1 111
  have f2 := t1 121
  unfold thirdS endsS
  simp only [List.find?, fitsS, e1, e2, e0]
  unfold thirdR
  by_cases h1 : y.toNat = 115
  · simp [h1, putS]
  · by_cases h2 : y.toNat = 120
    · simp [h2, putS]
    · by_cases h3 : y.toNat = 122
      · simp [h3, putS]
      · by_cases h4 : y.toNat = 104
        · by_cases h5 : x.toNat = 99
          · simp [h4, h5, putS]
          · by_cases h6 : x.toNat = 115
            · simp [h4, h6, putS]
            · simp [h4, h5, h6, putS]
        · by_cases h5 : y.toNat = 111
          · have := f1 h5
            cases hv : vowelI x.toNat
            · rw [hv] at this; simp [h5, this, putS]
            · rw [hv] at this; simp [h5, this, putS]
          · by_cases h6 : y.toNat = 121
            · have := f2 h6
              cases hv : vowelI x.toNat
              · rw [hv] at this; simp [h6, this, putS]
              · rw [hv] at this; simp [h6, this, putS]
            · simp [h1, h2, h3, h4, h5, h6, putS]
theorem third_single (y : UInt8) : thirdS [y] = if y.toNat = 115 ∨ y.toNat = 120 ∨ y.toNat = 122 then [y, 101, 115] else [y, 115] := by
  have h : ∀ n, n < 256 → thirdS [UInt8.ofNat n] = if (UInt8.ofNat n).toNat = 115 ∨ (UInt8.ofNat n).toNat = 120 ∨ (UInt8.ofNat n).toNat = 122 then [UInt8.ofNat n, 101, 115] else [UInt8.ofNat n, 115] := by decide +kernel
  have := h y.toNat (UInt8.toNat_lt _)
  simpa using this
theorem thirdR_app (p : List UInt8) (x y : UInt8) (a b : Nat) : thirdR (p ++ [x, y]) a b = p ++ thirdR [x, y] a b := by
  have e : (p ++ [x, y]).take ((p ++ [x, y]).length - 1) = p ++ [x] := by
    rw [List.take_append, List.take_of_length_le (by simp)]
    congr 1
    have : (p ++ [x, y]).length - 1 - p.length = 1 := by simp
    rw [this]; rfl
  unfold thirdR
  rw [e]
  by_cases c1 : b = 115 ∨ b = 120 ∨ b = 122
  · rw [if_pos c1, if_pos c1]; simp
  · rw [if_neg c1, if_neg c1]
    by_cases c2 : b = 104 ∧ (a = 99 ∨ a = 115)
    · rw [if_pos c2, if_pos c2]; simp
    · rw [if_neg c2, if_neg c2]
      by_cases c3 : b = 111 ∧ vowelI a = false
      · rw [if_pos c3, if_pos c3]; simp
      · rw [if_neg c3, if_neg c3]
        by_cases c4 : b = 121 ∧ vowelI a = false
        · rw [if_pos c4, if_pos c4]; simp
        · rw [if_neg c4, if_neg c4]; simp
theorem third_long (l : List UInt8) (x y : UInt8) (h : 2 ≤ l.length) (hx : l[l.length - 2]? = some x) (hy : l[l.length - 1]? = some y) : thirdS l = thirdR l x.toNat y.toNat := by
  have hl : l = l.take (l.length - 2) ++ [x, y] := by
    have h2 : (l.drop (l.length - 2)) = [x, y] := by
      apply List.ext_getElem?
      intro i
      rw [List.getElem?_drop]
      match i with
      | 0 => simpa using hx
      | 1 => rw [show l.length - 2 + 1 = l.length - 1 by omega]; simpa using hy
      | i + 2 => rw [List.getElem?_eq_none (by omega)]; simp
    rw [← h2, List.take_append_drop]
  obtain ⟨p, hp⟩ : ∃ p, p = l.take (l.length - 2) := ⟨_, rfl⟩
  rw [← hp] at hl
  subst hl
  rw [third_two, third_pair]
  exact (thirdR_app p x y _ _).symm

set_option maxRecDepth 100000 in
set_option maxHeartbeats 4000000 in
theorem rThirdOf_any (s : ByteArray) (w : World) (h1 : 1 ≤ s.size) (hs : s.size ≤ 1000000) :
    Calls Tryz.prog 127 #[.string s] w fun e w' => e = .returned (.string ⟨(thirdS s.data.toList).toArray⟩) ∧ Below w.heap.size w w' := by
  have hlen := len_data s
  obtain ⟨y, hy⟩ : ∃ y : UInt8, s.data.toList[s.size - 1]? = some y := ⟨s.data.toList[s.size - 1]'(by omega), List.getElem?_eq_getElem _⟩
  have hyy : s[s.size - 1]'(Nat.sub_lt h1 (by decide)) = y := by
    rw [List.getElem?_eq_getElem (by omega)] at hy
    rw [← Option.some.inj hy]; simp [ByteArray.getElem_eq_getElem_data]
  have hlt1 : s.size - 1 < s.size := by omega
  have i1 : IntKind.i64.wrap ((s.size : Int) - 1) = (s.size : Int) - 1 := IntWalk.i64_in _ (by omega)
  have i2 : ((s.size : Int) - 1).toNat = s.size - 1 := by omega
  have i3 : (0 : Int) ≤ (s.size : Int) - 1 := by omega
  have i4 : (s.size : Int) - 1 < s.size := by omega
  have i5 : (s.size : Int) - 1 ≤ s.size := by omega
  have a1 : ∀ w, (Op.stringOp .add s ⟨#[101, 115]⟩).run Tryz.prog w = .ok (.string ⟨(s.data.toList ++ [101, 115]).toArray⟩) w := fun w => by rw [← cat_str]; exact run_string_add_sum w _ _ (by have h1 : (⟨#[101, 115]⟩ : ByteArray).size = 2 := rfl; omega)
  have a2 : ∀ w, (Op.stringOp .add s ⟨#[115]⟩).run Tryz.prog w = .ok (.string ⟨(s.data.toList ++ [115]).toArray⟩) w := fun w => by rw [← cat_str]; exact run_string_add_sum w _ _ (by have h1 : (⟨#[115]⟩ : ByteArray).size = 1 := rfl; omega)
  have a3 : ∀ w, (Op.stringOp .add (s.extract 0 (s.size - 1)) ⟨#[105, 101, 115]⟩).run Tryz.prog w = .ok (.string ⟨(s.data.toList.take (s.size - 1) ++ [105, 101, 115]).toArray⟩) w := fun w => by rw [← cut_str]; exact run_string_add_sum w _ _ (by have h1 : (⟨#[105, 101, 115]⟩ : ByteArray).size = 3 := rfl; simp; omega)
  by_cases h2 : 2 ≤ s.size
  · obtain ⟨x, hx⟩ : ∃ x : UInt8, s.data.toList[s.size - 2]? = some x := ⟨s.data.toList[s.size - 2]'(by omega), List.getElem?_eq_getElem _⟩
    have hxx : s[s.size - 2]'(Nat.sub_lt h1 (by decide)) = x := by
      rw [List.getElem?_eq_getElem (by omega)] at hx
      rw [← Option.some.inj hx]; simp [ByteArray.getElem_eq_getElem_data]
    have hlt2 : s.size - 2 < s.size := by omega
    have hT := third_long s.data.toList x y (by omega) (by rw [hlen]; exact hx) (by rw [hlen]; exact hy)
    have HT := Lib.hid hT
    have HL := Lib.hid hlen
    have j1 : IntKind.i64.wrap ((s.size : Int) - 2) = (s.size : Int) - 2 := IntWalk.i64_in _ (by omega)
    have j2 : ((s.size : Int) - 2).toNat = s.size - 2 := by omega
    have j3 : (0 : Int) ≤ (s.size : Int) - 2 := by omega
    have j4 : (s.size : Int) - 2 < s.size := by omega
    clear hx hy hT hlen
    go_enter Tryz.func127, Tryz.ntmps127
    go_wp2_with (go_at_call 161; refine (rvowel_any _ _).mono ?_; rintro e w' ⟨rfl, rfl⟩)
    all_goals
      go_ret
      refine ⟨ret_str ?_, Below.refl _ _⟩
      rw [HT.out]
      unfold thirdR
      rw [HL.out]
      repeat' split
      all_goals first
        | rfl
        | (exfalso; omega)
        | (exfalso; simp_all; done)
        | (exfalso; simp_all; omega)
  · have hs1 : s.size = 1 := by omega
    have hl : s.data.toList = [y] := by
      have h3 : s.data.toList.length = 1 := by omega
      match hd : s.data.toList, h3 with
      | [z], _ => rw [hd, hs1] at hy; simp at hy; rw [hy]
    have hT := third_single y
    rw [hl]
    have HT := Lib.hid hT
    have HL := Lib.hid hl
    clear hy hT hlen hl hs1
    go_enter Tryz.func127, Tryz.ntmps127
    go_wp2_with (go_at_call 161; refine (rvowel_any _ _).mono ?_; rintro e w' ⟨rfl, rfl⟩)
    all_goals
      go_ret
      refine ⟨ret_str ?_, Below.refl _ _⟩
      rw [HT.out, HL.out]
      repeat' split
      all_goals first
        | rfl
        | (exfalso; omega)
        | (exfalso; simp_all; done)
        | (exfalso; simp_all; omega)

end Go.Proofs.YthmnffgjckpkiaaGreatDoor
namespace Go.Proofs.YthmnffgjckpkiaaGreatDoor
open Go Go.RowKit

def inI (lo hi c : Int) : Bool := decide (lo ≤ c ∧ c ≤ hi)
theorem rin_any (c lo hi : Int) (w : World) :
    Calls Tryz.prog 148 #[.int .u8 c, .int .u8 lo, .int .u8 hi] w fun e w' => e = .returned (.bool (inI lo hi c)) ∧ w = w' := by
  by_cases h1 : lo ≤ c <;> by_cases h2 : c ≤ hi
  all_goals
    have hs : inI lo hi c = (decide (lo ≤ c) && decide (c ≤ hi)) := by simp [inI]
    rw [hs]; clear hs
    go_enter Tryz.func148, Tryz.ntmps148
    go_wp2
    go_ret
    simp [h1, h2]

/-- All bytes from the second one on are as p says, up to the k-th one. -/
def From1 (p : Int → Bool) (s : ByteArray) (k : Nat) : Prop := ∀ j (h : j < s.size), 1 ≤ j → j < k → p s[j].toNat = true
theorem from1_more {p : Int → Bool} {s : ByteArray} {k : Nat} (h : From1 p s k) (hk : k < s.size) (hp : p s[k].toNat = true) : From1 p s (k + 1) := fun j hj h1 h2 => by
  rcases Nat.lt_succ_iff_lt_or_eq.1 h2 with h3 | rfl
  · exact h j hj h1 h3
  · exact hp
theorem tail_get (s : ByteArray) (j : Nat) (h : j < s.data.toList.tail.length) : s.data.toList.tail[j] = s[j + 1]'(by simp at h; omega) := by
  simp [ByteArray.getElem_eq_getElem_data]
theorem tail_all {p : Int → Bool} {s : ByteArray} (h : From1 p s s.size) : allOf p s.data.toList.tail = true := by
  unfold allOf
  rw [List.all_eq_true]
  intro c hc
  obtain ⟨j, hj, rfl⟩ := List.getElem_of_mem hc
  rw [tail_get s j hj]
  have hj' : j + 1 < s.size := by simp at hj; omega
  exact h (j + 1) hj' (by omega) hj'
theorem tail_bad {p : Int → Bool} {s : ByteArray} {k : Nat} (h1 : 1 ≤ k) (h : k < s.size) (hp : p s[k].toNat = false) : allOf p s.data.toList.tail = false := by
  unfold allOf
  rw [List.all_eq_false]
  refine ⟨s[k], ?_, by simp [hp]⟩
  have hl : k - 1 < s.data.toList.tail.length := by simp; omega
  have := List.getElem_mem hl
  rw [tail_get s (k - 1) hl] at this
  have e : k - 1 + 1 = k := by omega
  simp only [e] at this
  exact this

/-- Letters and digits behind the first byte. -/
def lettersS (l : List UInt8) : Bool := decide (1 ≤ l.length ∧ l.length ≤ 16) && allOf alnumI l.tail
theorem alnum_in (c : Int) : alnumI c = (inI 48 57 c || (inI 65 90 c || inI 97 122 c)) := by
  unfold alnumI smallI capI digI inI
  rw [Bool.eq_iff_iff]; simp; omega

set_option maxHeartbeats 1000000 in
theorem rletters_any (s : ByteArray) (w : World) (hs : s.size ≤ 9223372036854775807) :
    Calls Tryz.prog 147 #[.string s, .bool false] w fun e w' => e = .returned (.bool (lettersS s.data.toList)) ∧ w = w' := by
  go_enter Tryz.func147, Tryz.ntmps147
  go_wp2
  go_loop [5] (fun i => ∃ k : Nat, 1 ≤ k ∧ k ≤ s.size + 1 ∧ i = .int .i64 k ∧ From1 alnumI s k) (fun i => s.size + 1 - (intOf i).toNat)
  case atStart => exact ⟨1, by omega, by omega, rfl, fun j _ h1 h2 => by omega⟩
  case round =>
    obtain ⟨k, h1, hk, rfl, ha⟩ := hrel
    have HA := Lib.hid ha
    clear ha
    by_cases hlt : k < s.size
    · have hal := alnum_in s[k].toNat
      have HAl := Lib.hid hal
      clear hal
      go_wp2_with (go_at_call 148; refine (rin_any _ _ _ _).mono ?_; rintro e w' ⟨rfl, rfl⟩)
      · have hp : inI 48 57 ↑s[k].toNat = true := by assumption
        go_round
        case rel => exact ⟨k + 1, by omega, by omega, by go_num, from1_more HA.out hlt (by rw [HAl.out, hp]; rfl)⟩
        case measure => simp [intOf]; omega
      · have hp : inI 65 90 ↑s[k].toNat = true := by assumption
        go_round
        case rel => exact ⟨k + 1, by omega, by omega, by go_num, from1_more HA.out hlt (by rw [HAl.out, hp]; simp)⟩
        case measure => simp [intOf]; omega
      · have hp : ¬ inI 48 57 ↑s[k].toNat = true := by assumption
        have hq : ¬ inI 65 90 ↑s[k].toNat = true := by assumption
        have hr : (!inI 97 122 ↑s[k].toNat) = true := by assumption
        go_ret
        have h0 := tail_bad (p := alnumI) h1 hlt (by rw [HAl.out, eq_false_of_ne_true hp, eq_false_of_ne_true hq, (by simpa using hr : inI 97 122 ↑s[k].toNat = false)]; rfl)
        exact ⟨ret_bool (by unfold lettersS; rw [h0, Bool.and_false]), rfl⟩
      · have hr : (!inI 97 122 ↑s[k].toNat) = false := by assumption
        go_round
        case rel => exact ⟨k + 1, by omega, by omega, by go_num, from1_more HA.out hlt (by rw [HAl.out, (by simpa using hr : inI 97 122 ↑s[k].toNat = true)]; simp)⟩
        case measure => simp [intOf]; omega
    · have hall := tail_all (p := alnumI) (s := s) (fun j hj h2 _ => HA.out j hj h2 (by omega))
      have HAll := Lib.hid hall
      clear hall
      by_cases h3 : 0 < s.size
      · by_cases h4 : s.size ≤ 16
        · go_wp2
          go_ret
          exact ⟨ret_bool (by unfold lettersS; rw [HAll.out, len_data]; rw [Bool.eq_iff_iff]; simp; omega), rfl⟩
        · go_wp2
          go_ret
          exact ⟨ret_bool (by unfold lettersS; rw [HAll.out, len_data]; rw [Bool.eq_iff_iff]; simp; omega), rfl⟩
      · go_wp2
        go_ret
        exact ⟨ret_bool (by unfold lettersS; rw [HAll.out, len_data]; simp; omega), rfl⟩

/-- The five words that are no names of functions. -/
def resR : List (List UInt8) := [[97, 108, 108], [115, 111, 109, 101], [102, 97, 108, 115, 101], [110, 101, 120, 116], [97, 108, 119, 97, 121, 115]]
theorem letters_pos {l : List UInt8} (h : lettersS l = true) : 1 ≤ l.length ∧ l.length ≤ 16 := by
  unfold lettersS at h; simp only [Bool.and_eq_true, decide_eq_true_eq] at h; exact h.1
theorem nameS_no {f : Int → Bool} {l : List UInt8} (h : lettersS l = false) : nameS f l = false := by
  unfold lettersS at h
  unfold nameS
  cases h1 : decide (1 ≤ l.length ∧ l.length ≤ 16)
  · rfl
  · rw [h1, Bool.true_and] at h
    rw [h]; simp
theorem rname_yes {f : Int → Bool} {l : List UInt8} (h : lettersS l = true) (hr : reservedS l = true → f (l.headD 0).toNat = false) : nameS f l = f (l.headD 0).toNat := by
  unfold lettersS at h
  unfold nameS
  simp only [Bool.and_eq_true] at h
  rw [h.1, h.2]
  cases hc : reservedS l
  · simp
  · rw [hr hc]; rfl
theorem res_head {l : List UInt8} (h : reservedS l = true) : ∃ c : UInt8, l.headD 0 = c ∧ 97 ≤ c.toNat := by
  unfold reservedS reservedL at h
  simp at h
  rcases h with rfl | rfl | rfl | rfl | rfl | rfl
  all_goals exact ⟨_, rfl, by decide⟩
theorem fn_res {l : List UInt8} (h : reservedS l = true) (hn : l ∉ resR) : fnI (l.headD 0).toNat = false := by
  unfold reservedS reservedL at h
  unfold resR at hn
  simp at h hn
  rcases h with rfl | rfl | rfl | rfl | rfl | rfl
  all_goals first | decide | (simp at hn)
theorem fn_in (c : Int) : fnI c = inI 97 116 c := rfl
theorem cap_in (c : Int) : capI c = inI 65 90 c := rfl

set_option maxHeartbeats 1000000 in
theorem rPredicate_any (s : ByteArray) (w : World) (hs : s.size ≤ 9223372036854775807) :
    Calls Tryz.prog 108 #[.string s] w fun e w' => e = .returned (.bool (nameS capI s.data.toList)) ∧ w = w' := by
  cases hl : lettersS s.data.toList
  · rw [nameS_no hl]
    have HL := Lib.hid hl
    clear hl
    go_enter Tryz.func108, Tryz.ntmps108
    go_wp2_with fail
    refine (HL.out ▸ rletters_any s w hs).mono ?_
    rintro e w' ⟨rfl, rfl⟩
    go_wp2
    go_ret
    exact ⟨rfl, rfl⟩
  · have hp := letters_pos hl
    rw [len_data] at hp
    rw [rname_yes hl (fun h => by obtain ⟨c, hc, h97⟩ := res_head h; rw [hc]; unfold capI; simp; omega), headD_get (by omega), cap_in]
    have HL := Lib.hid hl
    clear hl
    have h0 : 0 < s.size := by omega
    go_enter Tryz.func108, Tryz.ntmps108
    go_wp2_with fail
    refine (HL.out ▸ rletters_any s w hs).mono ?_
    rintro e w' ⟨rfl, rfl⟩
    go_wp2_with (go_at_call 148; refine (rin_any _ _ _ _).mono ?_; rintro e w' ⟨rfl, rfl⟩)
    go_ret
    exact ⟨rfl, rfl⟩
set_option maxHeartbeats 1000000 in
theorem rSynFunction_any (s : ByteArray) (w : World) (hs : s.size ≤ 9223372036854775807) :
    Calls Tryz.prog 106 #[.string s] w fun e w' => e = .returned (.bool (nameS fnI s.data.toList)) ∧ w = w' := by
  by_cases hm : s.data.toList ∈ resR
  · have hn : nameS fnI s.data.toList = false := by
      unfold resR at hm
      simp at hm
      rcases hm with h | h | h | h | h <;> (rw [h]; decide)
    rw [hn]
    have he := ByteArray.toList_eq s
    obtain ⟨l, hl⟩ : ∃ l, l = s.data.toList := ⟨_, rfl⟩
    rw [← hl] at he hm
    clear hl hn
    unfold resR at hm
    simp at hm
    rcases hm with rfl | rfl | rfl | rfl | rfl
    all_goals
      go_enter Tryz.func106, Tryz.ntmps106
      go_wp2
      go_ret
      exact ⟨rfl, rfl⟩
  · have hmm := hm
    unfold resR at hmm
    simp only [List.mem_cons, List.not_mem_nil, or_false, not_or] at hmm
    obtain ⟨n1, n2, n3, n4, n5⟩ := hmm
    rw [← ByteArray.toList_eq] at n1 n2 n3 n4 n5
    have n1 := beq_eq_false_iff_ne.2 n1
    have n2 := beq_eq_false_iff_ne.2 n2
    have n3 := beq_eq_false_iff_ne.2 n3
    have n4 := beq_eq_false_iff_ne.2 n4
    have n5 := beq_eq_false_iff_ne.2 n5
    cases hl : lettersS s.data.toList
    · rw [nameS_no hl]
      have HL := Lib.hid hl
      clear hl
      go_enter Tryz.func106, Tryz.ntmps106
      go_wp2_with fail
      refine (HL.out ▸ rletters_any s w hs).mono ?_
      rintro e w' ⟨rfl, rfl⟩
      go_wp2
      go_ret
      exact ⟨rfl, rfl⟩
    · have hp := letters_pos hl
      rw [len_data] at hp
      rw [rname_yes hl (fun h => fn_res h hm), headD_get (by omega), fn_in]
      have HL := Lib.hid hl
      clear hl
      have h0 : 0 < s.size := by omega
      go_enter Tryz.func106, Tryz.ntmps106
      go_wp2_with fail
      refine (HL.out ▸ rletters_any s w hs).mono ?_
      rintro e w' ⟨rfl, rfl⟩
      go_wp2_with (go_at_call 148; refine (rin_any _ _ _ _).mono ?_; rintro e w' ⟨rfl, rfl⟩)
      go_ret
      exact ⟨rfl, rfl⟩
end Go.Proofs.YthmnffgjckpkiaaGreatDoor
namespace Go.Proofs.YthmnffgjckpkiaaGreatDoor
open Go Go.RowKit

theorem bl_irrefl : ∀ a : List UInt8, Op.bytesLess a a = false
  | [] => rfl
  | c :: a => by simp [Op.bytesLess, bl_irrefl a]
theorem bl_trans : ∀ a b c : List UInt8, Op.bytesLess a b = true → Op.bytesLess b c = true → Op.bytesLess a c = true
  | _, [], _, h, _ => by simp [Op.bytesLess] at h
  | _, _ :: _, [], _, h => by simp [Op.bytesLess] at h
  | [], _ :: _, _ :: _, _, _ => rfl
  | x :: a, y :: b, z :: c, h1, h2 => by
    simp only [Op.bytesLess, Bool.or_eq_true, Bool.and_eq_true, decide_eq_true_eq, beq_iff_eq] at h1 h2 ⊢
    rcases h1 with h1 | ⟨rfl, h1⟩
    · rcases h2 with h2 | ⟨rfl, h2⟩
      · exact .inl (UInt8.lt_trans h1 h2)
      · exact .inl h1
    · rcases h2 with h2 | ⟨rfl, h2⟩
      · exact .inl h2
      · exact .inr ⟨rfl, bl_trans a b c h1 h2⟩
theorem bl_tri : ∀ a b : List UInt8, Op.bytesLess a b = false → Op.bytesLess b a = false → a = b
  | [], [], _, _ => rfl
  | [], _ :: _, h, _ => by simp [Op.bytesLess] at h
  | _ :: _, [], _, h => by simp [Op.bytesLess] at h
  | x :: a, y :: b, h1, h2 => by
    simp only [Op.bytesLess, Bool.or_eq_false_iff, Bool.and_eq_false_iff, decide_eq_false_iff_not, beq_eq_false_iff_ne] at h1 h2
    have hxy : x = y := by
      apply UInt8.toNat_inj.1
      have a1 := h1.1
      have a2 := h2.1
      rw [UInt8.lt_iff_toNat_lt] at a1 a2
      omega
    subst hxy
    rw [bl_tri a b (h1.2.resolve_left (fun h => h rfl)) (h2.2.resolve_left (fun h => h rfl))]
theorem cmpStr_cases (a b : List UInt8) : (Op.bytesLess a b = true ∧ cmpStr a b = -1) ∨ (a = b ∧ cmpStr a b = 0) ∨ (Op.bytesLess b a = true ∧ cmpStr a b = 1) := by
  unfold cmpStr
  cases h1 : Op.bytesLess a b
  · by_cases h : a = b
    · exact .inr (.inl ⟨h, by simp [h]⟩)
    · cases h2 : Op.bytesLess b a
      · exact absurd (bl_tri a b h1 h2) h
      · exact .inr (.inr ⟨rfl, by simp [h]⟩)
  · exact .inl ⟨rfl, by simp⟩
/-- An entry that stands ahead of another one. -/
def ltE (a b : Ent) : Prop := Op.bytesLess a.w b.w = true ∨ (a.w = b.w ∧ a.cat < b.cat)
theorem lt_iff (a b : Ent) : compareS a b < 0 ↔ ltE a b := by
  unfold compareS orInt ltE cmpInt
  rcases cmpStr_cases a.w b.w with ⟨h1, h2⟩ | ⟨h1, h2⟩ | ⟨h1, h2⟩
  · rw [h2]; simp [h1]
  · rw [h2, h1]
    simp only [bl_irrefl, if_true]
    by_cases h3 : a.cat < b.cat
    · simp [h3]
    · by_cases h4 : b.cat < a.cat <;> simp [h3, h4]
  · rw [h2]
    have h3 : Op.bytesLess a.w b.w = false := by
      cases h : Op.bytesLess a.w b.w
      · rfl
      · have := bl_trans _ _ _ h h1; rw [bl_irrefl] at this; cases this
    have h4 : a.w ≠ b.w := by intro e; rw [e, bl_irrefl] at h1; cases h1
    simp [h3, h4]
theorem ltE_trans {a b c : Ent} (h1 : ltE a b) (h2 : ltE b c) : ltE a c := by
  rcases h1 with h1 | ⟨h1, k1⟩
  · rcases h2 with h2 | ⟨h2, k2⟩
    · exact .inl (bl_trans _ _ _ h1 h2)
    · exact .inl (h2 ▸ h1)
  · rcases h2 with h2 | ⟨h2, k2⟩
    · exact .inl (h1 ▸ h2)
    · exact .inr ⟨h1.trans h2, by omega⟩
theorem thoseTo_nil {p : Ent → Bool} {l : List Ent} {k : Nat} (hk : k ≤ l.length) : thoseTo p l k = [] ↔ ∀ j (h : j < k), p (l[j]'(by omega)) = false := by
  unfold thoseTo
  rw [List.filter_eq_nil_iff]
  constructor
  · intro h j hj
    have := h j (by simpa using hj)
    rw [List.getElem?_eq_getElem (by omega)] at this
    simpa using this
  · intro h j hj
    have hj : j < k := by simpa using hj
    rw [List.getElem?_eq_getElem (by omega)]
    simp [h j hj]
theorem step_iff {l : List Ent} {i : Nat} (hi : i < l.length) : stepS l i = true ↔ rightS l[i] = true ∧ (∀ h : 0 < i, ltE (l[i - 1]'(by omega)) l[i]) ∧ ∀ j (h : j < i), clashS (l[j]'(by omega)) l[i] = false := by
  rw [stepS_eq hi]
  simp only [Bool.and_eq_true, decide_eq_true_eq, thoseTo_nil (Nat.le_of_lt hi)]
  constructor
  · rintro ⟨h1, h2, h3⟩
    refine ⟨h1, fun h0 => ?_, h3⟩
    have e : (i == 0) = false := by simp; omega
    rw [e, Bool.false_or, List.getElem?_eq_getElem (by omega)] at h2
    exact (lt_iff _ _).1 (by simpa using h2)
  · rintro ⟨h1, h2, h3⟩
    refine ⟨h1, ?_, h3⟩
    by_cases h0 : i = 0
    · simp [h0]
    · have := (lt_iff _ _).2 (h2 (by omega))
      rw [List.getElem?_eq_getElem (by omega)]
      simp [this]
/-- What 'Valid' says in other words. -/
theorem valid_iff (l : List Ent) : validS l = true ↔ l.length ≤ 100 ∧ (∀ e ∈ l, rightS e = true) ∧ l.Pairwise ltE ∧ l.Pairwise (fun a b => clashS a b = false) := by
  have hall : validS l = true ↔ l.length ≤ 100 ∧ ∀ i, i < l.length → stepS l i = true := by
    unfold validS
    rw [Bool.and_eq_true, decide_eq_true_eq, List.all_eq_true]
    constructor
    · rintro ⟨h1, h2⟩; exact ⟨h1, fun i hi => h2 i (by simpa using hi)⟩
    · rintro ⟨h1, h2⟩; exact ⟨h1, fun i hi => h2 i (by simpa using hi)⟩
  rw [hall]
  constructor
  · rintro ⟨h1, h2⟩
    have hs := fun i (hi : i < l.length) => (step_iff hi).1 (h2 i hi)
    refine ⟨h1, ?_, ?_, ?_⟩
    · intro e he
      obtain ⟨i, hi, rfl⟩ := List.getElem_of_mem he
      exact (hs i hi).1
    · rw [List.pairwise_iff_getElem]
      have : ∀ d i (hi : i + d + 1 < l.length), ltE (l[i]'(by omega)) (l[i + d + 1]'hi) := by
        intro d
        induction d with
        | zero => intro i hi; exact (hs (i + 1) hi).2.1 (by omega)
        | succ d ih =>
          intro i hi
          exact ltE_trans (ih i (by omega)) ((hs (i + (d + 1) + 1) hi).2.1 (by omega))
      intro i j hi hj hij
      have h := this (j - i - 1) i (by omega)
      have e : i + (j - i - 1) + 1 = j := by omega
      simp only [e] at h
      exact h
    · rw [List.pairwise_iff_getElem]
      intro i j hi hj hij
      exact (hs j hj).2.2 i hij
  · rintro ⟨h1, h2, h3, h4⟩
    rw [List.pairwise_iff_getElem] at h3 h4
    refine ⟨h1, fun i hi => (step_iff hi).2 ⟨h2 _ (List.getElem_mem hi), fun h0 => h3 (i - 1) i (by omega) hi (by omega), fun j hj => h4 j i (by omega) hi hj⟩⟩
end Go.Proofs.YthmnffgjckpkiaaGreatDoor
namespace Go.Proofs.YthmnffgjckpkiaaGreatDoor
open Go Go.RowKit

theorem clash_comm (a b : Ent) : clashS a b = clashS b a := by
  unfold clashS
  rw [Bool.eq_iff_iff]
  simp only [Bool.and_eq_true, beq_iff_eq, bne_iff_ne, ne_eq]
  constructor
  · rintro ⟨h1, h2, h3, h4⟩; exact ⟨h1.symm, h3, h2, fun h => h4 h.symm⟩
  · rintro ⟨h1, h2, h3, h4⟩; exact ⟨h1.symm, h3, h2, fun h => h4 h.symm⟩
theorem clash_self (e : Ent) : clashS e e = false := by unfold clashS; simp
theorem clash_none {l : List Ent} (h : validS l = true) {i : Nat} (hi : i < l.length) : ∀ o ∈ l, clashS o l[i] = false := by
  obtain ⟨_, _, _, h4⟩ := (valid_iff l).1 h
  rw [List.pairwise_iff_getElem] at h4
  intro o ho
  obtain ⟨j, hj, rfl⟩ := List.getElem_of_mem ho
  rcases Nat.lt_trichotomy j i with hji | rfl | hji
  · exact h4 j i hj hi hji
  · exact clash_self _
  · rw [clash_comm]; exact h4 i j hi hj hji
/-- Where the reference's 'Valid' says no. -/
theorem rval_right {l : List Ent} {i : Nat} (hi : i < l.length) (h : rightS l[i] = false) : validS l = false := by
  cases hv : validS l
  · rfl
  · have := ((valid_iff l).1 hv).2.1 _ (List.getElem_mem hi); rw [h] at this; cases this
theorem rval_ahead {l : List Ent} {i : Nat} (hi : i < l.length) (h0 : 0 < i) (h : ¬ ltE (l[i - 1]'(by omega)) l[i]) : validS l = false := by
  cases hv : validS l
  · rfl
  · have h3 := ((valid_iff l).1 hv).2.2.1
    rw [List.pairwise_iff_getElem] at h3
    exact absurd (h3 (i - 1) i (by omega) hi (by omega)) h
theorem rval_clash {l : List Ent} {i : Nat} (hi : i < l.length) (h : l.any (fun o => clashS o l[i]) = true) : validS l = false := by
  cases hv : validS l
  · rfl
  · obtain ⟨o, ho, hc⟩ := List.any_eq_true.1 h
    have := clash_none hv hi o ho
    rw [this] at hc; cases hc
/-- What the reference's 'Valid' asks at the i-th entry. -/
def rstepB (l : List Ent) (i : Nat) : Prop := ∀ h : i < l.length, rightS l[i] = true ∧ (∀ _h0 : 0 < i, ltE (l[i - 1]'(by omega)) l[i]) ∧ l.any (fun o => clashS o l[i]) = false
theorem rval_all {l : List Ent} (h : ∀ i, i < l.length → rstepB l i) : validS l = decide (l.length ≤ 100) := by
  by_cases hl : l.length ≤ 100
  · rw [decide_eq_true hl]
    unfold validS
    rw [decide_eq_true hl, Bool.true_and, List.all_eq_true]
    intro i hi
    have hi : i < l.length := by simpa using hi
    obtain ⟨h1, h2, h3⟩ := h i hi hi
    refine (step_iff hi).2 ⟨h1, h2, fun j hj => ?_⟩
    rw [List.any_eq_false] at h3
    simpa using h3 _ (List.getElem_mem (show j < l.length by omega))
  · rw [decide_eq_false hl]
    simp [validS, hl]
/-- The order of entries as the reference asks for it. -/
def aheadS (a b : Ent) : Bool := Op.bytesLess a.w b.w || (a.w == b.w && decide (a.cat < b.cat))
theorem ahead_iff (a b : Ent) : aheadS a b = true ↔ ltE a b := by
  unfold aheadS ltE
  simp
/-- What the reference's 'Look' has found after k entries. -/
def lookTo (tok : List UInt8) (l : List Ent) (k : Nat) : List (Nat × Bool) := (thoseTo (formS tok) l k).map (formAt tok l)
theorem lookTo_all (tok : List UInt8) (l : List Ent) : lookTo tok l l.length = lookS tok l := rfl
theorem lookTo_len (tok : List UInt8) (l : List Ent) (k : Nat) : (lookTo tok l k).length ≤ k := by
  unfold lookTo; rw [List.length_map]; exact thoseTo_len _ _ _
theorem lookTo_no {tok : List UInt8} {l : List Ent} {k : Nat} (hk : k < l.length) (h : formS tok l[k] = false) : lookTo tok l (k + 1) = lookTo tok l k := by
  unfold lookTo; rw [thoseTo_no hk h]
theorem lookTo_yes {tok : List UInt8} {l : List Ent} {k : Nat} (hk : k < l.length) (h : formS tok l[k] = true) : lookTo tok l (k + 1) = lookTo tok l k ++ [(k, l[k].w != tok)] := by
  unfold lookTo; rw [thoseTo_yes hk h, List.map_append, List.map_singleton, formAt_eq tok hk]
theorem right_cat {e : Ent} (h : rightS e = true) : e.cat = 1 ∨ e.cat = 2 ∨ e.cat = 3 ∨ e.cat = 4 ∨ e.cat = 5 := by
  unfold rightS at h
  split at h
  · omega
  · split at h
    · omega
    · cases h
theorem right_plain {e : Ent} (h : rightS e = true) (hv : 4 ≤ e.cat) : plainS e.w = true := by
  have hc := right_cat h
  unfold rightS at h
  rw [if_neg (by omega), if_pos (by omega)] at h
  simp only [Bool.and_eq_true] at h
  exact h.1
theorem form_noun {e : Ent} {tok : List UInt8} (hc : ¬ 4 ≤ e.cat) : formS tok e = (e.w == tok) := by
  have h4 : (e.cat == 4) = false := by simp; omega
  have h5 : (e.cat == 5) = false := by simp; omega
  unfold formS isThird
  rw [h4, h5]; simp
theorem form_verb {e : Ent} {tok : List UInt8} (h : rightS e = true) (hc : 4 ≤ e.cat) : formS tok e = (e.w == tok || thirdS e.w == tok) := by
  have hp := right_plain h hc
  have hcat := right_cat h
  have h45 : (e.cat == 4 || e.cat == 5) = true := by simp; omega
  unfold formS isThird thirdE thirdV
  rw [h45, hp]; simp
end Go.Proofs.YthmnffgjckpkiaaGreatDoor
namespace Go.Proofs.YthmnffgjckpkiaaGreatDoor
open Go Go.RowKit

theorem allSmall_of (l : List UInt8) : allSmall l = allOf smallI l := rfl
theorem proper_of {s : ByteArray} (h : 0 < s.size) (h2 : s.size ≤ 16) : properS s.data.toList = (capitalI s[0].toNat && allOf smallI s.data.toList.tail) := by
  unfold properS
  rw [headD_get h, len_data, allSmall_of]
  have e1 : decide (1 ≤ s.size ∧ s.size ≤ 16) = true := by simp; omega
  have e2 : (letterI s[0].toNat && !smallI s[0].toNat) = capitalI s[0].toNat := by
    unfold letterI smallI capitalI; rw [Bool.eq_iff_iff]; simp; omega
  rw [e1, Bool.true_and, ← Bool.and_assoc, e2]
theorem proper_len {s : ByteArray} (h : ¬ (0 < s.size ∧ s.size ≤ 16)) : properS s.data.toList = false := by
  unfold properS
  rw [len_data]
  have e1 : decide (1 ≤ s.size ∧ s.size ≤ 16) = false := by simp; omega
  rw [e1]; rfl
theorem proper_tail {s : ByteArray} (h : allOf smallI s.data.toList.tail = false) : properS s.data.toList = false := by
  unfold properS
  rw [allSmall_of, h]; simp
set_option maxHeartbeats 1000000 in
theorem rProper_any (s : ByteArray) (w : World) (hs : s.size ≤ 9223372036854775807) :
    Calls Tryz.prog 105 #[.string s] w fun e w' => e = .returned (.bool (properS s.data.toList)) ∧ w = w' := by
  go_enter Tryz.func105, Tryz.ntmps105
  go_wp2
  go_loop [3] (fun i => ∃ k : Nat, 1 ≤ k ∧ k ≤ s.size + 1 ∧ i = .int .i64 k ∧ From1 smallI s k) (fun i => s.size + 1 - (intOf i).toNat)
  case atStart => exact ⟨1, by omega, by omega, rfl, fun j _ h1 h2 => by omega⟩
  case round =>
    obtain ⟨k, h1, hk, rfl, ha⟩ := hrel
    have HA := Lib.hid ha
    clear ha
    by_cases hlt : k < s.size
    · go_wp2_with (go_at_call 109; refine (rsmall_any _ _).mono ?_; rintro e w' ⟨rfl, rfl⟩)
      · have hp : (!smallI ↑s[k].toNat) = true := by assumption
        go_ret
        have h0 := tail_bad (p := smallI) h1 hlt (by simpa using hp)
        exact ⟨ret_bool (by rw [proper_tail h0]), rfl⟩
      · have hp : (!smallI ↑s[k].toNat) = false := by assumption
        go_round
        case rel => exact ⟨k + 1, by omega, by omega, by go_num, from1_more HA.out hlt (by simpa using hp)⟩
        case measure => simp [intOf]; omega
    · have hall := tail_all (p := smallI) (s := s) (fun j hj h2 _ => HA.out j hj h2 (by omega))
      have HAll := Lib.hid hall
      clear hall
      by_cases h3 : 0 < s.size
      · have h3' : 1 ≤ s.size := h3
        by_cases h4 : s.size ≤ 16
        · have HP := Lib.hid (proper_of h3 h4)
          go_wp2_with (go_at_call 110; refine (rcapital_any _ _).mono ?_; rintro e w' ⟨rfl, rfl⟩)
          go_ret
          exact ⟨ret_bool (by rw [HP.out, HAll.out, Bool.and_true]), rfl⟩
        · have HP := Lib.hid (proper_len (s := s) (by omega))
          go_wp2
          go_ret
          exact ⟨ret_bool (by rw [HP.out]), rfl⟩
      · have HP := Lib.hid (proper_len (s := s) (by omega))
        go_wp2
        go_ret
        exact ⟨ret_bool (by rw [HP.out]), rfl⟩

set_option maxRecDepth 100000 in
set_option maxHeartbeats 2000000 in
theorem rRight_any (w : World) (e : Ent) (he : e.ok) :
    Calls Tryz.prog 66 #[.agg #[.string e.word, .int .u8 e.cat, .string e.sym]] w fun r w' => r = .returned (.bool (rightS e)) ∧ Below w.heap.size w w' := by
  obtain ⟨hw, hsy⟩ := he
  have hw' : e.word.size ≤ 9223372036854775807 := by unfold maxLen at hw; omega
  have hs' : e.sym.size ≤ 9223372036854775807 := by unfold maxLen at hsy; omega
  obtain ⟨word, c, sym⟩ := e
  simp only at hw hsy hw' hs' ⊢
  have hB : Below w.heap.size w (w.alloc (.cells #[.string word, .int .u8 c, .string sym] 72)) := (Below.refl _ _).alloc (Nat.le_refl _) _
  by_cases h3 : c = 3
  · subst h3
    have hr : rightS ⟨word, 3, sym⟩ = (properS word.data.toList && nameS fnI sym.data.toList) := by simp [rightS, Ent.w, Ent.s]
    rw [hr]; clear hr
    go_enter Tryz.func66, Tryz.ntmps66
    go_wp2_with (first
      | (go_at_call 105; refine (rProper_any _ _ hw').mono ?_; rintro e w' ⟨rfl, rfl⟩)
      | (go_at_call 106; refine (rSynFunction_any _ _ hs').mono ?_; rintro e w' ⟨rfl, rfl⟩))
    · have hp : properS word.data.toList = true := by assumption
      go_ret
      exact ⟨ret_bool (by rw [hp]; rfl), hB⟩
    · have hp : ¬ properS word.data.toList = true := by assumption
      go_ret
      exact ⟨ret_bool (by rw [eq_false_of_ne_true hp]; rfl), hB⟩
  · by_cases h4 : c = 1 ∨ c = 2 ∨ c = 4 ∨ c = 5
    · have hr : rightS ⟨word, c, sym⟩ = (plainS word.data.toList && (!isFn word.data.toList && nameS capI sym.data.toList)) := by simp [rightS, Ent.w, Ent.s, h3, h4]
      rw [hr]; clear hr h3
      rcases h4 with rfl | rfl | rfl | rfl
      all_goals
        go_enter Tryz.func66, Tryz.ntmps66
        go_wp2_with (first
          | (go_at_call 107; refine (rPlain_any _ _ hw').mono ?_; rintro e w' ⟨rfl, rfl⟩)
          | (go_at_call 70; refine (rFunction_any _ _).mono ?_; rintro e w1 ⟨rfl, rfl⟩)
          | (go_at_call 108; refine (rPredicate_any _ _ hs').mono ?_; rintro e w2 ⟨rfl, rfl⟩))
        · have hp : plainS word.data.toList = true := by assumption
          have hq : isFn word.data.toList = true := by assumption
          go_ret
          exact ⟨ret_bool (by rw [hp, hq]; rfl), hB⟩
        · have hp : plainS word.data.toList = true := by assumption
          have hq : ¬ isFn word.data.toList = true := by assumption
          go_ret
          exact ⟨ret_bool (by rw [hp, eq_false_of_ne_true hq]; rfl), hB⟩
        · have hp : ¬ plainS word.data.toList = true := by assumption
          go_ret
          exact ⟨ret_bool (by rw [eq_false_of_ne_true hp]; rfl), hB⟩
    · have hr : rightS ⟨word, c, sym⟩ = false := by simp [rightS, h3, h4]
      rw [hr]; clear hr
      have e1 : (c == 3) = false := by simpa using h3
      have e2 : (c == 1) = false := by simp; omega
      have e3 : (c == 2) = false := by simp; omega
      have e4 : (c == 4) = false := by simp; omega
      have e5 : (c == 5) = false := by simp; omega
      clear h3 h4
      go_enter Tryz.func66, Tryz.ntmps66
      go_wp2
      go_ret
      exact ⟨rfl, hB⟩

set_option maxHeartbeats 1000000 in
theorem rahead_any (w : World) (a b : Ent) :
    Calls Tryz.prog 67 #[.agg #[.string a.word, .int .u8 a.cat, .string a.sym], .agg #[.string b.word, .int .u8 b.cat, .string b.sym]] w fun e w' => e = .returned (.bool (aheadS a b)) ∧ Below w.heap.size w w' := by
  obtain ⟨aw, ac, as'⟩ := a
  obtain ⟨bw, bc, bs⟩ := b
  simp only [aheadS, Ent.w]
  go_enter Tryz.func67, Tryz.ntmps67
  go_wp2
  all_goals
    go_ret
    refine ⟨ret_bool ?_, ((Below.refl _ _).alloc (Nat.le_refl _) _).alloc (by simp) _⟩
    rw [← ByteArray.toList_eq, ← ByteArray.toList_eq]
    simp_all

theorem any_succ {p : Ent → Bool} {l : List Ent} {k : Nat} (h : k < l.length) (h0 : (l.take k).any p = false) (h1 : p l[k] = false) : (l.take (k + 1)).any p = false := by
  rw [List.take_succ_eq_append_getElem h, List.any_append, h0]; simp [h1]
theorem any_at {p : Ent → Bool} {l : List Ent} {k : Nat} (h : k < l.length) (h1 : p l[k] = true) : l.any p = true := by
  rw [List.any_eq_true]; exact ⟨l[k], List.getElem_mem h, h1⟩
set_option maxRecDepth 100000 in
set_option maxHeartbeats 4000000 in
theorem rclash_any (w : World) (v : Value) (l : List Ent) (hl : EntSlice w v l) (e : Ent) :
    Calls Tryz.prog 68 #[v, .agg #[.string e.word, .int .u8 e.cat, .string e.sym]] w fun r w' => r = .returned (.bool (l.any fun o => clashS o e)) ∧ Below w.heap.size w w' := by
  obtain ⟨⟨a, cap, rfl, hcap, hcm, hform⟩, _⟩ := hl
  have HFo := Lib.hid hform
  clear hform
  have hlm : l.length ≤ 9223372036854775807 := by unfold maxLen at hcm; omega
  have hBb : Below w.heap.size w (w.alloc (.cells #[.string e.word, .int .u8 e.cat, .string e.sym] 72)) := (Below.refl _ _).alloc (Nat.le_refl _) _
  have d1 : (w.alloc (.cells #[.string e.word, .int .u8 e.cat, .string e.sym] 72)).cell? ⟨w.heap.size, 1, none⟩ = some (.int .u8 e.cat) := by simp
  have d2 : (w.alloc (.cells #[.string e.word, .int .u8 e.cat, .string e.sym] 72)).cell? ⟨w.heap.size, 2, none⟩ = some (.string e.sym) := by simp
  go_enter Tryz.func68, Tryz.ntmps68
  go_wp2
  obtain ⟨W1, hW1⟩ : ∃ W1, W1 = w.alloc (.cells #[.string e.word, .int .u8 e.cat, .string e.sym] 72) := ⟨_, rfl⟩
  rw [← hW1] at hBb d1 d2 ⊢
  clear hW1
  go_loopw [5] (fun i wr => ∃ k : Nat, k ≤ l.length ∧ i = .int .i64 k ∧ (l.take k).any (fun o => clashS o e) = false ∧ Below W1.heap.size W1 wr) (fun i _ => l.length - (intOf i).toNat)
  case atStart => exact ⟨0, Nat.zero_le _, rfl, rfl, Below.refl _ _⟩
  case round =>
    obtain ⟨k, hk, rfl, ha, hb⟩ := hrel
    have HA := Lib.hid ha
    clear ha
    by_cases hlt : k < l.length
    · rcases HFo.out with h0 | ⟨b, off, rfl, hbl, hc⟩
      · rw [h0] at hlt; exact absurd hlt (by simp)
      obtain ⟨_, c1, c2⟩ := hc k hlt
      have HS := Lib.hid (fun h => any_succ (p := fun o => clashS o e) hlt HA.out h)
      have HT := Lib.hid (fun h => any_at (p := fun o => clashS o e) hlt h)
      obtain ⟨o, ho⟩ : ∃ o, o = l[k] := ⟨_, rfl⟩
      rw [← ho] at c1 c2 HS HT
      have c1 := cell_kept' hb (cell_kept' hBb c1)
      have c2 := cell_kept' hb (cell_kept' hBb c2)
      have p1 := cell_kept' hb d1
      have p2 := cell_kept' hb d2
      have f0 := fun x : Later wr => x.get c1
      have f1 := fun x : Later wr => x.get c2
      have f2 := fun x : Later wr => x.get p1
      have f3 := fun x : Later wr => x.get p2
      have e3 : (k : Int) < (l.length : Int) := by omega
      have e5 : (0 : Int) ≤ k := by omega
      have hsB : (o.s == e.s) = (o.sym.toList == e.sym.toList) := by unfold Ent.s; rw [ByteArray.toList_eq, ByteArray.toList_eq]
      have HSy := Lib.hid hsB
      clear hc ho hsB
      by_cases hs : o.sym.toList = e.sym.toList
      · have HSe := Lib.hid hs
        cases h3 : (o.cat == 3)
        · cases g3 : (e.cat == 3)
          · cases h5 : (o.cat == 5)
            all_goals cases g5 : (e.cat == 5)
            all_goals
              have n5 : (o.cat != 5) = !(o.cat == 5) := rfl
              have m5 : (e.cat != 5) = !(e.cat == 5) := rfl
              rw [h5] at n5
              rw [g5] at m5
              go_wp2
              refine wp_region_later (by kernel_rfl) (by kernel_rfl) ?_
              repeat (go_big_quiet_step (fail))
              refine wpQuiet_nil ?_
              rintro _ ⟨x, rfl⟩
              go_wp2
              first
                | (go_ret
                   exact ⟨ret_bool (HT.out (by simp [clashS, HSy.out, HSe.out, bne, h3, g3, h5, g5])).symm, hBb.trans ((hb.trans (x.below.mono hb.size)).mono hBb.size)⟩)
                | (go_roundw
                   case rel => exact ⟨k + 1, by omega, by go_num, HS.out (by simp [clashS, HSy.out, HSe.out, bne, h3, g3, h5, g5]), hb.trans (x.below.mono hb.size)⟩
                   case measure => simp [intOf]; omega)
          · go_wp2
            refine wp_region_later (by kernel_rfl) (by kernel_rfl) ?_
            repeat (go_big_quiet_step (fail))
            refine wpQuiet_nil ?_
            rintro _ ⟨x, rfl⟩
            go_wp2
            go_roundw
            case rel => exact ⟨k + 1, by omega, by go_num, HS.out (by simp [clashS, HSy.out, HSe.out, bne, h3, g3]), hb.trans (x.below.mono hb.size)⟩
            case measure => simp [intOf]; omega
        · go_wp2
          refine wp_region_later (by kernel_rfl) (by kernel_rfl) ?_
          repeat (go_big_quiet_step (fail))
          refine wpQuiet_nil ?_
          rintro _ ⟨x, rfl⟩
          go_wp2
          go_roundw
          case rel => exact ⟨k + 1, by omega, by go_num, HS.out (by simp [clashS, HSy.out, HSe.out, bne, h3]), hb.trans (x.below.mono hb.size)⟩
          case measure => simp [intOf]; omega
      · have HSe := Lib.hid hs
        have hs1 : (o.sym.toList == e.sym.toList) = false := beq_eq_false_iff_ne.2 hs
        have hs2 : (o.sym.toList != e.sym.toList) = true := by rw [bne, hs1]; rfl
        go_wp2
        refine wp_region_later (by kernel_rfl) (by kernel_rfl) ?_
        repeat (go_big_quiet_step (fail))
        refine wpQuiet_nil ?_
        rintro _ ⟨x, rfl⟩
        go_wp2
        go_roundw
        case rel => exact ⟨k + 1, by omega, by go_num, HS.out (by simp [clashS, HSy.out, beq_eq_false_iff_ne.2 HSe.out]), hb.trans (x.below.mono hb.size)⟩
        case measure => simp [intOf]; omega
    · obtain rfl : k = l.length := by omega
      go_wp2
      go_ret
      exact ⟨ret_bool (by have := HA.out; rw [List.take_length] at this; exact this.symm), hBb.trans (hb.mono hBb.size)⟩
end Go.Proofs.YthmnffgjckpkiaaGreatDoor
namespace Go.Proofs.YthmnffgjckpkiaaGreatDoor
open Go Go.RowKit

set_option maxRecDepth 100000 in
set_option maxHeartbeats 8000000 in
theorem rValid_any (w : World) (v : Value) (l : List Ent) (hl : EntSlice w v l) :
    Calls Tryz.prog 41 #[v] w fun r w' => r = .returned (.bool (validS l)) ∧ Below w.heap.size w w' := by
  have HL := Lib.hid hl
  obtain ⟨⟨a, cap, rfl, hcap, hcm, hform⟩, hok⟩ := hl
  have HFo := Lib.hid hform
  have HOk := Lib.hid hok
  clear hform hok
  have hlm : l.length ≤ 9223372036854775807 := by unfold maxLen at hcm; omega
  go_enter Tryz.func41, Tryz.ntmps41
  go_wp2
  go_loopw [3] (fun i wr => ∃ k : Nat, k ≤ l.length ∧ i = .int .i64 k ∧ (∀ j, j < k → rstepB l j) ∧ Below w.heap.size w wr) (fun i _ => l.length - (intOf i).toNat)
  case atStart => exact ⟨0, Nat.zero_le _, rfl, fun j hj => by omega, Below.refl _ _⟩
  case round =>
    obtain ⟨k, hk, rfl, ha, hb⟩ := hrel
    have HA := Lib.hid ha
    clear ha
    by_cases hlt : k < l.length
    · rcases HFo.out with h0 | ⟨b, off, rfl, hbl, hc⟩
      · rw [h0] at hlt; exact absurd hlt (by simp)
      obtain ⟨c0, c1, c2⟩ := hc k hlt
      have hprev : ∀ h : 0 < k, _ := fun h => hc (k - 1) (by omega)
      have hoe := HOk.out _ (List.getElem_mem hlt)
      have HRb := Lib.hid (fun h => rval_right hlt h)
      have HAb := Lib.hid (fun h0 h => rval_ahead hlt h0 h)
      have HCb := Lib.hid (fun h => rval_clash hlt h)
      have HStep := Lib.hid (fun (h : rstepB l k) => (fun j (hj : j < k + 1) => by
        rcases Nat.lt_succ_iff_lt_or_eq.1 hj with h' | rfl
        · exact HA.out j h'
        · exact h : ∀ j, j < k + 1 → rstepB l j))
      have hst : (rightS l[k] = true ∧ (∀ _h0 : 0 < k, ltE (l[k - 1]'(by omega)) l[k]) ∧ l.any (fun o => clashS o l[k]) = false) → rstepB l k := fun h _ => h
      have HSt := Lib.hid hst
      obtain ⟨e, he⟩ : ∃ e, e = l[k] := ⟨_, rfl⟩
      rw [← he] at c0 c1 c2 hoe HRb HAb HCb HSt
      have f0 := fun x : Later wr => x.get (cell_kept' hb c0)
      have f1 := fun x : Later wr => x.get (cell_kept' hb c1)
      have f2 := fun x : Later wr => x.get (cell_kept' hb c2)
      have CR := Lib.hid (fun x : Later wr => rRight_any x.w e hoe)
      have CC := Lib.hid (fun x : Later wr => rclash_any x.w _ l ((HL.out.below hb).below x.below) e)
      have e3 : (k : Int) < (l.length : Int) := by omega
      have e5 : (0 : Int) ≤ k := by omega
      clear hst he c0 c1 c2 hoe hc
      cases hr : rightS e
      · rw [hr] at CR
        have HR := Lib.hid hr
        clear hr hprev
        go_wp2
        refine wp_region_later (by kernel_rfl) (by kernel_rfl) ?_
        repeat (go_big_quiet_step ((go_at_call 66; exact later_call (CR.out _))))
        refine wpQuiet_nil ?_
        rintro _ ⟨x, rfl⟩
        go_wp2
        go_ret
        exact ⟨ret_bool (HRb.out HR.out).symm, hb.trans (x.below.mono hb.size)⟩
      rw [hr] at CR
      have HR := Lib.hid hr
      clear hr
      cases hcl : l.any (fun o => clashS o e)
      all_goals
        rw [hcl] at CC
        have HC := Lib.hid hcl
        clear hcl
        by_cases hk0 : 0 < k
        · have hkz : decide (0 < (k : Int)) = true := by simp; omega
          have hkn : decide (0 < k) = true := by simp; omega
          obtain ⟨b0, b1, b2⟩ := hprev hk0
          have HAb2 := Lib.hid (HAb.out hk0)
          have HSt2 := Lib.hid (fun h1 (h2 : ltE (l[k - 1]'(by omega)) e) h3 => HSt.out ⟨h1, fun _ => h2, h3⟩)
          obtain ⟨d, hd⟩ : ∃ d, d = l[k - 1]'(by omega) := ⟨_, rfl⟩
          rw [← hd] at b0 b1 b2 HAb2 HSt2
          have hkk : off + (k - 1) * 3 = off + (k - 1) * 3 := rfl
          have g0 := fun x : Later wr => x.get (cell_kept' hb b0)
          have g1 := fun x : Later wr => x.get (cell_kept' hb b1)
          have g2 := fun x : Later wr => x.get (cell_kept' hb b2)
          have s1 : IntKind.i64.wrap ((k : Int) - 1) = (k : Int) - 1 := IntWalk.i64_in _ (by omega)
          have s2 : (0 : Int) ≤ (k : Int) - 1 := by omega
          have s3 : (k : Int) - 1 < (l.length : Int) := by omega
          have s4 : ((k : Int) - 1).toNat = k - 1 := by omega
          have CA := Lib.hid (fun x : Later wr => rahead_any x.w d e)
          clear hd b0 b1 b2 hkk hprev hk0
          cases hah : aheadS d e
          · rw [hah] at CA
            have HH := Lib.hid hah
            clear hah
            go_wp2
            refine wp_region_later (by kernel_rfl) (by kernel_rfl) ?_
            repeat (go_big_quiet_step ((first | (go_at_call 66; exact later_call (CR.out _)) | (go_at_call 67; exact later_call (CA.out _)))))
            refine wpQuiet_nil ?_
            rintro _ ⟨x, rfl⟩
            clear s1 s2 s3 s4 g0 g1 g2
            go_wp2
            go_ret
            exact ⟨ret_bool (HAb2.out (fun h => by have := (ahead_iff d e).2 h; rw [HH.out] at this; cases this)).symm, hb.trans (x.below.mono hb.size)⟩
          · rw [hah] at CA
            have HH := Lib.hid hah
            clear hah
            go_wp2
            refine wp_region_later (by kernel_rfl) (by kernel_rfl) ?_
            repeat (go_big_quiet_step ((first | (go_at_call 66; exact later_call (CR.out _)) | (go_at_call 67; exact later_call (CA.out _)) | (go_at_call 68; exact later_call (CC.out _)))))
            refine wpQuiet_nil ?_
            rintro _ ⟨x, rfl⟩
            clear s1 s2 s3 s4 g0 g1 g2
            go_wp2
            first
              | (go_ret
                 exact ⟨ret_bool (HCb.out HC.out).symm, hb.trans (x.below.mono hb.size)⟩)
              | (go_roundw
                 case rel => exact ⟨k + 1, by omega, by go_num, HStep.out (HSt2.out HR.out ((ahead_iff d e).1 HH.out) HC.out), hb.trans (x.below.mono hb.size)⟩
                 case measure => simp [intOf]; omega)
        · have hkz : decide (0 < (k : Int)) = false := by simp; omega
          have hkn : decide (0 < k) = false := by simp; omega
          have HK0 := Lib.hid hk0
          clear hk0 hprev
          go_wp2
          refine wp_region_later (by kernel_rfl) (by kernel_rfl) ?_
          repeat (go_big_quiet_step ((first | (go_at_call 66; exact later_call (CR.out _)) | (go_at_call 68; exact later_call (CC.out _)))))
          refine wpQuiet_nil ?_
          rintro _ ⟨x, rfl⟩
          go_wp2
          first
            | (go_ret
               exact ⟨ret_bool (HCb.out HC.out).symm, hb.trans (x.below.mono hb.size)⟩)
            | (go_roundw
               case rel => exact ⟨k + 1, by omega, by go_num, HStep.out (HSt.out ⟨HR.out, fun h => absurd h HK0.out, HC.out⟩), hb.trans (x.below.mono hb.size)⟩
               case measure => simp [intOf]; omega)
    · obtain rfl : k = l.length := by omega
      have HV := Lib.hid (rval_all (l := l) HA.out)
      by_cases h100 : l.length ≤ 100
      all_goals
        go_wp2
        go_ret
        exact ⟨ret_bool (by rw [HV.out, Bool.eq_iff_iff]; simp; omega), hb⟩
end Go.Proofs.YthmnffgjckpkiaaGreatDoor
namespace Go.Proofs.YthmnffgjckpkiaaGreatDoor
open Go Go.RowKit

/-- The slice value v is the call's own row of entries of the reference's type. -/
def OwnEntsR (w : World) (base : Nat) (v : Value) (l : List Ent) : Prop := w.ownsRow base 72 3 v l.length (l.flatMap entCells)
theorem info_entR : (Tryz.prog.info? 72).map (fun i => (i.zero, i.size, i.bytes)) = some (some (.agg #[.string ByteArray.empty, .int .u8 0, .string ByteArray.empty]), 3, 40) := by kernel_rfl
theorem entSlice_of_rowR {w : World} {base : Nat} {v : Value} {l : List Ent} {t : TypeId} (h : w.ownsRow base t 3 v l.length (l.flatMap entCells)) (hok : ∀ e ∈ l, e.ok) : EntSlice w v l := by
  rcases h.2 with ⟨rfl, h0⟩ | ⟨g, cap, cur, rfl, hbg, hg, hnc, hcm, hcs, htake⟩
  · have : l = [] := List.eq_nil_of_length_eq_zero h0
    subst this
    exact ents_none w
  · refine ⟨⟨_, cap, rfl, hnc, hcm, .inr ⟨g, 0, rfl, (Array.getElem?_eq_some_iff.1 hg).1, fun j hj => ?_⟩⟩, hok⟩
    have hadd : ∀ j, (⟨g, 0, none⟩ : Addr).add j = ⟨g, j, none⟩ := fun j => by unfold Addr.add; split <;> simp_all
    obtain ⟨f0, f1, f2⟩ := flat3 l j hj
    have h0 := h.cells (g := g) rfl (j * 3) _ f0
    have h1 := h.cells (g := g) rfl (j * 3 + 1) _ f1
    have h2 := h.cells (g := g) rfl (j * 3 + 2) _ f2
    rw [hadd] at h0 h1 h2
    rw [Nat.zero_add]
    exact ⟨h0, h1, h2⟩
theorem ents_snoc {l : List Ent} {k : Nat} (h : k < l.length) : (l.take (k + 1)).flatMap entCells = (l.take k).flatMap entCells ++ entCells l[k] ∧ (l.take (k + 1)).length = (l.take k).length + 1 := by
  rw [List.take_succ_eq_append_getElem h, List.flatMap_append, List.length_append]
  simp
theorem ent_one (e : Ent) : ∀ u ∈ entCells e, u.oneCell' = true := by
  intro u hu
  simp [entCells] at hu
  rcases hu with rfl | rfl | rfl <;> rfl

set_option maxRecDepth 100000 in
set_option maxHeartbeats 4000000 in
theorem Given_any (w : World) (v : Value) (l : List Ent) (hl : EntSlice w v l) (hn : l.length ≤ 1000000) :
    Calls Tryz.prog 17 #[v] w fun r w' => ∃ v', r = .returned v' ∧ OwnEntsR w' w.heap.size v' l ∧ Below w.heap.size w w' := by
  obtain ⟨i0, hi, hz0, hz1, hz2⟩ := info_parts info_entR
  obtain ⟨⟨a, cap, rfl, hcap, hcm, hform⟩, hok⟩ := hl
  have HFo := Lib.hid hform
  clear hform hok
  go_enter Tryz.func17, Tryz.ntmps17
  go_wp2
  go_loopw [3, 4] (fun o i wr => ∃ k : Nat, k ≤ l.length ∧ i = .int .i64 k ∧ OwnEntsR wr w.heap.size o (l.take k) ∧ Below w.heap.size w wr) (fun _ i _ => l.length - (intOf i).toNat)
  case atStart => exact ⟨0, Nat.zero_le _, rfl, World.ownsRow_nil _ _ _ _, Below.refl _ _⟩
  case round =>
    obtain ⟨k, hk, rfl, hown, hb⟩ := hrel
    have HO := Lib.hid hown
    clear hown
    by_cases hlt : k < l.length
    · rcases HFo.out with h0 | ⟨b, off, rfl, hbl, hc⟩
      · rw [h0] at hlt; exact absurd hlt (by simp)
      obtain ⟨c0, c1, c2⟩ := hc k hlt
      obtain ⟨hs1, hs2⟩ := ents_snoc hlt
      obtain ⟨e, he⟩ : ∃ e, e = l[k] := ⟨_, rfl⟩
      rw [← he] at c0 c1 c2 hs1
      have c0 := cell_kept' hb c0
      have c1 := cell_kept' hb c1
      have c2 := cell_kept' hb c2
      have HS1 := Lib.hid hs1
      have HS2 := Lib.hid hs2
      have htk : (l.take k).length = k := by rw [List.length_take]; omega
      have HTk := Lib.hid htk
      clear he hs1 hs2 hc htk
      go_wp2_with (at_builtin; refine wpList_append_own _ rfl _ _ 32 rfl w.heap.size 72 i0 _ 3 40 Tryz.underlying32 hi hz0 hz1 hz2 rfl (by decide) _ (l.take k).length ((l.take k).flatMap entCells) rfl (HO.out.alloc _) ⟨wr.heap.size, 0, none⟩ 1 1 (entCells e) rfl rfl (news_at (heap_alloc_new _ _)) (ent_one _) (by rw [HTk.out]; unfold maxLen; omega) (by rw [HTk.out]; omega) (by have := hb.size; simp; omega) ?_)
      intro v' w2 hown2 hgrow _
      have hb2 : Below w.heap.size w w2 := (hb.alloc hb.size _).grown hgrow (by have := hb.size; simp; omega) (fun k hk => (HO.out.lt k hk).1)
      have HO2 := Lib.hid hown2
      clear hown2 hgrow
      go_wp2
      go_roundw
      case rel => exact ⟨k + 1, by omega, by go_num, by unfold OwnEntsR; rw [HS1.out, HS2.out, HTk.out]; exact HO2.out, hb2⟩
      case measure => simp [intOf]; omega
    · obtain rfl : k = l.length := by omega
      go_wp2
      go_ret
      exact ⟨_, rfl, by have := HO.out; rw [List.take_length] at this; exact this, hb⟩

end Go.Proofs.YthmnffgjckpkiaaGreatDoor
namespace Go.Proofs.YthmnffgjckpkiaaGreatDoor
open Go Go.RowKit

theorem info_formR : (Tryz.prog.info? 210).map (fun i => (i.zero, i.size, i.bytes)) = some (some (.agg #[.int .i64 0, .bool false]), 2, 16) := by kernel_rfl
theorem form_one (f : Nat × Bool) : ∀ u ∈ formCells f, u.oneCell' = true := by
  intro u hu
  simp [formCells] at hu
  rcases hu with rfl | rfl <;> rfl
theorem forms_app {p : List (Nat × Bool)} {f : Nat × Bool} : (p ++ [f]).flatMap formCells = p.flatMap formCells ++ formCells f ∧ (p ++ [f]).length = p.length + 1 := by
  rw [List.flatMap_append, List.length_append]; simp
theorem str_eq (a : List UInt8) (t : ByteArray) : (a == t.data.toList) = ((⟨a.toArray⟩ : ByteArray).toList == t.toList) := by
  rw [ByteArray.toList_eq, ByteArray.toList_eq]

set_option maxRecDepth 100000 in
set_option maxHeartbeats 8000000 in
theorem rLook_any (w : World) (v : Value) (l : List Ent) (hl : EntSlice w v l) (hn : l.length ≤ 1000000) (tok : ByteArray) :
    Calls Tryz.prog 175 #[v, .string tok] w fun r w' => ∃ v', r = .returned (.tuple #[v', .int .i64 (if validS l then 0 else 2)]) ∧ FormSlice w' v' (if validS l then lookS tok.data.toList l else []) ∧ Below w.heap.size w w' := by
  obtain ⟨i0, hi, hz0, hz1, hz2⟩ := info_parts info_formR
  have HL := Lib.hid hl
  clear hl
  cases hv : validS l
  · have HV := Lib.hid hv
    simp only [Bool.false_eq_true, if_false]
    clear hv
    go_enter Tryz.func175, Tryz.ntmps175
    go_wp2_with fail
    refine (HV.out ▸ rValid_any _ v l HL.out).mono ?_
    rintro r w1 ⟨rfl, hx1⟩
    go_wp2
    go_ret2
    exact ⟨_, rfl, ⟨none, 0, rfl, .inl rfl⟩, hx1⟩
  have HV := Lib.hid hv
  simp only [if_true]
  clear hv
  go_enter Tryz.func175, Tryz.ntmps175
  go_wp2_with fail
  refine (HV.out ▸ rValid_any _ v l HL.out).mono ?_
  rintro r w1 ⟨rfl, hx1⟩
  have HL2 := Lib.hid (HL.out.below hx1)
  obtain ⟨⟨a, cap, rfl, hcap, hcm, hform⟩, hok⟩ := HL2.out
  have HFo := Lib.hid hform
  have HOk := Lib.hid hok
  clear hform hok
  have hrt := ((valid_iff l).1 HV.out).2.1
  have HRt := Lib.hid hrt
  clear hrt
  go_wp2
  go_loopw [6, 7] (fun o i wr => ∃ k : Nat, k ≤ l.length ∧ i = .int .i64 k ∧ wr.ownsRow w1.heap.size 210 2 o (lookTo tok.data.toList l k).length ((lookTo tok.data.toList l k).flatMap formCells) ∧ Below w1.heap.size w1 wr) (fun _ i _ => l.length - (intOf i).toNat)
  case atStart => exact ⟨0, Nat.zero_le _, rfl, World.ownsRow_nil _ _ _ _, Below.refl _ _⟩
  case round =>
    obtain ⟨k, hk, rfl, hown, hb⟩ := hrel
    have HO := Lib.hid hown
    clear hown
    by_cases hlt : k < l.length
    · rcases HFo.out with h0 | ⟨b, off, rfl, hbl, hc⟩
      · rw [h0] at hlt; exact absurd hlt (by simp)
      obtain ⟨c0, c1, _⟩ := hc k hlt
      have HNo := Lib.hid (fun h => lookTo_no (tok := tok.data.toList) hlt h)
      have HYes := Lib.hid (fun h => lookTo_yes (tok := tok.data.toList) hlt h)
      have hre := HRt.out _ (List.getElem_mem hlt)
      have hkl := lookTo_len tok.data.toList l k
      obtain ⟨o, ho⟩ : ∃ o, o = l[k] := ⟨_, rfl⟩
      rw [← ho] at c0 c1 HNo HYes hre
      have c0 := cell_kept' hb c0
      have c1 := cell_kept' hb c1
      have hwt : (o.w == tok.data.toList) = (o.word.toList == tok.toList) := by unfold Ent.w; rw [ByteArray.toList_eq, ByteArray.toList_eq]
      have HWt := Lib.hid hwt
      have HRe := Lib.hid hre
      clear ho hc hwt hre
      cases hw : (o.word.toList == tok.toList)
      · by_cases h4 : 4 ≤ o.cat
        · have hpl := right_plain HRe.out h4
          have hsz : 1 ≤ o.word.size ∧ o.word.size ≤ 16 := by
            unfold plainS at hpl
            simp only [Bool.and_eq_true, decide_eq_true_eq] at hpl
            have := hpl.1
            unfold Ent.w at this
            rwa [len_data] at this
          have HT := Lib.hid (rThirdOf_any o.word wr hsz.1 (by omega))
          have hfv := form_verb (tok := tok.data.toList) HRe.out h4
          rw [HWt.out, hw, Bool.false_or, str_eq] at hfv
          have hfv : formS tok.data.toList o = ((⟨(thirdS o.word.data.toList).toArray⟩ : ByteArray).toList == tok.toList) := hfv
          obtain ⟨t, ht⟩ : ∃ t : ByteArray, t = ⟨(thirdS o.word.data.toList).toArray⟩ := ⟨_, rfl⟩
          rw [← ht] at HT hfv
          have HFv := Lib.hid hfv
          clear ht hfv hpl
          cases hth : (t.toList == tok.toList)
          · have HFf : Hid (formS tok.data.toList o = false) := Lib.hid (by rw [HFv.out, hth])
            go_wp2_with (go_at_call 127; refine HT.out.mono ?_; rintro r w4 ⟨rfl, hb4⟩)
            go_roundw
            case rel => exact ⟨k + 1, by omega, by go_num, by rw [HNo.out HFf.out]; exact ownsRow_below HO.out hb4, hb.trans (hb4.mono hb.size)⟩
            case measure => simp [intOf]; omega
          · have HFt : Hid (formS tok.data.toList o = true) := Lib.hid (by rw [HFv.out, hth])
            have HOw : Hid (lookTo tok.data.toList l (k + 1) = lookTo tok.data.toList l k ++ [(k, true)]) := Lib.hid (by rw [HYes.out HFt.out, bne, HWt.out, hw]; rfl)
            have HKl := Lib.hid hkl
            clear hkl
            go_wp2_with fail
            refine HT.out.mono ?_
            rintro r w4 ⟨rfl, hb4⟩
            have HO4 := Lib.hid (ownsRow_below HO.out hb4)
            have hb4' := hb.trans (hb4.mono hb.size)
            clear hb4
            go_wp2_with (at_builtin; refine wpList_append_own _ rfl _ _ 207 rfl w1.heap.size 210 i0 _ 2 16 Tryz.underlying207 hi hz0 hz1 hz2 rfl (by decide) _ (lookTo tok.data.toList l k).length ((lookTo tok.data.toList l k).flatMap formCells) rfl (HO4.out.alloc _) ⟨w4.heap.size, 0, none⟩ 1 1 (formCells (k, true)) rfl rfl (news_at (heap_alloc_new _ _)) (form_one _) (by have := HKl.out; unfold maxLen; omega) (by have := HKl.out; omega) (by have := hb4'.size; simp; omega) ?_)
            intro v' w9 hown9 hgrow _
            have hb9 : Below w1.heap.size w1 w9 := (hb4'.alloc hb4'.size _).grown hgrow (by have := hb4'.size; simp; omega) (fun k hk => (HO4.out.lt k hk).1)
            have HO9 := Lib.hid hown9
            clear hown9 hgrow
            go_wp2
            go_roundw
            case rel => exact ⟨k + 1, by omega, by go_num, by rw [HOw.out, forms_app.1, forms_app.2]; exact HO9.out, hb9⟩
            case measure => simp [intOf]; omega
        · have HFf : Hid (formS tok.data.toList o = false) := Lib.hid (by rw [form_noun h4, HWt.out, hw])
          go_wp2
          go_roundw
          case rel => exact ⟨k + 1, by omega, by go_num, by rw [HNo.out HFf.out]; exact HO.out, hb⟩
          case measure => simp [intOf]; omega
      · have HFt : Hid (formS tok.data.toList o = true) := Lib.hid (by unfold formS; rw [HWt.out, hw]; rfl)
        have HOw : Hid (lookTo tok.data.toList l (k + 1) = lookTo tok.data.toList l k ++ [(k, false)]) := Lib.hid (by rw [HYes.out HFt.out, bne, HWt.out, hw]; rfl)
        have HKl := Lib.hid hkl
        clear hkl
        go_wp2_with (at_builtin; refine wpList_append_own _ rfl _ _ 207 rfl w1.heap.size 210 i0 _ 2 16 Tryz.underlying207 hi hz0 hz1 hz2 rfl (by decide) _ (lookTo tok.data.toList l k).length ((lookTo tok.data.toList l k).flatMap formCells) rfl (HO.out.alloc _) ⟨wr.heap.size, 0, none⟩ 1 1 (formCells (k, false)) rfl rfl (news_at (heap_alloc_new _ _)) (form_one _) (by have := HKl.out; unfold maxLen; omega) (by have := HKl.out; omega) (by have := hb.size; simp; omega) ?_)
        intro v' w9 hown9 hgrow _
        have hb9 : Below w1.heap.size w1 w9 := (hb.alloc hb.size _).grown hgrow (by have := hb.size; simp; omega) (fun k hk => (HO.out.lt k hk).1)
        have HO9 := Lib.hid hown9
        clear hown9 hgrow
        go_wp2
        go_roundw
        case rel => exact ⟨k + 1, by omega, by go_num, by rw [HOw.out, forms_app.1, forms_app.2]; exact HO9.out, hb9⟩
        case measure => simp [intOf]; omega
    · obtain rfl : k = l.length := by omega
      go_wp2
      go_ret2
      exact ⟨_, rfl, formSlice_of_owns HO.out, hx1.trans (hb.mono hx1.size)⟩
end Go.Proofs.YthmnffgjckpkiaaGreatDoor
