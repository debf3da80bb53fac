/-
  The functions that read the words ahead of a row's parts: article, determiner, relative.
-/
import Derived.Test.YthmnffgjckpkiaaGreatDoorOpens
namespace Go.Proofs.YthmnffgjckpkiaaGreatDoor
open Go Go.RowKit Go.Shelf

set_option maxRecDepth 100000 in
set_option maxHeartbeats 4000000 in
theorem art_calls {m gb : Nat} {g : Gr} {W0 : World} (hp : Pre m gb g W0) (W : World) (hs : Since m W0 W) (i j : Nat) (hij : i ≤ j) (hj : j ≤ g.toks.length) :
    Calls Tryz.prog 121 #[.pointer (some ⟨gb, 0, none⟩), .int .i64 i, .int .i64 j] W fun e W' =>
      (artS g i j = [] ∧ e = .returned (.slice none 0 0) ∧ Below W.heap.size W W') ∨
      (artS g i j = [⟨0, [], i + 1⟩] ∧ ∃ w1, Below W.heap.size W w1 ∧ W' = w1.alloc (.cells #[.int .i64 0, .string ⟨#[]⟩, .int .i64 ((i : Int) + 1)] 127) ∧ e = .returned (.slice (some ⟨w1.heap.size, 0, none⟩) 1 1)) := by
  have few := hp.few
  have hw1 : IntKind.i64.wrap ((i : Int) + 1) = (i : Int) + 1 := IntWalk.i64_in _ (by omega)
  obtain ⟨Wt, hT, hTm⟩ := hp.tabs
  obtain ⟨Wt', hTabs⟩ := Since.tabs hT hTm hs
  by_cases hlt : i + 1 < j
  · have hd1 : decide ((j : Int) ≤ (i : Int) + 1) = false := by simp; omega
    have hd2 : decide (j ≤ i + 1) = false := by simp; omega
    obtain ⟨tv, ht0, hts⟩ := hp.toks
    obtain ⟨ta, tc, rfl, ht1, ht2, ht3⟩ := hts.since hs
    obtain ⟨tb, off, rfl, htc⟩ := ht3.resolve_left (by intro h; rw [h] at hj; simp at hj; omega)
    have k0 := htc i (by omega)
    have k1 := htc (i + 1) (by omega)
    obtain ⟨tk, htk⟩ : ∃ tk, tk = g.toks[i]'(by omega) := ⟨_, rfl⟩
    obtain ⟨tn, htn⟩ : ∃ tn, tn = g.toks[i + 1]'(by omega) := ⟨_, rfl⟩
    rw [← htk] at k0
    rw [← htn] at k1
    have htk' : g.toks.getD i [] = tk := by rw [getD_at (by omega), htk]
    have htn' : g.toks.getD (i + 1) [] = tn := by rw [getD_at (by omega), htn]
    have c3 := hs.cell ht0
    have b3 := cell_lt c3
    simp only at b3
    obtain ⟨n, hn⟩ : ∃ n, n = g.toks.length := ⟨_, rfl⟩
    rw [← hn] at few c3 ht1
    have hin : i + 1 < n := by omega
    obtain ⟨ar, har⟩ : ∃ ar, ar = articleS tn := ⟨_, rfl⟩
    have HArt := Lib.hid (fun (x : Later W) => show Calls Tryz.prog 132 #[.string ⟨tn.toArray⟩] x.w (fun e w' => e = .returned (.string ⟨ar.toArray⟩) ∧ x.w = w') from by
      have h := Article_any Wt' x.w (hTabs.next x.below) ⟨tn.toArray⟩
      rw [show articleS (⟨tn.toArray⟩ : ByteArray).data.toList = ar by rw [har]] at h
      exact h)
    have HTk := Lib.hid htk'
    have HTn := Lib.hid htn'
    have HAr := Lib.hid har
    clear htk' htk htn htn' htc ht3 hts ht0 hp hs hn hT hTm hTabs har
    by_cases hq : tk = ar
    · have hq1 : ((⟨tk.toArray⟩ : ByteArray).toList == (⟨ar.toArray⟩ : ByteArray).toList) = true := by rw [hq]; simp
      have hq2 : (tk == ar) = true := by simpa using hq
      have hS : artS g i j = [⟨0, [], i + 1⟩] := by unfold artS; rw [if_neg (by rw [HTk.out, HTn.out, ← HAr.out]; simp [hq]; omega)]
      have HR := Lib.hid hS
      clear hq hS
      go_enter Tryz.func121, Tryz.ntmps121
      go_wp2
      have f0 := fun x : Later W => x.get c3
      have f1 := fun x : Later W => x.get k0
      have f2 := fun x : Later W => x.get k1
      clear c3 k0 k1
      refine wp_region_later (by kernel_rfl) (by kernel_rfl) ?_
      repeat (go_big_quiet_step ((go_at_call 132; exact later_same (HArt.out _))))
      refine wpQuiet_nil ?_
      rintro _ ⟨x, rfl⟩
      clear f0 f1 f2
      have HB := Lib.hid x.below
      go_wp2
      go_ret
      exact .inr ⟨HR.out, x.w, HB.out, rfl, rfl⟩
    · have hq1 : ((⟨tk.toArray⟩ : ByteArray).toList == (⟨ar.toArray⟩ : ByteArray).toList) = false := by simpa [ByteArray.toList_eq] using hq
      have hq2 : (tk == ar) = false := by simpa using hq
      have hS : artS g i j = [] := by unfold artS; rw [if_pos (.inr (by rw [HTk.out, HTn.out, ← HAr.out]; exact hq))]
      have HR := Lib.hid hS
      clear hq hS
      go_enter Tryz.func121, Tryz.ntmps121
      go_wp2
      have f0 := fun x : Later W => x.get c3
      have f1 := fun x : Later W => x.get k0
      have f2 := fun x : Later W => x.get k1
      clear c3 k0 k1
      refine wp_region_later (by kernel_rfl) (by kernel_rfl) ?_
      repeat (go_big_quiet_step ((go_at_call 132; exact later_same (HArt.out _))))
      refine wpQuiet_nil ?_
      rintro _ ⟨x, rfl⟩
      clear f0 f1 f2
      have HB := Lib.hid x.below
      go_wp2
      go_ret
      exact .inl ⟨HR.out, rfl, HB.out⟩
  · have hd1 : decide ((j : Int) ≤ (i : Int) + 1) = true := by simp; omega
    have hd2 : decide (j ≤ i + 1) = true := by simp; omega
    have hS : artS g i j = [] := by unfold artS; rw [if_pos (.inl (by omega))]
    have HR := Lib.hid hS
    clear hS
    go_enter Tryz.func121, Tryz.ntmps121
    go_wp2
    refine wp_region_later (by kernel_rfl) (by kernel_rfl) ?_
    repeat (go_big_quiet_step (fail))
    refine wpQuiet_nil ?_
    rintro _ ⟨x, rfl⟩
    have HB := Lib.hid x.below
    go_wp2
    go_ret
    exact .inl ⟨HR.out, rfl, HB.out⟩
theorem article_ok {m gb : Nat} {g : Gr} {W0 : World} (hp : Pre m gb g W0) : OpenOk m W0 g.toks.length (.func (.func 121) #[.pointer (some ⟨gb, 0, none⟩)] #[]) (artS g) := by
  refine ⟨_, _, _, rfl, enters_of Tryz.func121 (by kernel_rfl) rfl, fun W hs i j hij hj => ?_⟩
  refine (art_calls hp W hs i j hij hj).mono ?_
  rintro e W' (⟨h, rfl, hb⟩ | ⟨h, w1, hb, rfl, rfl⟩)
  · exact ⟨_, rfl, by rw [h]; exact opn_none, hb, fun c h => by cases h⟩
  · refine ⟨_, rfl, ?_, hb.alloc hb.size _, fun c h => by cases h; exact hb.size⟩
    rw [h]
    exact opn_one (w := w1) ⟨0, [], i + 1⟩ _

set_option maxRecDepth 100000 in
set_option maxHeartbeats 4000000 in
theorem determiner_ok {m gb : Nat} {g : Gr} {W0 : World} (hp : Pre m gb g W0) : OpenOk m W0 g.toks.length (.func (.func 118) #[.pointer (some ⟨gb, 0, none⟩)] #[]) (detS g) := by
  refine ⟨_, _, _, rfl, enters_of Tryz.func118 (by kernel_rfl) rfl, fun W hs i j hij hj => ?_⟩
  show Calls _ _ #[.pointer (some ⟨gb, 0, none⟩), .int .i64 i, .int .i64 j] W _
  have few := hp.few
  have hw1 : IntKind.i64.wrap ((i : Int) + 1) = (i : Int) + 1 := IntWalk.i64_in _ (by omega)
  by_cases hlt : i < j
  · have hd1 : decide ((j : Int) ≤ (i : Int)) = false := by simp; omega
    have hd2 : decide (j ≤ i) = false := by simp; omega
    obtain ⟨tv, ht0, hts⟩ := hp.toks
    obtain ⟨ta, tc, rfl, ht1, ht2, ht3⟩ := hts.since hs
    obtain ⟨tb, off, rfl, htc⟩ := ht3.resolve_left (by intro h; rw [h] at hj; simp at hj; omega)
    have k0 := htc i (by omega)
    obtain ⟨tk, htk⟩ : ∃ tk, tk = g.toks[i]'(by omega) := ⟨_, rfl⟩
    rw [← htk] at k0
    have htk' : g.toks.getD i [] = tk := by rw [getD_at (by omega), htk]
    have c3 := hs.cell ht0
    have b3 := cell_lt c3
    simp only at b3
    obtain ⟨n, hn⟩ : ∃ n, n = g.toks.length := ⟨_, rfl⟩
    have HArt := Lib.hid (art_calls hp W hs i j hij hj)
    rw [← hn] at few c3 ht1
    have hin : i < n := by omega
    have HTk := Lib.hid htk'
    clear htk' htk htc ht3 hts ht0 hp hs hn
    by_cases hq : tk ∈ [wEvery, wEach, wSome, wNo]
    · have hS : detS g i j = [⟨0, tk, i + 1⟩] := by unfold detS; rw [if_neg (by omega), HTk.out, if_pos hq]
      have HR := Lib.hid hS
      clear hS HTk HArt
      simp only [List.mem_cons, List.not_mem_nil, or_false] at hq
      rcases hq with rfl | rfl | rfl | rfl
      all_goals
        first | unfold wEvery at * | unfold wEach at * | unfold wSome at * | unfold wNo at *
        go_enter Tryz.func118, Tryz.ntmps118
        go_wp2
        go_ret
        refine ⟨_, rfl, ?_, (Below.refl _ _).alloc (Nat.le_refl _) _, fun c h => by cases h; exact Nat.le_refl _⟩
        rw [HR.out]
        exact opn_one (w := W) ⟨0, _, i + 1⟩ _
    · have hS : detS g i j = (artS g i j).map fun o => { o with word := wA } := by unfold detS; rw [if_neg (by omega), HTk.out, if_neg hq]
      have HR := Lib.hid hS
      have q1 : (tk == [101, 118, 101, 114, 121]) = false := by simp; intro h; exact hq (by simp [h, wEvery])
      have q2 : (tk == [101, 97, 99, 104]) = false := by simp; intro h; exact hq (by simp [h, wEach])
      have q3 : (tk == [115, 111, 109, 101]) = false := by simp; intro h; exact hq (by simp [h, wSome])
      have q4 : (tk == [110, 111]) = false := by simp; intro h; exact hq (by simp [h, wNo])
      clear hS hq
      go_enter Tryz.func118, Tryz.ntmps118
      go_wp2_with fail
      refine HArt.out.mono ?_
      rintro e W' (⟨h, rfl, hb⟩ | ⟨h, w1, hb, rfl, rfl⟩)
      · have HB := Lib.hid hb
        have HR2 := Lib.hid (show detS g i j = [] by rw [HR.out, h]; rfl)
        clear hb h
        go_wp2
        go_loopw [37] (fun q wr => q = .int .i64 0 ∧ Below W.heap.size W wr) (fun _ _ => 0)
        case atStart => exact ⟨rfl, HB.out⟩
        case round =>
          obtain ⟨rfl, hbr⟩ := hrel
          go_wp2
          go_ret
          exact ⟨_, rfl, by rw [HR2.out]; exact opn_none, hbr, fun c h => by cases h⟩
      · have HB := Lib.hid hb
        have HR2 := Lib.hid (show detS g i j = [⟨0, wA, i + 1⟩] by rw [HR.out, h]; rfl)
        clear hb h
        go_wp2
        go_loopw [37] (fun q wr => (q = .int .i64 0 ∧ wr = w1.alloc (.cells #[.int .i64 0, .string ⟨#[]⟩, .int .i64 ((i : Int) + 1)] 127)) ∨ (q = .int .i64 1 ∧ OpnSlice wr (.slice (some ⟨w1.heap.size, 0, none⟩) 1 1) [⟨0, wA, i + 1⟩] ∧ Below W.heap.size W wr)) (fun q _ => 1 - (intOf q).toNat)
        case atStart => exact .inl ⟨rfl, rfl⟩
        case round =>
          rcases hrel with ⟨rfl, rfl⟩ | ⟨rfl, hos, hbr⟩
          · go_wp2
            go_roundw
            case rel => exact .inr ⟨rfl, opn_one (w := w1) ⟨0, wA, i + 1⟩ _, HB.out.alloc HB.out.size _⟩
            case measure => simp [intOf]
          · have HOs := Lib.hid hos
            clear hos
            go_wp2
            go_ret
            exact ⟨_, rfl, by rw [HR2.out]; exact HOs.out, hbr, fun c h => by cases h; exact HB.out.size⟩
  · have hd1 : decide ((j : Int) ≤ (i : Int)) = true := by simp; omega
    have hd2 : decide (j ≤ i) = true := by simp; omega
    have hS : detS g i j = [] := by unfold detS; rw [if_pos (by omega)]
    have HR := Lib.hid hS
    clear hS
    go_enter Tryz.func118, Tryz.ntmps118
    go_wp2
    go_ret
    exact ⟨_, rfl, by rw [HR.out]; exact opn_none, Below.refl _ _, fun c h => by cases h⟩

theorem cell_box {w : World} {b : Nat} {T : TypeId} {v : Value} (h : w.heap[b]? = some (.cells #[v] T (0, 0))) : w.cell? ⟨b, 0, none⟩ = some v := by simp [World.cell?, h]
theorem heap_at2 {w : World} {o : Obj} {k : Nat} (h : k = w.heap.size) : (w.alloc o).heap[k]? = some o := by rw [h]; exact World.alloc_heap_new w o
/-- What 'entry' makes. -/
theorem entry_make (w : World) (gb : Nat) (cat : Int) (third : Bool) :
    Calls Tryz.prog 117 #[.pointer (some ⟨gb, 0, none⟩), .int .u8 cat, .bool third] w fun e w' =>
      e = .returned (.func (.func 157) #[] #[.pointer (some ⟨w.heap.size, 0, none⟩), .pointer (some ⟨w.heap.size + 1 + 1, 0, none⟩), .pointer (some ⟨w.heap.size + 1, 0, none⟩)]) ∧ Below w.heap.size w w' ∧
      w'.heap.size = w.heap.size + 3 ∧ w'.cell? ⟨w.heap.size, 0, none⟩ = some (.pointer (some ⟨gb, 0, none⟩)) ∧ w'.cell? ⟨w.heap.size + 1 + 1, 0, none⟩ = some (.bool third) ∧ w'.cell? ⟨w.heap.size + 1, 0, none⟩ = some (.int .u8 cat) := by
  go_enter Tryz.func117, Tryz.ntmps117
  go_wp2
  go_ret
  refine ⟨rfl, ((((Below.refl _ _).alloc (Nat.le_refl _) _).alloc (by simp) _).alloc (by simp; omega) _), by simp, ?_, ?_, ?_⟩
  all_goals
    apply cell_box
    repeat rw [Below.heap_alloc _ _ _ (by first | (simp; done) | (simp; omega))]
    exact heap_at2 (by simp)
/-- A row of openings whose cells may be written. -/
def OpnRow (w : World) (b n : Nat) (u : Nat → Opn) : Prop := ∃ cs T, w.heap[b]? = some (.cells cs T (0, 0)) ∧ ∀ j, j < n → cs.toList[j * 3]? = some (.int .i64 (u j).entry) ∧ cs.toList[j * 3 + 1]? = some (strVal (u j).word) ∧ cs.toList[j * 3 + 2]? = some (.int .i64 (u j).at)
theorem OpnRow.congr {w : World} {b n : Nat} {u u' : Nat → Opn} (h : OpnRow w b n u) (e : ∀ j, j < n → u j = u' j) : OpnRow w b n u' := by
  obtain ⟨cs, T, h1, h2⟩ := h
  exact ⟨cs, T, h1, fun j hj => by rw [← e j hj]; exact h2 j hj⟩
theorem OpnRow.set {w : World} {b n : Nat} {u : Nat → Opn} (h : OpnRow w b n u) (q : Nat) (hq : q < n) (wd : List UInt8) (p : Nat) :
    OpnRow ((w.setCell ⟨b, q * 3 + 1, none⟩ (strVal wd)).setCell ⟨b, q * 3 + 2, none⟩ (.int .i64 p)) b n (fun j => if j = q then ⟨(u q).entry, wd, p⟩ else u j) := by
  obtain ⟨cs, T, h1, h2⟩ := h
  refine ⟨_, T, heap_setCell_same _ _ _ _ _ _ (heap_setCell_same _ _ _ _ _ _ h1), fun j hj => ?_⟩
  obtain ⟨a0, a1, a2⟩ := h2 j hj
  have l1 := (List.getElem?_eq_some_iff.1 a1).1
  have l2 := (List.getElem?_eq_some_iff.1 a2).1
  by_cases e : j = q
  · subst e
    simp only [if_true, Array.toList_setIfInBounds, List.getElem?_set]
    refine ⟨?_, ?_, ?_⟩
    · rw [if_neg (by omega), if_neg (by omega)]; exact a0
    · rw [if_neg (by omega), if_pos (by simpa using l1)]
    · rw [if_pos (by simpa using l2)]
  · simp only [if_neg e, Array.toList_setIfInBounds, List.getElem?_set]
    refine ⟨?_, ?_, ?_⟩
    · rw [if_neg (by omega), if_neg (by omega)]; exact a0
    · rw [if_neg (by omega), if_neg (by omega)]; exact a1
    · rw [if_neg (by omega), if_neg (by omega)]; exact a2
theorem OpnRow.cells {w : World} {b n : Nat} {u : Nat → Opn} (h : OpnRow w b n u) (j : Nat) (hj : j < n) : w.cell? ⟨b, j * 3, none⟩ = some (.int .i64 (u j).entry) ∧ w.cell? ⟨b, j * 3 + 1, none⟩ = some (strVal (u j).word) ∧ w.cell? ⟨b, j * 3 + 2, none⟩ = some (.int .i64 (u j).at) := by
  obtain ⟨cs, T, h1, h2⟩ := h
  obtain ⟨a0, a1, a2⟩ := h2 j hj
  exact ⟨by rw [cell_of_row _ _ _ _ _ _ h1]; simpa using a0, by rw [cell_of_row _ _ _ _ _ _ h1]; simpa using a1, by rw [cell_of_row _ _ _ _ _ _ h1]; simpa using a2⟩
theorem OpnRow.slice {w : World} {b n c : Nat} {u : Nat → Opn} (h : OpnRow w b n u) (os : List Opn) (hn : os.length = n) (hl : n ≤ 1000) (e : ∀ j (hj : j < os.length), os[j] = u j) : OpnSlice w (.slice (some ⟨b, 0, none⟩) n c) os := by
  subst hn
  exact ⟨_, _, rfl, hl, .inr ⟨b, rfl, fun j hj => by rw [e j hj]; exact h.cells j hj⟩⟩
theorem opnRow_of_owns {w : World} {base : Nat} {v : Value} {os : List Opn} {t : TypeId} (h : w.ownsRow base t 3 v os.length (os.flatMap opnCells)) :
    (v = .slice none 0 0 ∧ os = []) ∨ ∃ b c, v = .slice (some ⟨b, 0, none⟩) os.length c ∧ base ≤ b ∧ OpnRow w b os.length (fun j => os.getD j ⟨0, [], 0⟩) := by
  rcases h.2 with ⟨rfl, h0⟩ | ⟨g, cap, cur, rfl, hbg, hg, hnc, hcm, hcs, htake⟩
  · exact .inl ⟨rfl, List.eq_nil_of_length_eq_zero h0⟩
  · refine .inr ⟨g, cap, rfl, hbg, cur, _, hg, fun j hj => ?_⟩
    obtain ⟨a0, a1, a2⟩ := opn_flat3 os j hj
    have hD : os.getD j ⟨0, [], 0⟩ = os[j] := by rw [List.getD_eq_getElem?_getD, List.getElem?_eq_getElem hj, Option.getD_some]
    rw [← htake] at a0 a1 a2
    simp only [List.getElem?_take] at a0 a1 a2
    rw [if_pos (by omega)] at a0 a1 a2
    simp only [hD]
    exact ⟨a0, a1, a2⟩
theorem OpnRow.frozen {w : World} {b n : Nat} {u : Nat → Opn} (h : OpnRow w b n u) (k : Nat) : w.frozen? ⟨b, k, none⟩ = false := by
  obtain ⟨cs, T, h1, _⟩ := h
  simp [World.frozen?, h1]
def relOf (tk : List UInt8) (f : Nat) (o : Opn) : Opn := ⟨o.entry, tk, f + 2⟩

set_option maxRecDepth 100000 in
set_option maxHeartbeats 8000000 in
theorem relative_ok {m gb : Nat} {g : Gr} {W0 : World} (hp : Pre m gb g W0) : OpenOk m W0 g.toks.length (.func (.func 119) #[.pointer (some ⟨gb, 0, none⟩)] #[]) (relS g) := by
  refine ⟨_, _, _, rfl, enters_of Tryz.func119 (by kernel_rfl) rfl, fun W hs i j hij hj => ?_⟩
  show Calls _ _ #[.pointer (some ⟨gb, 0, none⟩), .int .i64 i, .int .i64 j] W _
  have few := hp.few
  have hw1 : IntKind.i64.wrap ((i : Int) + 1) = (i : Int) + 1 := IntWalk.i64_in _ (by omega)
  have hw2 : IntKind.i64.wrap ((i : Int) + 2) = (i : Int) + 2 := IntWalk.i64_in _ (by omega)
  by_cases hlt : i + 1 < j
  · have hd1 : decide ((j : Int) ≤ (i : Int) + 1) = false := by simp; omega
    have hd2 : decide (j ≤ i + 1) = false := by simp; omega
    obtain ⟨tv, ht0, hts⟩ := hp.toks
    obtain ⟨ta, tc, rfl, ht1, ht2, ht3⟩ := hts.since hs
    obtain ⟨tb, off, rfl, htc⟩ := ht3.resolve_left (by intro h; rw [h] at hj; simp at hj; omega)
    have k0 := htc (i + 1) (by omega)
    obtain ⟨tk, htk⟩ : ∃ tk, tk = g.toks[i + 1]'(by omega) := ⟨_, rfl⟩
    rw [← htk] at k0
    have htk' : g.toks.getD (i + 1) [] = tk := by rw [getD_at (by omega), htk]
    have c3 := hs.cell ht0
    have b3 := cell_lt c3
    simp only at b3
    obtain ⟨n, hn⟩ : ∃ n, n = g.toks.length := ⟨_, rfl⟩
    have HCall := Lib.hid (fun (w1 : World) (hs1 : Since m W0 w1) xb qb cb x0 x1 x2 => entry_calls hp w1 hs1 xb qb cb 1 false x0 x1 x2 i j hij hj)
    rw [← hn] at few c3 ht1
    have hin : i + 1 < n := by omega
    have HTk := Lib.hid htk'
    have HS := Lib.hid hs
    clear htk' htk htc ht3 hts ht0 hp hs hn
    by_cases hq : tk = wWho ∨ tk = wThat
    · have hS : relS g i j = (entryS g 1 false i j).map (relOf tk i) := by
        unfold relS; rw [if_neg (by omega), HTk.out, if_neg (by rintro ⟨h1, h2⟩; rcases hq with h | h <;> contradiction)]; rfl
      have HR := Lib.hid hS
      have tests : ((tk == [119, 104, 111]) = true ∧ (tk != [119, 104, 111]) = false) ∨ ((tk == [119, 104, 111]) = false ∧ (tk != [119, 104, 111]) = true ∧ (tk == [116, 104, 97, 116]) = true ∧ (tk != [116, 104, 97, 116]) = false) := by
        rcases hq with rfl | rfl <;> simp [wWho, wThat]
      clear hS hq HTk
      rcases tests with ⟨q1, q2⟩ | ⟨q1, q2, q3, q4⟩
      all_goals
        go_enter Tryz.func119, Tryz.ntmps119
        go_wp2_with fail
        refine (entry_make W gb 1 false).mono ?_
        rintro _ w1 ⟨rfl, hb1, hz1, x0, x1, x2⟩
        have hcall := HCall.out w1 (HS.out.below hb1) _ _ _ x0 x1 x2
        have HCall2 := Lib.hid hcall
        have HB1 := Lib.hid hb1
        clear hcall hb1 hz1 x0 x1 x2
        go_wp2_with fail
        refine HCall2.out.mono ?_
        rintro _ w2 ⟨v, rfl, hlen, hown, hb2⟩
        have HB2 := Lib.hid (HB1.out.trans (hb2.mono HB1.out.size))
        have hr := opnRow_of_owns hown
        obtain ⟨os, hos⟩ : ∃ os, os = entryS g 1 false i j := ⟨_, rfl⟩
        rw [← hos] at hr hlen
        have HOs := Lib.hid hos
        clear hown hb2 hos
        rcases hr with ⟨rfl, hnil⟩ | ⟨b, c, rfl, hbb, hrow⟩
        · have HNil := Lib.hid (show relS g i j = [] by rw [HR.out, ← HOs.out, hnil]; rfl)
          clear hnil
          go_wp2
          go_loopw [35] (fun q wr => q = .int .i64 0 ∧ Below W.heap.size W wr) (fun _ _ => 0)
          case atStart => exact ⟨rfl, HB2.out⟩
          case round =>
            obtain ⟨rfl, hbr⟩ := hrel
            go_wp2
            go_ret
            exact ⟨_, rfl, by rw [HNil.out]; exact opn_none, hbr, fun c h => by cases h⟩
        · have hWb : W.heap.size ≤ b := Nat.le_trans HB1.out.size hbb
          have HRow := Lib.hid hrow
          clear hrow
          go_wp2
          go_loopw [35] (fun q wr => ∃ k : Nat, k ≤ os.length ∧ q = .int .i64 k ∧ OpnRow wr b os.length (fun j => if j < k then relOf tk i (os.getD j ⟨0, [], 0⟩) else os.getD j ⟨0, [], 0⟩) ∧ Below W.heap.size W wr) (fun q _ => os.length - (intOf q).toNat)
          case atStart => exact ⟨0, Nat.zero_le _, rfl, HRow.out.congr (fun j _ => by simp), HB2.out⟩
          case round =>
            obtain ⟨k, hk, rfl, hr, hbr⟩ := hrel
            by_cases hkl : k < os.length
            · obtain ⟨y0, y1, y2⟩ := hr.cells k hkl
              have hf1 := hr.frozen (k * 3 + 1)
              have hf2 := hr.frozen (k * 3 + 2)
              simp only [Nat.lt_irrefl, if_false] at y0 y1 y2
              obtain ⟨ok, hok⟩ : ∃ ok, ok = os.getD k ⟨0, [], 0⟩ := ⟨_, rfl⟩
              rw [← hok] at y0 y1 y2
              have HOk := Lib.hid hok
              have HR1 := Lib.hid hr
              clear hr hok
              go_wp2
              go_roundw
              case rel =>
                refine ⟨k + 1, by omega, by go_num, ?_, (hbr.setCell (p := ⟨b, k * 3 + 1, none⟩) hWb _).setCell (p := ⟨b, k * 3 + 2, none⟩) hWb _⟩
                refine (HR1.out.set k hkl tk (i + 2)).congr (fun j _ => ?_)
                by_cases e : j = k
                · subst e
                  simp [relOf]
                · by_cases e2 : j < k
                  · simp [e, e2, show j < k + 1 by omega]
                  · simp [e, e2, show ¬ j < k + 1 by omega]
              case measure => simp [intOf]; omega
            · obtain rfl : k = os.length := by omega
              have HR1 := Lib.hid hr
              clear hr
              go_wp2
              go_ret
              refine ⟨_, rfl, HR1.out.slice _ (by rw [HR.out, List.length_map, ← HOs.out]) (by omega) (fun j hj => ?_), hbr, fun c h => by cases h; exact hWb⟩
              have hj' : j < os.length := by rw [HR.out, List.length_map, ← HOs.out] at hj; exact hj
              simp only [HR.out, List.getElem_map, hj', if_true]
              congr 1
              rw [List.getD_eq_getElem?_getD, List.getElem?_eq_getElem hj', Option.getD_some]
              simp only [HOs.out]
    · have hS : relS g i j = [] := by unfold relS; rw [if_neg (by omega), HTk.out, if_pos ⟨fun h => hq (.inl h), fun h => hq (.inr h)⟩]
      have HR := Lib.hid hS
      have q1 : (tk == [119, 104, 111]) = false := by simp; intro h; exact hq (.inl h)
      have q2 : (tk != [119, 104, 111]) = true := by simp; intro h; exact hq (.inl h)
      have q3 : (tk == [116, 104, 97, 116]) = false := by simp; intro h; exact hq (.inr h)
      have q4 : (tk != [116, 104, 97, 116]) = true := by simp; intro h; exact hq (.inr h)
      clear hS hq HTk
      go_enter Tryz.func119, Tryz.ntmps119
      go_wp2
      go_ret
      exact ⟨_, rfl, by rw [HR.out]; exact opn_none, Below.refl _ _, fun c h => by cases h⟩
  · have hd1 : decide ((j : Int) ≤ (i : Int) + 1) = true := by simp; omega
    have hd2 : decide (j ≤ i + 1) = true := by simp; omega
    have hS : relS g i j = [] := by unfold relS; rw [if_pos (by omega)]
    have HR := Lib.hid hS
    clear hS
    go_enter Tryz.func119, Tryz.ntmps119
    go_wp2
    go_ret
    exact ⟨_, rfl, by rw [HR.out]; exact opn_none, Below.refl _ _, fun c h => by cases h⟩
end Go.Proofs.YthmnffgjckpkiaaGreatDoor
