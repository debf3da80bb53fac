/-
  The functions that read the words ahead of a row's parts: says, entry, behind, article, determiner, relative.
  The functions that read the words ahead of a row's parts: article, determiner, relative.
  What the makers make serves too where field 4 of the grammar has been stored since.
  What makes the rows: the makers of openings.
-/
import Derived.Test.YthmnffgjckpkiaaGreatDoorGEngA
import Derived.Test.YthmnffgjckpkiaaGreatDoorGLow
import Derived.Test.YthmnffgjckpkiaaGreatDoorShelf
namespace Go.Proofs.YthmnffgjckpkiaaGreatDoor
open Go Go.RowKit Go.Shelf

theorem FormSlice.since {m : Nat} {W0 W : World} {v : Value} {fs : List (Nat × Bool)} (h : FormSlice W0 v fs) (hs : Since m W0 W) : FormSlice W v fs := by
  obtain ⟨a, cap, hv, h⟩ := h
  refine ⟨a, cap, hv, ?_⟩
  rcases h with h | ⟨b, ha, hc⟩
  · exact .inl h
  · exact .inr ⟨b, ha, fun j hj => ⟨hs.cell (hc j hj).1, hs.cell (hc j hj).2⟩⟩
theorem Since.tabs {m : Nat} {Wt W0 W : World} (ht : Tabs Wt W0) (hm : Wt.heap.size ≤ m) (hs : Since m W0 W) : ∃ Wt', Tabs Wt' W :=
  ⟨{ Wt with os := W.os, tape := W.tape, output := W.output }, ⟨⟨ht.at0.maxLen, ht.at0.space, ht.at0.case, ht.at0.utf8⟩, ⟨rfl, rfl, rfl, Nat.le_trans ht.size hs.size, fun b hb => (hs.block b (Nat.lt_of_lt_of_le hb ht.size) (Nat.ne_of_lt (Nat.lt_of_lt_of_le hb hm))).trans (ht.below.block b hb)⟩, ht.some⟩⟩

/-- What of the grammar stands when its table is made. -/
structure Pre (m gb : Nat) (g : Gr) (W0 : World) : Prop where
  map : ∃ es c, W0.heap[m]? = some (.map es c)
  lex : ∃ v, W0.cell? ⟨gb, 0, none⟩ = some v ∧ EntSlice W0 v g.l
  toks : ∃ v, W0.cell? ⟨gb, 1, none⟩ = some v ∧ StrSlice W0 v g.toks
  forms : ∃ fa fc, W0.cell? ⟨gb, 3, none⟩ = some (.slice fa g.toks.length fc) ∧ (g.toks = [] ∨ ∃ fb, fa = some ⟨fb, 0, none⟩ ∧ ∀ j (h : j < g.toks.length), ∃ v, W0.cell? ⟨fb, j, none⟩ = some v ∧ FormSlice W0 v (lookS g.toks[j] g.l))
  few : g.toks.length ≤ 24
  short : g.l.length ≤ 100
  tabs : ∃ Wt, Tabs Wt W0 ∧ Wt.heap.size ≤ m
theorem Pre.since {m gb : Nat} {g : Gr} {W0 W : World} (h : Pre m gb g W0) (hs : Since m W0 W) (hm : ∃ es c, W.heap[m]? = some (.map es c)) : Pre m gb g W := by
  obtain ⟨v, hv, hl⟩ := h.lex
  obtain ⟨u, hu, ht⟩ := h.toks
  obtain ⟨fa, fc, hf, hfs⟩ := h.forms
  obtain ⟨Wt, hT, hTm⟩ := h.tabs
  refine ⟨hm, ⟨v, hs.cell hv, hl.since hs⟩, ⟨u, hs.cell hu, ht.since hs⟩, ⟨fa, fc, hs.cell hf, ?_⟩, h.few, h.short, ?_⟩
  · rcases hfs with h | ⟨fb, ha, hc⟩
    · exact .inl h
    · exact .inr ⟨fb, ha, fun j hj => by obtain ⟨x, hx, hxs⟩ := hc j hj; exact ⟨x, hs.cell hx, hxs.since hs⟩⟩
  · exact ⟨{ Wt with os := W.os, tape := W.tape, output := W.output }, ⟨⟨hT.at0.maxLen, hT.at0.space, hT.at0.case, hT.at0.utf8⟩, ⟨rfl, rfl, rfl, Nat.le_trans hT.size hs.size, fun b hb => (hs.block b (Nat.lt_of_lt_of_le hb hT.size) (Nat.ne_of_lt (Nat.lt_of_lt_of_le hb hTm))).trans (hT.below.block b hb)⟩, hT.some⟩, hTm⟩

theorem bytes_inj {a b : List UInt8} (h : (⟨a.toArray⟩ : ByteArray) = ⟨b.toArray⟩) : a = b := by simpa using h
theorem map_bytes {xs ys : List (List UInt8)} : xs.map (fun l => (⟨l.toArray⟩ : ByteArray)) = ys.map (fun l => (⟨l.toArray⟩ : ByteArray)) ↔ xs = ys :=
  ⟨fun h => List.map_inj_right (fun _ _ h => bytes_inj h) |>.1 h, fun h => by rw [h]⟩
/-- slices.Equal of two slices of strings. -/
theorem equal_any (w : World) (a1 a2 : Option Addr) (L c d : Nat) (xs ys : List (List UInt8)) (hx : xs.length = L) (hy : ys.length = L) (h24 : L ≤ 24)
    (h1 : xs = [] ∨ ∃ b o, a1 = some ⟨b, o, none⟩ ∧ ∀ j (h : j < xs.length), w.cell? ⟨b, o + j, none⟩ = some (.string ⟨xs[j].toArray⟩))
    (h2 : ys = [] ∨ ∃ b o, a2 = some ⟨b, o, none⟩ ∧ ∀ j (h : j < ys.length), w.cell? ⟨b, o + j, none⟩ = some (.string ⟨ys[j].toArray⟩)) :
    Calls Tryz.prog 156 #[.slice a1 L c, .slice a2 L d] w fun e w' => e = .returned (.bool (decide (xs = ys))) ∧ Below w.heap.size w w' := by
  by_cases h0 : xs = []
  · subst h0
    obtain rfl : L = 0 := hx.symm
    have hy : ys = [] := List.length_eq_zero_iff.1 hy
    subst hy
    refine (Tryz.slices_Equal_string_empty a1 a2 c 0 d w (by omega)).mono ?_
    rintro e w' ⟨rfl, rfl⟩
    exact ⟨by simp, Below.refl _ _⟩
  · have h0' : ys ≠ [] := fun h => h0 (List.length_eq_zero_iff.1 (by rw [hx, ← hy, h]; rfl))
    obtain ⟨b1, o1, rfl, k1⟩ := h1.resolve_left h0
    obtain ⟨b2, o2, rfl, k2⟩ := h2.resolve_left h0'
    refine (Tryz.slices_Equal_string b1 o1 L c b2 o2 L d (xs.map fun l => ⟨l.toArray⟩) (ys.map fun l => ⟨l.toArray⟩) w (by simp [hx]) (by simp [hy]) (by omega) (by omega) ?_ ?_).mono ?_
    · intro j hj
      rw [List.length_map] at hj
      rw [k1 j hj]
      simp [hj]
    · intro j hj
      rw [List.length_map] at hj
      rw [k2 j hj]
      simp [hj]
    · rintro e w' ⟨rfl, q, rfl⟩
      refine ⟨?_, (Below.refl _ _).drewsN q⟩
      congr 2
      rw [List.take_of_length_le (by simp [hx]), List.take_of_length_le (by simp [hy])]
      exact decide_eq_decide.2 map_bytes
/-- One opening in a block of its own. -/
theorem opn_one {w : World} (o : Opn) (t : TypeId) : OpnSlice (w.alloc (.cells #[.int .i64 o.entry, .string ⟨o.word.toArray⟩, .int .i64 o.at] t)) (.slice (some ⟨w.heap.size, 0, none⟩) 1 1) [o] := by
  refine ⟨_, _, rfl, by simp, .inr ⟨_, rfl, fun j hj => ?_⟩⟩
  obtain rfl : j = 0 := by simp at hj; omega
  have h := World.alloc_heap_new w (.cells #[.int .i64 o.entry, .string ⟨o.word.toArray⟩, .int .i64 o.at] t)
  refine ⟨?_, ?_, ?_⟩ <;> (unfold World.cell?; rw [h]; rfl)
theorem opn_none {w : World} : OpnSlice w (.slice none 0 0) [] := ⟨_, _, rfl, by simp, .inl rfl⟩

set_option maxRecDepth 100000 in
theorem says_ok {m gb : Nat} {g : Gr} {W0 : World} (hp : Pre m gb g W0) (lb xb : Nat) (list : List (List UInt8)) (h24 : list.length ≤ 24) (lv : Value) (hl : W0.cell? ⟨lb, 0, none⟩ = some lv) (hls : StrSlice W0 lv list) (hx : W0.cell? ⟨xb, 0, none⟩ = some (.pointer (some ⟨gb, 0, none⟩))) :
    OpenOk m W0 g.toks.length (.func (.func 155) #[] #[.pointer (some ⟨lb, 0, none⟩), .pointer (some ⟨xb, 0, none⟩)]) (saysS g list) := by
  refine ⟨_, _, _, rfl, enters_of Tryz.func155 (by kernel_rfl) rfl, fun W hs i j hij hj => ?_⟩
  show Calls _ _ #[.int .i64 i, .int .i64 j, .pointer (some ⟨lb, 0, none⟩), .pointer (some ⟨xb, 0, none⟩)] W _
  obtain ⟨tv, ht0, hts⟩ := hp.toks
  obtain ⟨ta, tc, rfl, ht1, ht2, ht3⟩ := hts.since hs
  obtain ⟨la, lc, rfl, hl1, hl2, hl3⟩ := hls.since hs
  have c0 := hs.cell ht0
  have c1 := hs.cell hl
  have c2 := hs.cell hx
  have few := hp.few
  have b0 := cell_lt c0
  have b1 := cell_lt c1
  have b2 := cell_lt c2
  simp only at b0 b1 b2
  obtain ⟨N, hN⟩ : ∃ N, N = g.toks.length := ⟨_, rfl⟩
  obtain ⟨L, hL⟩ : ∃ L, L = list.length := ⟨_, rfl⟩
  rw [← hN] at c0 hj few ht1
  rw [← hL] at c1 hl1 h24
  have HN := Lib.hid hN
  have HL := Lib.hid hL
  have HT3 := Lib.hid ht3
  have HL3 := Lib.hid hl3
  clear hN hL ht3 hl3 hts hp hs hx hl hls ht0
  have hw1 : IntKind.i64.wrap ((i : Int) + (L : Int)) = (i : Int) + (L : Int) := IntWalk.i64_in _ (by omega)
  by_cases hle : i + L ≤ j
  · have hd1 : decide ((j : Int) < (i : Int) + (L : Int)) = false := by simp; omega
    have hd2 : decide (j < i + L) = false := by simp; omega
    obtain ⟨q, hq⟩ : ∃ q, q = decide ((g.toks.drop i).take L = list) := ⟨_, rfl⟩
    have HEq := Lib.hid (fun (x : Later W) => show Calls Tryz.prog 156 #[.slice (if tc = i then ta else Option.map (fun x => x.add i) ta) L (tc - i), .slice la L lc] x.w (fun e w' => e = .returned (.bool q) ∧ Below x.w.heap.size x.w w') from by
      rw [hq]
      have hlen : ((g.toks.drop i).take L).length = L := by rw [List.length_take, List.length_drop, ← HN.out]; omega
      refine equal_any x.w _ la L _ lc _ list hlen HL.out.symm h24 ?_ ?_
      · by_cases h0 : L = 0
        · exact .inl (by rw [h0]; rfl)
        · right
          rcases HT3.out with h | ⟨tb, off, rfl, hc⟩
          · rw [h] at HN; have := HN.out; simp at this; omega
          · refine ⟨tb, off + i, by rw [if_neg (by omega)]; simp [Addr.add], fun k hk => ?_⟩
            have h := x.get (hc (i + k) (by rw [hlen] at hk; have := HN.out; omega))
            simpa [Nat.add_assoc] using h
      · rcases HL3.out with h | ⟨tb, off, rfl, hc⟩
        · exact .inl h
        · exact .inr ⟨tb, off, rfl, fun k hk => x.get (hc k hk)⟩)
    have hS : saysS g list i j = if q then [⟨0, [], i + L⟩] else [] := by
      unfold saysS
      rw [← HL.out, hq]
      by_cases h : (g.toks.drop i).take L = list
      · simp [h, hle]
      · simp [h]
    have HS := Lib.hid hS
    clear hS hq
    go_enter Tryz.func155, Tryz.ntmps155
    go_wp2
    have f0 := fun x : Later W => x.get c0
    have f1 := fun x : Later W => x.get c1
    have f2 := fun x : Later W => x.get c2
    clear c0 c1 c2
    refine wp_region_later (by kernel_rfl) (by kernel_rfl) ?_
    repeat (go_big_quiet_step ((go_at_call 156; exact later_call (HEq.out _))))
    refine wpQuiet_nil ?_
    rintro _ ⟨x, rfl⟩
    have e1 := f1 x
    clear f0 f1 f2
    have HB := Lib.hid x.below
    cases q
    · go_wp2
      all_goals
        go_ret
        exact ⟨_, rfl, by rw [HS.out]; exact opn_none, HB.out, fun c h => by cases h⟩
    · go_wp2
      all_goals
        go_ret
        refine ⟨_, rfl, ?_, HB.out.alloc HB.out.size _, fun c h => by cases h; exact HB.out.size⟩
        rw [HS.out]
        exact opn_one (w := x.w) ⟨0, [], i + L⟩ _
  · have hd1 : decide ((j : Int) < (i : Int) + (L : Int)) = true := by simp; omega
    have hd2 : decide (j < i + L) = true := by simp; omega
    have hS : saysS g list i j = [] := by unfold saysS; rw [← HL.out, if_neg (by omega)]
    have HS := Lib.hid hS
    clear hS
    go_enter Tryz.func155, Tryz.ntmps155
    go_wp2
    have f0 := fun x : Later W => x.get c0
    have f1 := fun x : Later W => x.get c1
    have f2 := fun x : Later W => x.get c2
    clear c0 c1 c2
    refine wp_region_later (by kernel_rfl) (by kernel_rfl) ?_
    repeat (go_big_quiet_step (fail))
    refine wpQuiet_nil ?_
    rintro _ ⟨x, rfl⟩
    clear f0 f1 f2
    have HB := Lib.hid x.below
    go_wp2
    go_ret
    exact ⟨_, rfl, by rw [HS.out]; exact opn_none, HB.out, fun c h => by cases h⟩

/-- A row of openings that the call owns. -/
theorem opn_flat3 (os : List Opn) : ∀ j (h : j < os.length), (os.flatMap opnCells)[j * 3]? = some (.int .i64 os[j].entry) ∧ (os.flatMap opnCells)[j * 3 + 1]? = some (strVal os[j].word) ∧ (os.flatMap opnCells)[j * 3 + 2]? = some (.int .i64 os[j].at) := by
  induction os with
  | nil => intro j h; simp at h
  | cons f os ih =>
    intro j h
    cases j with
    | zero => simp [opnCells]
    | succ j =>
      have := ih j (by simpa using h)
      simp only [List.flatMap_cons, opnCells, List.cons_append, List.nil_append]
      rw [show (j + 1) * 3 = j * 3 + 1 + 1 + 1 by omega, show j * 3 + 1 + 1 + 1 + 1 = (j * 3 + 1) + 1 + 1 + 1 by omega, show j * 3 + 1 + 1 + 1 + 2 = (j * 3 + 2) + 1 + 1 + 1 by omega]
      simpa using this
theorem opnSlice_of_owns {w : World} {base : Nat} {v : Value} {os : List Opn} {t : TypeId} (hl : os.length ≤ 1000) (h : w.ownsRow base t 3 v os.length (os.flatMap opnCells)) : OpnSlice w v os := by
  rcases h.2 with ⟨rfl, h0⟩ | ⟨g, cap, cur, rfl, hbg, hg, hnc, hcm, hcs, htake⟩
  · have : os = [] := List.eq_nil_of_length_eq_zero h0
    subst this
    exact ⟨none, 0, rfl, hl, .inl rfl⟩
  · refine ⟨_, cap, rfl, hl, .inr ⟨g, rfl, fun j hj => ?_⟩⟩
    have hadd : ∀ j, (⟨g, 0, none⟩ : Addr).add j = ⟨g, j, none⟩ := fun j => by unfold Addr.add; split <;> simp_all
    have h0 := h.cells (g := g) rfl (j * 3) _ (opn_flat3 os j hj).1
    have h1 := h.cells (g := g) rfl (j * 3 + 1) _ (opn_flat3 os j hj).2.1
    have h2 := h.cells (g := g) rfl (j * 3 + 2) _ (opn_flat3 os j hj).2.2
    rw [hadd] at h0 h1 h2
    exact ⟨h0, h1, h2⟩
theorem info_opening : (Tryz.prog.info? 127).map (fun i => (i.zero, i.size, i.bytes)) = some (some (.agg #[.int .i64 0, .string ⟨#[]⟩, .int .i64 0]), 3, 32) := by kernel_rfl
theorem look_len (tok : List UInt8) (l : List Ent) : (lookS tok l).length ≤ l.length := by unfold lookS; rw [List.length_map]; exact thoseTo_len _ _ _
theorem look_lt {tok : List UInt8} {l : List Ent} {x : Nat × Bool} (h : x ∈ lookS tok l) : x.1 < l.length := by
  unfold lookS thoseS thoseTo at h
  obtain ⟨i, hi, rfl⟩ := List.mem_map.1 h
  have h := (List.mem_filter.1 hi).1
  have h2 : i < l.length := by simpa using h
  rw [formAt_eq tok h2]
  exact h2
theorem getD_at {l : List (List UInt8)} {i : Nat} (h : i < l.length) : l.getD i [] = l[i] := by rw [List.getD_eq_getElem?_getD, List.getElem?_eq_getElem h, Option.getD_some]

/-- The forms that serve, and their openings. -/
def serves (g : Gr) (cat : Int) (third : Bool) (x : Nat × Bool) : Bool := x.2 == third && catAt g.l x.1 == cat
def opnOf (f : Nat) (x : Nat × Bool) : Opn := ⟨x.1, [], f + 1⟩
def served (g : Gr) (cat : Int) (third : Bool) (f : Nat) (fs : List (Nat × Bool)) : List Opn := (fs.filter (serves g cat third)).map (opnOf f)
theorem served_no {g : Gr} {cat : Int} {third : Bool} {f k : Nat} {fs : List (Nat × Bool)} (h : k < fs.length) (hs : serves g cat third fs[k] = false) : served g cat third f (fs.take (k + 1)) = served g cat third f (fs.take k) := by
  unfold served
  rw [List.take_succ_eq_append_getElem h, List.filter_append]
  simp [hs]
theorem served_yes {g : Gr} {cat : Int} {third : Bool} {f k : Nat} {fs : List (Nat × Bool)} (h : k < fs.length) (hs : serves g cat third fs[k] = true) : served g cat third f (fs.take (k + 1)) = served g cat third f (fs.take k) ++ [opnOf f fs[k]] := by
  unfold served
  rw [List.take_succ_eq_append_getElem h, List.filter_append]
  simp [hs]
theorem served_len (g : Gr) (cat : Int) (third : Bool) (f k : Nat) (fs : List (Nat × Bool)) : (served g cat third f (fs.take k)).length ≤ k := by
  unfold served
  rw [List.length_map]
  exact Nat.le_trans (List.length_filter_le _ _) (List.length_take_le _ _)

set_option maxRecDepth 100000 in
set_option maxHeartbeats 4000000 in
theorem entry_calls {m gb : Nat} {g : Gr} {W0 : World} (hp : Pre m gb g W0) (W : World) (hs : Since m W0 W) (xb qb cb : Nat) (cat : Int) (third : Bool) (c0 : W.cell? ⟨xb, 0, none⟩ = some (.pointer (some ⟨gb, 0, none⟩))) (c1 : W.cell? ⟨qb, 0, none⟩ = some (.bool third)) (c2 : W.cell? ⟨cb, 0, none⟩ = some (.int .u8 cat)) (i j : Nat) (hij : i ≤ j) (hj : j ≤ g.toks.length) :
    Calls Tryz.prog 157 #[.int .i64 i, .int .i64 j, .pointer (some ⟨xb, 0, none⟩), .pointer (some ⟨qb, 0, none⟩), .pointer (some ⟨cb, 0, none⟩)] W fun e W' =>
      ∃ v, e = .returned v ∧ (entryS g cat third i j).length ≤ 100 ∧ W'.ownsRow W.heap.size 127 3 v (entryS g cat third i j).length ((entryS g cat third i j).flatMap opnCells) ∧ Below W.heap.size W W' := by
  obtain ⟨i0, hi, hz0, hz1, hz2⟩ := info_parts info_opening
  have few := hp.few
  by_cases hlt : i < j
  · have hd1 : decide ((j : Int) ≤ (i : Int)) = false := by simp; omega
    have hd2 : decide (j ≤ i) = false := by simp; omega
    obtain ⟨fa, fc, hf0, hfs⟩ := hp.forms
    have hne : g.toks ≠ [] := by intro h; rw [h] at hj; simp at hj; omega
    obtain ⟨fb, rfl, hfb⟩ := hfs.resolve_left hne
    obtain ⟨fv, hfv, hfsl⟩ := hfb i (by omega)
    obtain ⟨fs, hfsd⟩ : ∃ fs, fs = lookS (g.toks[i]'(by omega)) g.l := ⟨_, rfl⟩
    rw [← hfsd] at hfsl
    have hlen : fs.length ≤ 100 := by rw [hfsd]; exact Nat.le_trans (look_len _ _) hp.short
    have hmem : ∀ x ∈ fs, x.1 < g.l.length := fun x hx => look_lt (hfsd ▸ hx)
    have hE : entryS g cat third i j = served g cat third i fs := by
      unfold entryS
      rw [if_neg (by omega), getD_at (by omega), ← hfsd]
      rfl
    obtain ⟨a, cap, rfl, hform⟩ := hfsl.since hs
    obtain ⟨lv, hlv, hls⟩ := hp.lex
    have hls' := hls.since hs
    have c3 := hs.cell hf0
    have c4 := hs.cell hfv
    have c5 := hs.cell hlv
    obtain ⟨n, hn⟩ : ∃ n, n = g.toks.length := ⟨_, rfl⟩
    rw [← hn] at few hj c3
    have hin : i < n := by omega
    have C0 := Lib.hid c0
    have C1 := Lib.hid c1
    have C2 := Lib.hid c2
    have C5 := Lib.hid c5
    have HE := Lib.hid hE
    have HM := Lib.hid hmem
    have HF := Lib.hid hform
    have HL := Lib.hid hls'
    clear hls' hls hlv hfv hfb hfs hne hfsl hform hmem hE hfsd hf0 hp hs c1 c2 c5 hn
    go_enter Tryz.func157, Tryz.ntmps157
    go_wp2
    go_loopw [8, 22] (fun v q wr => ∃ k : Nat, k ≤ fs.length ∧ q = .int .i64 k ∧ wr.ownsRow W.heap.size 127 3 v (served g cat third i (fs.take k)).length ((served g cat third i (fs.take k)).flatMap opnCells) ∧ Below W.heap.size W wr) (fun _ q _ => fs.length - (intOf q).toNat)
    case atStart => exact ⟨0, Nat.zero_le _, rfl, World.ownsRow_nil _ _ _ _, Below.refl _ _⟩
    case round =>
      obtain ⟨k, hk, rfl, hown, hb⟩ := hrel
      have HOwn := Lib.hid hown
      clear hown
      by_cases hkl : k < fs.length
      · rcases HF.out with h0 | ⟨gg, rfl, hcg⟩
        · rw [h0] at hkl; exact absurd hkl (by simp)
        obtain ⟨q0, q1⟩ := hcg k hkl
        obtain ⟨x, hx⟩ : ∃ x, x = fs[k] := ⟨_, rfl⟩
        rw [← hx] at q0 q1
        have k0 := cell_kept' hb q0
        have k1 := cell_kept' hb q1
        have hxl : x.1 < g.l.length := HM.out x (by rw [hx]; exact List.getElem_mem hkl)
        obtain ⟨⟨ea, ecap, rfl, hec, hem, hef⟩, hok⟩ := HL.out
        obtain ⟨eb, eo, rfl, heb, hec⟩ := hef.resolve_left (by intro h; rw [h] at hxl; simp at hxl)
        obtain ⟨e, he⟩ : ∃ e, e = g.l[x.1] := ⟨_, rfl⟩
        have e1 := cell_kept' hb (hec x.1 hxl).2.1
        rw [← he] at e1
        have hcat : catAt g.l x.1 = e.cat := by unfold catAt; rw [List.getElem?_eq_getElem hxl, ← he]
        have hsv : serves g cat third x = (x.2 == third && e.cat == cat) := by unfold serves; rw [hcat]
        obtain ⟨xi, hxi⟩ : ∃ xi, xi = x.1 := ⟨_, rfl⟩
        obtain ⟨xt, hxt⟩ : ∃ xt, xt = x.2 := ⟨_, rfl⟩
        rw [← hxi] at k0 e1 hxl
        rw [← hxt] at k1 hsv
        have HX := Lib.hid hx
        have HXi := Lib.hid hxi
        have HXt := Lib.hid hxt
        have HSv := Lib.hid hsv
        have HKC := Lib.hid e1
        clear hx hxi hxt hsv hcat he hec hok hcg q0 q1 hem hef e1
        have hsl := served_len g cat third i k fs
        obtain ⟨acc, hacc⟩ : ∃ acc, acc = served g cat third i (fs.take k) := ⟨_, rfl⟩
        rw [← hacc] at hsl HOwn
        have HAcc := Lib.hid hacc
        clear hacc
        go_wp2
        obtain ⟨w1, hw1⟩ : ∃ w1, w1 = wr.alloc (.cells #[.int .i64 xi, .bool xt] 154) := ⟨_, rfl⟩
        have hb1 : Below wr.heap.size wr w1 := by rw [hw1]; exact (Below.refl _ _).alloc (Nat.le_refl _) _
        have hbW1 : Below W.heap.size W w1 := hb.trans (hb1.mono hb.size)
        have hbx : w1.heap[wr.heap.size]? = some (.cells #[.int .i64 xi, .bool xt] 154 (0, 0)) := by rw [hw1]; exact World.alloc_heap_new wr _
        have hown1 := hw1 ▸ HOwn.out.alloc (.cells #[.int .i64 xi, .bool xt] 154)
        have HO1 := Lib.hid hown1
        rw [← hw1]
        have y0 : w1.cell? ⟨wr.heap.size, 0, none⟩ = some (.int .i64 xi) := by simp [World.cell?, hbx]
        have y1 : w1.cell? ⟨wr.heap.size, 1, none⟩ = some (.bool xt) := by simp [World.cell?, hbx]
        have f0 := fun x : Later w1 => x.get (cell_kept' hbW1 C0.out)
        have f1 := fun x : Later w1 => x.get (cell_kept' hbW1 C1.out)
        have f2 := fun x : Later w1 => x.get (cell_kept' hbW1 C2.out)
        have f3 := fun x : Later w1 => x.get (cell_kept' hbW1 C5.out)
        have f4 := fun x : Later w1 => x.get (cell_kept' hb1 HKC.out)
        have f5 := fun x : Later w1 => x.get y0
        have f6 := fun x : Later w1 => x.get y1
        have hlw := (Array.getElem?_eq_some_iff.1 hbx).1
        clear hw1 hown1 k0 k1 y0 y1 hbx
        have arms : ((xt == third) = false) ∨ ((xt == third) = true ∧ (e.cat == cat) = false) ∨ ((xt == third) = true ∧ (e.cat == cat) = true) := by
          cases (xt == third) <;> cases (e.cat == cat) <;> simp
        rcases arms with hA | ⟨hA, hB⟩ | ⟨hA, hB⟩
        · have hno : serves g cat third fs[k] = false := by rw [← HX.out, HSv.out, hA]; rfl
          have hst := served_no (f := i) hkl hno
          have HSt := Lib.hid hst
          clear hno hst
          refine wp_region_later (by kernel_rfl) (by kernel_rfl) ?_
          repeat (go_big_quiet_step (fail))
          refine wpQuiet_nil ?_
          rintro _ ⟨x', rfl⟩
          clear f0 f1 f2 f3 f4 f5 f6 hA
          have HO2 := Lib.hid (ownsRow_below HO1.out x'.below)
          have hbW2 := hbW1.trans (x'.below.mono hbW1.size)
          go_wp2
          go_roundw
          case rel => exact ⟨k + 1, by omega, by go_num, by rw [HSt.out, ← HAcc.out]; exact HO2.out, hbW2⟩
          case measure => simp [intOf]; omega
        · have hno : serves g cat third fs[k] = false := by rw [← HX.out, HSv.out, hA, hB]; rfl
          have hst := served_no (f := i) hkl hno
          have HSt := Lib.hid hst
          clear hno hst
          refine wp_region_later (by kernel_rfl) (by kernel_rfl) ?_
          repeat (go_big_quiet_step (fail))
          refine wpQuiet_nil ?_
          rintro _ ⟨x', rfl⟩
          clear f0 f1 f2 f3 f4 f5 f6 hA hB
          have HO2 := Lib.hid (ownsRow_below HO1.out x'.below)
          have hbW2 := hbW1.trans (x'.below.mono hbW1.size)
          go_wp2
          go_roundw
          case rel => exact ⟨k + 1, by omega, by go_num, by rw [HSt.out, ← HAcc.out]; exact HO2.out, hbW2⟩
          case measure => simp [intOf]; omega
        · have hno : serves g cat third fs[k] = true := by rw [← HX.out, HSv.out, hA, hB]; rfl
          have hst := served_yes (f := i) hkl hno
          have HSt := Lib.hid hst
          clear hno hst
          refine wp_region_later (by kernel_rfl) (by kernel_rfl) ?_
          repeat (go_big_quiet_step (fail))
          refine wpQuiet_nil ?_
          rintro _ ⟨x', rfl⟩
          have z0 := f5 x'
          clear f0 f1 f2 f3 f4 f5 f6 hA hB
          have HO2 := Lib.hid (ownsRow_below HO1.out x'.below)
          have hbW2 := hbW1.trans (x'.below.mono hbW1.size)
          obtain ⟨w2, hw2⟩ : ∃ w2, w2 = x'.w := ⟨_, rfl⟩
          rw [← hw2] at z0 hbW2 HO2 ⊢
          clear hw2
          have hs2 := hbW2.size
          go_wp2_with (at_builtin; refine wpList_append_own _ rfl _ _ 125 rfl W.heap.size 127 i0 (.agg #[.int .i64 0, .string ⟨#[]⟩, .int .i64 0]) 3 32 Tryz.underlying125 hi hz0 hz1 hz2 rfl (by decide) _ _ _ rfl (HO2.out.alloc _) ⟨w2.heap.size, 0, none⟩ 1 1 [.int .i64 xi, .string ⟨#[]⟩, .int .i64 ((i : Int) + 1)] rfl rfl (news_at (cs := #[.int .i64 xi, .string ⟨#[]⟩, .int .i64 ((i : Int) + 1)]) (t := 127) (fr := (0, 0)) (World.alloc_heap_new _ _)) (by simp [Value.oneCell']) (by unfold maxLen; omega) (by omega) (by simp; omega) ?_)
          intro v' w3 hown3 hgrow _
          have hb3 : Below W.heap.size W w3 := (hbW2.alloc hbW2.size _).grown hgrow (by simp; omega) (fun k hk => (HO2.out.lt k hk).1)
          have hap : served g cat third i (fs.take (k + 1)) = acc ++ [⟨xi, [], i + 1⟩] := by rw [HSt.out, ← HAcc.out, ← HX.out]; unfold opnOf; rw [← HXi.out]
          have HAp := Lib.hid hap
          have HO3 := Lib.hid hown3
          clear hown3 hgrow hap
          go_wp2
          go_roundw
          case rel => exact ⟨k + 1, by omega, by go_num, by rw [HAp.out, List.length_append, List.flatMap_append]; exact HO3.out, hb3⟩
          case measure => simp [intOf]; omega
      · obtain rfl : k = fs.length := by omega
        have h1 := HOwn.out
        rw [List.take_length] at h1
        have hsl := served_len g cat third i fs.length fs
        rw [List.take_length] at hsl
        go_wp2
        go_ret
        rw [HE.out]
        exact ⟨_, rfl, by omega, h1, hb⟩
  · have hd1 : decide ((j : Int) ≤ (i : Int)) = true := by simp; omega
    have hd2 : decide (j ≤ i) = true := by simp; omega
    go_enter Tryz.func157, Tryz.ntmps157
    go_wp2
    go_ret
    have h0 : entryS g cat third i j = [] := by unfold entryS; rw [if_pos (by omega)]
    rw [h0]
    exact ⟨_, rfl, by simp, World.ownsRow_nil _ _ _ _, Below.refl _ _⟩
theorem entry_ok {m gb : Nat} {g : Gr} {W0 : World} (hp : Pre m gb g W0) (xb qb cb : Nat) (cat : Int) (third : Bool) (hx : W0.cell? ⟨xb, 0, none⟩ = some (.pointer (some ⟨gb, 0, none⟩))) (hq : W0.cell? ⟨qb, 0, none⟩ = some (.bool third)) (hc : W0.cell? ⟨cb, 0, none⟩ = some (.int .u8 cat)) :
    OpenOk m W0 g.toks.length (.func (.func 157) #[] #[.pointer (some ⟨xb, 0, none⟩), .pointer (some ⟨qb, 0, none⟩), .pointer (some ⟨cb, 0, none⟩)]) (entryS g cat third) := by
  refine ⟨_, _, _, rfl, enters_of Tryz.func157 (by kernel_rfl) rfl, fun W hs i j hij hj => ?_⟩
  refine Calls.mono (entry_calls hp W hs xb qb cb cat third (hs.cell hx) (hs.cell hq) (hs.cell hc) i j hij hj) ?_
  rintro e W' ⟨v, rfl, hl, hown, hb⟩
  exact ⟨v, rfl, opnSlice_of_owns (by omega) hown, hb, fun c hc => (hown.lt c hc).1⟩

theorem bytes_beq (a b : List UInt8) : ((⟨a.toArray⟩ : ByteArray).toList == (⟨b.toArray⟩ : ByteArray).toList) = (a == b) := by simp [ByteArray.toList_eq]

set_option maxRecDepth 100000 in
theorem behind_ok {m gb : Nat} {g : Gr} {W0 : World} (hp : Pre m gb g W0) (xb wb ob : Nat) (word : List UInt8) (ov : Value) (op : Nat → Nat → List Opn) (hop : OpenOk m W0 g.toks.length ov op) (hx : W0.cell? ⟨xb, 0, none⟩ = some (.pointer (some ⟨gb, 0, none⟩))) (hw : W0.cell? ⟨wb, 0, none⟩ = some (.string ⟨word.toArray⟩)) (ho : W0.cell? ⟨ob, 0, none⟩ = some ov) :
    OpenOk m W0 g.toks.length (.func (.func 158) #[] #[.pointer (some ⟨xb, 0, none⟩), .pointer (some ⟨wb, 0, none⟩), .pointer (some ⟨ob, 0, none⟩)]) (behindS g word op) := by
  refine ⟨_, _, _, rfl, enters_of Tryz.func158 (by kernel_rfl) rfl, fun W hs i j hij hj => ?_⟩
  show Calls _ _ #[.int .i64 i, .int .i64 j, .pointer (some ⟨xb, 0, none⟩), .pointer (some ⟨wb, 0, none⟩), .pointer (some ⟨ob, 0, none⟩)] W _
  have few := hp.few
  by_cases hlt : i < j
  · have hd1 : decide ((j : Int) ≤ (i : Int)) = false := by simp; omega
    have hd2 : decide (j ≤ i) = false := by simp; omega
    obtain ⟨tv, ht0, hts⟩ := hp.toks
    obtain ⟨ta, tc, rfl, ht1, ht2, ht3⟩ := hts.since hs
    obtain ⟨tb, off, rfl, htc⟩ := ht3.resolve_left (by intro h; rw [h] at hj; simp at hj; omega)
    have k0 := htc i (by omega)
    obtain ⟨tk, htk⟩ : ∃ tk, tk = g.toks[i]'(by omega) := ⟨_, rfl⟩
    rw [← htk] at k0
    have htk' : g.toks.getD i [] = tk := by rw [getD_at (by omega), htk]
    obtain ⟨fo, bd, caps, rfl, he, hop⟩ := hop
    have c0 := hs.cell hx
    have c1 := hs.cell hw
    have c2 := hs.cell ho
    have c3 := hs.cell ht0
    obtain ⟨n, hn⟩ : ∃ n, n = g.toks.length := ⟨_, rfl⟩
    rw [← hn] at few c3 ht1
    have hin : i < n := by omega
    have HN := Lib.hid hn
    have HOp := Lib.hid hop
    have HS := Lib.hid hs
    have HTk := Lib.hid htk'
    clear htk' htk htc ht3 hts ht0 hop hx hw ho hp hs hn
    by_cases hq : tk = word
    · have hq1 : ((⟨tk.toArray⟩ : ByteArray).toList == (⟨word.toArray⟩ : ByteArray).toList) = true := by rw [hq]; simp
      have hq2 : (tk == word) = true := by simpa using hq
      have hS : behindS g word op i j = op (i + 1) j := by unfold behindS; rw [if_neg (by rw [HTk.out]; simp [hq]; omega)]
      have HR := Lib.hid hS
      clear hq hS
      go_enter Tryz.func158, Tryz.ntmps158
      go_wp2
      have f0 := fun x : Later W => x.get c0
      have f1 := fun x : Later W => x.get c1
      have f2 := fun x : Later W => x.get c2
      have f3 := fun x : Later W => x.get c3
      have f4 := fun x : Later W => x.get k0
      clear c0 c1 c2 c3 k0
      refine wp_region_later (by kernel_rfl) (by kernel_rfl) ?_
      repeat (go_big_quiet_step (fail))
      refine wpQuiet_nil ?_
      rintro _ ⟨x, rfl⟩
      have e2 := f2 x
      clear f0 f1 f2 f3 f4
      have HB := Lib.hid x.below
      go_wp2_with fail
      refine (HOp.out x.w (HS.out.below HB.out) (i + 1) j (by omega) hj).mono ?_
      rintro _ w3 ⟨v, rfl, hv, hb3, hfr⟩
      have HV := Lib.hid (show OpnSlice w3 v (behindS g word op i j) by rw [HR.out]; exact hv)
      have HB3 := Lib.hid (HB.out.trans (hb3.mono HB.out.size))
      have HFr := Lib.hid (fun c h => Nat.le_trans HB.out.size (hfr c h))
      clear hv hb3 hfr
      go_wp2
      go_ret
      exact ⟨_, rfl, HV.out, HB3.out, HFr.out⟩
    · have hq1 : ((⟨tk.toArray⟩ : ByteArray).toList == (⟨word.toArray⟩ : ByteArray).toList) = false := by simpa [ByteArray.toList_eq] using hq
      have hq2 : (tk == word) = false := by simpa using hq
      have hS : behindS g word op i j = [] := by unfold behindS; rw [if_pos (.inr (by rw [HTk.out]; exact hq))]
      have HR := Lib.hid hS
      clear hq hS
      go_enter Tryz.func158, Tryz.ntmps158
      go_wp2
      have f0 := fun x : Later W => x.get c0
      have f1 := fun x : Later W => x.get c1
      have f3 := fun x : Later W => x.get c3
      have f4 := fun x : Later W => x.get k0
      clear c0 c1 c2 c3 k0
      refine wp_region_later (by kernel_rfl) (by kernel_rfl) ?_
      repeat (go_big_quiet_step (fail))
      refine wpQuiet_nil ?_
      rintro _ ⟨x, rfl⟩
      clear f0 f1 f3 f4
      have HB := Lib.hid x.below
      go_wp2
      go_ret
      exact ⟨_, rfl, by rw [HR.out]; exact opn_none, HB.out, fun c h => by cases h⟩
  · have hd1 : decide ((j : Int) ≤ (i : Int)) = true := by simp; omega
    have hd2 : decide (j ≤ i) = true := by simp; omega
    have hS : behindS g word op i j = [] := by unfold behindS; rw [if_pos (.inl (by omega))]
    have HR := Lib.hid hS
    clear hS
    go_enter Tryz.func158, Tryz.ntmps158
    go_wp2
    refine wp_region_later (by kernel_rfl) (by kernel_rfl) ?_
    repeat (go_big_quiet_step (fail))
    refine wpQuiet_nil ?_
    rintro _ ⟨x, rfl⟩
    have HB := Lib.hid x.below
    go_wp2
    go_ret
    exact ⟨_, rfl, by rw [HR.out]; exact opn_none, HB.out, fun c h => by cases h⟩
end Go.Proofs.YthmnffgjckpkiaaGreatDoor
namespace Go.Proofs.YthmnffgjckpkiaaGreatDoor
open Go Go.RowKit Go.Shelf

set_option maxRecDepth 100000 in
set_option maxHeartbeats 4000000 in
theorem art_calls {m gb : Nat} {g : Gr} {W0 : World} (hp : Pre m gb g W0) (W : World) (hs : Since m W0 W) (i j : Nat) (hij : i ≤ j) (hj : j ≤ g.toks.length) :
    Calls Tryz.prog 121 #[.pointer (some ⟨gb, 0, none⟩), .int .i64 i, .int .i64 j] W fun e W' =>
      (artS g i j = [] ∧ e = .returned (.slice none 0 0) ∧ Below W.heap.size W W') ∨
      (artS g i j = [⟨0, [], i + 1⟩] ∧ ∃ w1, Below W.heap.size W w1 ∧ W' = w1.alloc (.cells #[.int .i64 0, .string ⟨#[]⟩, .int .i64 ((i : Int) + 1)] 127) ∧ e = .returned (.slice (some ⟨w1.heap.size, 0, none⟩) 1 1)) := by
  have few := hp.few
  have hw1 : IntKind.i64.wrap ((i : Int) + 1) = (i : Int) + 1 := IntWalk.i64_in _ (by omega)
  obtain ⟨Wt, hT, hTm⟩ := hp.tabs
  obtain ⟨Wt', hTabs⟩ := Since.tabs hT hTm hs
  by_cases hlt : i + 1 < j
  · have hd1 : decide ((j : Int) ≤ (i : Int) + 1) = false := by simp; omega
    have hd2 : decide (j ≤ i + 1) = false := by simp; omega
    obtain ⟨tv, ht0, hts⟩ := hp.toks
    obtain ⟨ta, tc, rfl, ht1, ht2, ht3⟩ := hts.since hs
    obtain ⟨tb, off, rfl, htc⟩ := ht3.resolve_left (by intro h; rw [h] at hj; simp at hj; omega)
    have k0 := htc i (by omega)
    have k1 := htc (i + 1) (by omega)
    obtain ⟨tk, htk⟩ : ∃ tk, tk = g.toks[i]'(by omega) := ⟨_, rfl⟩
    obtain ⟨tn, htn⟩ : ∃ tn, tn = g.toks[i + 1]'(by omega) := ⟨_, rfl⟩
    rw [← htk] at k0
    rw [← htn] at k1
    have htk' : g.toks.getD i [] = tk := by rw [getD_at (by omega), htk]
    have htn' : g.toks.getD (i + 1) [] = tn := by rw [getD_at (by omega), htn]
    have c3 := hs.cell ht0
    have b3 := cell_lt c3
    simp only at b3
    obtain ⟨n, hn⟩ : ∃ n, n = g.toks.length := ⟨_, rfl⟩
    rw [← hn] at few c3 ht1
    have hin : i + 1 < n := by omega
    obtain ⟨ar, har⟩ : ∃ ar, ar = articleS tn := ⟨_, rfl⟩
    have HArt := Lib.hid (fun (x : Later W) => show Calls Tryz.prog 132 #[.string ⟨tn.toArray⟩] x.w (fun e w' => e = .returned (.string ⟨ar.toArray⟩) ∧ x.w = w') from by
      have h := Article_any Wt' x.w (hTabs.next x.below) ⟨tn.toArray⟩
      rw [show articleS (⟨tn.toArray⟩ : ByteArray).data.toList = ar by rw [har]] at h
      exact h)
    have HTk := Lib.hid htk'
    have HTn := Lib.hid htn'
    have HAr := Lib.hid har
    clear htk' htk htn htn' htc ht3 hts ht0 hp hs hn hT hTm hTabs har
    by_cases hq : tk = ar
    · have hq1 : ((⟨tk.toArray⟩ : ByteArray).toList == (⟨ar.toArray⟩ : ByteArray).toList) = true := by rw [hq]; simp
      have hq2 : (tk == ar) = true := by simpa using hq
      have hS : artS g i j = [⟨0, [], i + 1⟩] := by unfold artS; rw [if_neg (by rw [HTk.out, HTn.out, ← HAr.out]; simp [hq]; omega)]
      have HR := Lib.hid hS
      clear hq hS
      go_enter Tryz.func121, Tryz.ntmps121
      go_wp2
      have f0 := fun x : Later W => x.get c3
      have f1 := fun x : Later W => x.get k0
      have f2 := fun x : Later W => x.get k1
      clear c3 k0 k1
      refine wp_region_later (by kernel_rfl) (by kernel_rfl) ?_
      repeat (go_big_quiet_step ((go_at_call 132; exact later_same (HArt.out _))))
      refine wpQuiet_nil ?_
      rintro _ ⟨x, rfl⟩
      clear f0 f1 f2
      have HB := Lib.hid x.below
      go_wp2
      go_ret
      exact .inr ⟨HR.out, x.w, HB.out, rfl, rfl⟩
    · have hq1 : ((⟨tk.toArray⟩ : ByteArray).toList == (⟨ar.toArray⟩ : ByteArray).toList) = false := by simpa [ByteArray.toList_eq] using hq
      have hq2 : (tk == ar) = false := by simpa using hq
      have hS : artS g i j = [] := by unfold artS; rw [if_pos (.inr (by rw [HTk.out, HTn.out, ← HAr.out]; exact hq))]
      have HR := Lib.hid hS
      clear hq hS
      go_enter Tryz.func121, Tryz.ntmps121
      go_wp2
      have f0 := fun x : Later W => x.get c3
      have f1 := fun x : Later W => x.get k0
      have f2 := fun x : Later W => x.get k1
      clear c3 k0 k1
      refine wp_region_later (by kernel_rfl) (by kernel_rfl) ?_
      repeat (go_big_quiet_step ((go_at_call 132; exact later_same (HArt.out _))))
      refine wpQuiet_nil ?_
      rintro _ ⟨x, rfl⟩
      clear f0 f1 f2
      have HB := Lib.hid x.below
      go_wp2
      go_ret
      exact .inl ⟨HR.out, rfl, HB.out⟩
  · have hd1 : decide ((j : Int) ≤ (i : Int) + 1) = true := by simp; omega
    have hd2 : decide (j ≤ i + 1) = true := by simp; omega
    have hS : artS g i j = [] := by unfold artS; rw [if_pos (.inl (by omega))]
    have HR := Lib.hid hS
    clear hS
    go_enter Tryz.func121, Tryz.ntmps121
    go_wp2
    refine wp_region_later (by kernel_rfl) (by kernel_rfl) ?_
    repeat (go_big_quiet_step (fail))
    refine wpQuiet_nil ?_
    rintro _ ⟨x, rfl⟩
    have HB := Lib.hid x.below
    go_wp2
    go_ret
    exact .inl ⟨HR.out, rfl, HB.out⟩
theorem article_ok {m gb : Nat} {g : Gr} {W0 : World} (hp : Pre m gb g W0) : OpenOk m W0 g.toks.length (.func (.func 121) #[.pointer (some ⟨gb, 0, none⟩)] #[]) (artS g) := by
  refine ⟨_, _, _, rfl, enters_of Tryz.func121 (by kernel_rfl) rfl, fun W hs i j hij hj => ?_⟩
  refine (art_calls hp W hs i j hij hj).mono ?_
  rintro e W' (⟨h, rfl, hb⟩ | ⟨h, w1, hb, rfl, rfl⟩)
  · exact ⟨_, rfl, by rw [h]; exact opn_none, hb, fun c h => by cases h⟩
  · refine ⟨_, rfl, ?_, hb.alloc hb.size _, fun c h => by cases h; exact hb.size⟩
    rw [h]
    exact opn_one (w := w1) ⟨0, [], i + 1⟩ _

set_option maxRecDepth 100000 in
set_option maxHeartbeats 4000000 in
theorem determiner_ok {m gb : Nat} {g : Gr} {W0 : World} (hp : Pre m gb g W0) : OpenOk m W0 g.toks.length (.func (.func 118) #[.pointer (some ⟨gb, 0, none⟩)] #[]) (detS g) := by
  refine ⟨_, _, _, rfl, enters_of Tryz.func118 (by kernel_rfl) rfl, fun W hs i j hij hj => ?_⟩
  show Calls _ _ #[.pointer (some ⟨gb, 0, none⟩), .int .i64 i, .int .i64 j] W _
  have few := hp.few
  have hw1 : IntKind.i64.wrap ((i : Int) + 1) = (i : Int) + 1 := IntWalk.i64_in _ (by omega)
  by_cases hlt : i < j
  · have hd1 : decide ((j : Int) ≤ (i : Int)) = false := by simp; omega
    have hd2 : decide (j ≤ i) = false := by simp; omega
    obtain ⟨tv, ht0, hts⟩ := hp.toks
    obtain ⟨ta, tc, rfl, ht1, ht2, ht3⟩ := hts.since hs
    obtain ⟨tb, off, rfl, htc⟩ := ht3.resolve_left (by intro h; rw [h] at hj; simp at hj; omega)
    have k0 := htc i (by omega)
    obtain ⟨tk, htk⟩ : ∃ tk, tk = g.toks[i]'(by omega) := ⟨_, rfl⟩
    rw [← htk] at k0
    have htk' : g.toks.getD i [] = tk := by rw [getD_at (by omega), htk]
    have c3 := hs.cell ht0
    have b3 := cell_lt c3
    simp only at b3
    obtain ⟨n, hn⟩ : ∃ n, n = g.toks.length := ⟨_, rfl⟩
    have HArt := Lib.hid (art_calls hp W hs i j hij hj)
    rw [← hn] at few c3 ht1
    have hin : i < n := by omega
    have HTk := Lib.hid htk'
    clear htk' htk htc ht3 hts ht0 hp hs hn
    by_cases hq : tk ∈ [wEvery, wEach, wSome, wNo]
    · have hS : detS g i j = [⟨0, tk, i + 1⟩] := by unfold detS; rw [if_neg (by omega), HTk.out, if_pos hq]
      have HR := Lib.hid hS
      clear hS HTk HArt
      simp only [List.mem_cons, List.not_mem_nil, or_false] at hq
      rcases hq with rfl | rfl | rfl | rfl
      all_goals
        first | unfold wEvery at * | unfold wEach at * | unfold wSome at * | unfold wNo at *
        go_enter Tryz.func118, Tryz.ntmps118
        go_wp2
        go_ret
        refine ⟨_, rfl, ?_, (Below.refl _ _).alloc (Nat.le_refl _) _, fun c h => by cases h; exact Nat.le_refl _⟩
        rw [HR.out]
        exact opn_one (w := W) ⟨0, _, i + 1⟩ _
    · have hS : detS g i j = (artS g i j).map fun o => { o with word := wA } := by unfold detS; rw [if_neg (by omega), HTk.out, if_neg hq]
      have HR := Lib.hid hS
      have q1 : (tk == [101, 118, 101, 114, 121]) = false := by simp; intro h; exact hq (by simp [h, wEvery])
      have q2 : (tk == [101, 97, 99, 104]) = false := by simp; intro h; exact hq (by simp [h, wEach])
      have q3 : (tk == [115, 111, 109, 101]) = false := by simp; intro h; exact hq (by simp [h, wSome])
      have q4 : (tk == [110, 111]) = false := by simp; intro h; exact hq (by simp [h, wNo])
      clear hS hq
      go_enter Tryz.func118, Tryz.ntmps118
      go_wp2_with fail
      refine HArt.out.mono ?_
      rintro e W' (⟨h, rfl, hb⟩ | ⟨h, w1, hb, rfl, rfl⟩)
      · have HB := Lib.hid hb
        have HR2 := Lib.hid (show detS g i j = [] by rw [HR.out, h]; rfl)
        clear hb h
        go_wp2
        go_loopw [37] (fun q wr => q = .int .i64 0 ∧ Below W.heap.size W wr) (fun _ _ => 0)
        case atStart => exact ⟨rfl, HB.out⟩
        case round =>
          obtain ⟨rfl, hbr⟩ := hrel
          go_wp2
          go_ret
          exact ⟨_, rfl, by rw [HR2.out]; exact opn_none, hbr, fun c h => by cases h⟩
      · have HB := Lib.hid hb
        have HR2 := Lib.hid (show detS g i j = [⟨0, wA, i + 1⟩] by rw [HR.out, h]; rfl)
        clear hb h
        go_wp2
        go_loopw [37] (fun q wr => (q = .int .i64 0 ∧ wr = w1.alloc (.cells #[.int .i64 0, .string ⟨#[]⟩, .int .i64 ((i : Int) + 1)] 127)) ∨ (q = .int .i64 1 ∧ OpnSlice wr (.slice (some ⟨w1.heap.size, 0, none⟩) 1 1) [⟨0, wA, i + 1⟩] ∧ Below W.heap.size W wr)) (fun q _ => 1 - (intOf q).toNat)
        case atStart => exact .inl ⟨rfl, rfl⟩
        case round =>
          rcases hrel with ⟨rfl, rfl⟩ | ⟨rfl, hos, hbr⟩
          · go_wp2
            go_roundw
            case rel => exact .inr ⟨rfl, opn_one (w := w1) ⟨0, wA, i + 1⟩ _, HB.out.alloc HB.out.size _⟩
            case measure => simp [intOf]
          · have HOs := Lib.hid hos
            clear hos
            go_wp2
            go_ret
            exact ⟨_, rfl, by rw [HR2.out]; exact HOs.out, hbr, fun c h => by cases h; exact HB.out.size⟩
  · have hd1 : decide ((j : Int) ≤ (i : Int)) = true := by simp; omega
    have hd2 : decide (j ≤ i) = true := by simp; omega
    have hS : detS g i j = [] := by unfold detS; rw [if_pos (by omega)]
    have HR := Lib.hid hS
    clear hS
    go_enter Tryz.func118, Tryz.ntmps118
    go_wp2
    go_ret
    exact ⟨_, rfl, by rw [HR.out]; exact opn_none, Below.refl _ _, fun c h => by cases h⟩

theorem cell_box {w : World} {b : Nat} {T : TypeId} {v : Value} (h : w.heap[b]? = some (.cells #[v] T (0, 0))) : w.cell? ⟨b, 0, none⟩ = some v := by simp [World.cell?, h]
theorem heap_at2 {w : World} {o : Obj} {k : Nat} (h : k = w.heap.size) : (w.alloc o).heap[k]? = some o := by rw [h]; exact World.alloc_heap_new w o
/-- What 'entry' makes. -/
theorem entry_make (w : World) (gb : Nat) (cat : Int) (third : Bool) :
    Calls Tryz.prog 117 #[.pointer (some ⟨gb, 0, none⟩), .int .u8 cat, .bool third] w fun e w' =>
      e = .returned (.func (.func 157) #[] #[.pointer (some ⟨w.heap.size, 0, none⟩), .pointer (some ⟨w.heap.size + 1 + 1, 0, none⟩), .pointer (some ⟨w.heap.size + 1, 0, none⟩)]) ∧ Below w.heap.size w w' ∧
      w'.heap.size = w.heap.size + 3 ∧ w'.cell? ⟨w.heap.size, 0, none⟩ = some (.pointer (some ⟨gb, 0, none⟩)) ∧ w'.cell? ⟨w.heap.size + 1 + 1, 0, none⟩ = some (.bool third) ∧ w'.cell? ⟨w.heap.size + 1, 0, none⟩ = some (.int .u8 cat) := by
  go_enter Tryz.func117, Tryz.ntmps117
  go_wp2
  go_ret
  refine ⟨rfl, ((((Below.refl _ _).alloc (Nat.le_refl _) _).alloc (by simp) _).alloc (by simp; omega) _), by simp, ?_, ?_, ?_⟩
  all_goals
    apply cell_box
    repeat rw [Below.heap_alloc _ _ _ (by first | (simp; done) | (simp; omega))]
    exact heap_at2 (by simp)
/-- A row of openings whose cells may be written. -/
def OpnRow (w : World) (b n : Nat) (u : Nat → Opn) : Prop := ∃ cs T, w.heap[b]? = some (.cells cs T (0, 0)) ∧ ∀ j, j < n → cs.toList[j * 3]? = some (.int .i64 (u j).entry) ∧ cs.toList[j * 3 + 1]? = some (strVal (u j).word) ∧ cs.toList[j * 3 + 2]? = some (.int .i64 (u j).at)
theorem OpnRow.congr {w : World} {b n : Nat} {u u' : Nat → Opn} (h : OpnRow w b n u) (e : ∀ j, j < n → u j = u' j) : OpnRow w b n u' := by
  obtain ⟨cs, T, h1, h2⟩ := h
  exact ⟨cs, T, h1, fun j hj => by rw [← e j hj]; exact h2 j hj⟩
theorem OpnRow.set {w : World} {b n : Nat} {u : Nat → Opn} (h : OpnRow w b n u) (q : Nat) (hq : q < n) (wd : List UInt8) (p : Nat) :
    OpnRow ((w.setCell ⟨b, q * 3 + 1, none⟩ (strVal wd)).setCell ⟨b, q * 3 + 2, none⟩ (.int .i64 p)) b n (fun j => if j = q then ⟨(u q).entry, wd, p⟩ else u j) := by
  obtain ⟨cs, T, h1, h2⟩ := h
  refine ⟨_, T, heap_setCell_same _ _ _ _ _ _ (heap_setCell_same _ _ _ _ _ _ h1), fun j hj => ?_⟩
  obtain ⟨a0, a1, a2⟩ := h2 j hj
  have l1 := (List.getElem?_eq_some_iff.1 a1).1
  have l2 := (List.getElem?_eq_some_iff.1 a2).1
  by_cases e : j = q
  · subst e
    simp only [if_true, Array.toList_setIfInBounds, List.getElem?_set]
    refine ⟨?_, ?_, ?_⟩
    · rw [if_neg (by omega), if_neg (by omega)]; exact a0
    · rw [if_neg (by omega), if_pos (by simpa using l1)]
    · rw [if_pos (by simpa using l2)]
  · simp only [if_neg e, Array.toList_setIfInBounds, List.getElem?_set]
    refine ⟨?_, ?_, ?_⟩
    · rw [if_neg (by omega), if_neg (by omega)]; exact a0
    · rw [if_neg (by omega), if_neg (by omega)]; exact a1
    · rw [if_neg (by omega), if_neg (by omega)]; exact a2
theorem OpnRow.cells {w : World} {b n : Nat} {u : Nat → Opn} (h : OpnRow w b n u) (j : Nat) (hj : j < n) : w.cell? ⟨b, j * 3, none⟩ = some (.int .i64 (u j).entry) ∧ w.cell? ⟨b, j * 3 + 1, none⟩ = some (strVal (u j).word) ∧ w.cell? ⟨b, j * 3 + 2, none⟩ = some (.int .i64 (u j).at) := by
  obtain ⟨cs, T, h1, h2⟩ := h
  obtain ⟨a0, a1, a2⟩ := h2 j hj
  exact ⟨by rw [cell_of_row _ _ _ _ _ _ h1]; simpa using a0, by rw [cell_of_row _ _ _ _ _ _ h1]; simpa using a1, by rw [cell_of_row _ _ _ _ _ _ h1]; simpa using a2⟩
theorem OpnRow.slice {w : World} {b n c : Nat} {u : Nat → Opn} (h : OpnRow w b n u) (os : List Opn) (hn : os.length = n) (hl : n ≤ 1000) (e : ∀ j (hj : j < os.length), os[j] = u j) : OpnSlice w (.slice (some ⟨b, 0, none⟩) n c) os := by
  subst hn
  exact ⟨_, _, rfl, hl, .inr ⟨b, rfl, fun j hj => by rw [e j hj]; exact h.cells j hj⟩⟩
theorem opnRow_of_owns {w : World} {base : Nat} {v : Value} {os : List Opn} {t : TypeId} (h : w.ownsRow base t 3 v os.length (os.flatMap opnCells)) :
    (v = .slice none 0 0 ∧ os = []) ∨ ∃ b c, v = .slice (some ⟨b, 0, none⟩) os.length c ∧ base ≤ b ∧ OpnRow w b os.length (fun j => os.getD j ⟨0, [], 0⟩) := by
  rcases h.2 with ⟨rfl, h0⟩ | ⟨g, cap, cur, rfl, hbg, hg, hnc, hcm, hcs, htake⟩
  · exact .inl ⟨rfl, List.eq_nil_of_length_eq_zero h0⟩
  · refine .inr ⟨g, cap, rfl, hbg, cur, _, hg, fun j hj => ?_⟩
    obtain ⟨a0, a1, a2⟩ := opn_flat3 os j hj
    have hD : os.getD j ⟨0, [], 0⟩ = os[j] := by rw [List.getD_eq_getElem?_getD, List.getElem?_eq_getElem hj, Option.getD_some]
    rw [← htake] at a0 a1 a2
    simp only [List.getElem?_take] at a0 a1 a2
    rw [if_pos (by omega)] at a0 a1 a2
    simp only [hD]
    exact ⟨a0, a1, a2⟩
theorem OpnRow.frozen {w : World} {b n : Nat} {u : Nat → Opn} (h : OpnRow w b n u) (k : Nat) : w.frozen? ⟨b, k, none⟩ = false := by
  obtain ⟨cs, T, h1, _⟩ := h
  simp [World.frozen?, h1]
def relOf (tk : List UInt8) (f : Nat) (o : Opn) : Opn := ⟨o.entry, tk, f + 2⟩

set_option maxRecDepth 100000 in
set_option maxHeartbeats 8000000 in
theorem relative_ok {m gb : Nat} {g : Gr} {W0 : World} (hp : Pre m gb g W0) : OpenOk m W0 g.toks.length (.func (.func 119) #[.pointer (some ⟨gb, 0, none⟩)] #[]) (relS g) := by
  refine ⟨_, _, _, rfl, enters_of Tryz.func119 (by kernel_rfl) rfl, fun W hs i j hij hj => ?_⟩
  show Calls _ _ #[.pointer (some ⟨gb, 0, none⟩), .int .i64 i, .int .i64 j] W _
  have few := hp.few
  have hw1 : IntKind.i64.wrap ((i : Int) + 1) = (i : Int) + 1 := IntWalk.i64_in _ (by omega)
  have hw2 : IntKind.i64.wrap ((i : Int) + 2) = (i : Int) + 2 := IntWalk.i64_in _ (by omega)
  by_cases hlt : i + 1 < j
  · have hd1 : decide ((j : Int) ≤ (i : Int) + 1) = false := by simp; omega
    have hd2 : decide (j ≤ i + 1) = false := by simp; omega
    obtain ⟨tv, ht0, hts⟩ := hp.toks
    obtain ⟨ta, tc, rfl, ht1, ht2, ht3⟩ := hts.since hs
    obtain ⟨tb, off, rfl, htc⟩ := ht3.resolve_left (by intro h; rw [h] at hj; simp at hj; omega)
    have k0 := htc (i + 1) (by omega)
    obtain ⟨tk, htk⟩ : ∃ tk, tk = g.toks[i + 1]'(by omega) := ⟨_, rfl⟩
    rw [← htk] at k0
    have htk' : g.toks.getD (i + 1) [] = tk := by rw [getD_at (by omega), htk]
    have c3 := hs.cell ht0
    have b3 := cell_lt c3
    simp only at b3
    obtain ⟨n, hn⟩ : ∃ n, n = g.toks.length := ⟨_, rfl⟩
    have HCall := Lib.hid (fun (w1 : World) (hs1 : Since m W0 w1) xb qb cb x0 x1 x2 => entry_calls hp w1 hs1 xb qb cb 1 false x0 x1 x2 i j hij hj)
    rw [← hn] at few c3 ht1
    have hin : i + 1 < n := by omega
    have HTk := Lib.hid htk'
    have HS := Lib.hid hs
    clear htk' htk htc ht3 hts ht0 hp hs hn
    by_cases hq : tk = wWho ∨ tk = wThat
    · have hS : relS g i j = (entryS g 1 false i j).map (relOf tk i) := by
        unfold relS; rw [if_neg (by omega), HTk.out, if_neg (by rintro ⟨h1, h2⟩; rcases hq with h | h <;> contradiction)]; rfl
      have HR := Lib.hid hS
      have tests : ((tk == [119, 104, 111]) = true ∧ (tk != [119, 104, 111]) = false) ∨ ((tk == [119, 104, 111]) = false ∧ (tk != [119, 104, 111]) = true ∧ (tk == [116, 104, 97, 116]) = true ∧ (tk != [116, 104, 97, 116]) = false) := by
        rcases hq with rfl | rfl <;> simp [wWho, wThat]
      clear hS hq HTk
      rcases tests with ⟨q1, q2⟩ | ⟨q1, q2, q3, q4⟩
      all_goals
        go_enter Tryz.func119, Tryz.ntmps119
        go_wp2_with fail
        refine (entry_make W gb 1 false).mono ?_
        rintro _ w1 ⟨rfl, hb1, hz1, x0, x1, x2⟩
        have hcall := HCall.out w1 (HS.out.below hb1) _ _ _ x0 x1 x2
        have HCall2 := Lib.hid hcall
        have HB1 := Lib.hid hb1
        clear hcall hb1 hz1 x0 x1 x2
        go_wp2_with fail
        refine HCall2.out.mono ?_
        rintro _ w2 ⟨v, rfl, hlen, hown, hb2⟩
        have HB2 := Lib.hid (HB1.out.trans (hb2.mono HB1.out.size))
        have hr := opnRow_of_owns hown
        obtain ⟨os, hos⟩ : ∃ os, os = entryS g 1 false i j := ⟨_, rfl⟩
        rw [← hos] at hr hlen
        have HOs := Lib.hid hos
        clear hown hb2 hos
        rcases hr with ⟨rfl, hnil⟩ | ⟨b, c, rfl, hbb, hrow⟩
        · have HNil := Lib.hid (show relS g i j = [] by rw [HR.out, ← HOs.out, hnil]; rfl)
          clear hnil
          go_wp2
          go_loopw [35] (fun q wr => q = .int .i64 0 ∧ Below W.heap.size W wr) (fun _ _ => 0)
          case atStart => exact ⟨rfl, HB2.out⟩
          case round =>
            obtain ⟨rfl, hbr⟩ := hrel
            go_wp2
            go_ret
            exact ⟨_, rfl, by rw [HNil.out]; exact opn_none, hbr, fun c h => by cases h⟩
        · have hWb : W.heap.size ≤ b := Nat.le_trans HB1.out.size hbb
          have HRow := Lib.hid hrow
          clear hrow
          go_wp2
          go_loopw [35] (fun q wr => ∃ k : Nat, k ≤ os.length ∧ q = .int .i64 k ∧ OpnRow wr b os.length (fun j => if j < k then relOf tk i (os.getD j ⟨0, [], 0⟩) else os.getD j ⟨0, [], 0⟩) ∧ Below W.heap.size W wr) (fun q _ => os.length - (intOf q).toNat)
          case atStart => exact ⟨0, Nat.zero_le _, rfl, HRow.out.congr (fun j _ => by simp), HB2.out⟩
          case round =>
            obtain ⟨k, hk, rfl, hr, hbr⟩ := hrel
            by_cases hkl : k < os.length
            · obtain ⟨y0, y1, y2⟩ := hr.cells k hkl
              have hf1 := hr.frozen (k * 3 + 1)
              have hf2 := hr.frozen (k * 3 + 2)
              simp only [Nat.lt_irrefl, if_false] at y0 y1 y2
              obtain ⟨ok, hok⟩ : ∃ ok, ok = os.getD k ⟨0, [], 0⟩ := ⟨_, rfl⟩
              rw [← hok] at y0 y1 y2
              have HOk := Lib.hid hok
              have HR1 := Lib.hid hr
              clear hr hok
              go_wp2
              go_roundw
              case rel =>
                refine ⟨k + 1, by omega, by go_num, ?_, (hbr.setCell (p := ⟨b, k * 3 + 1, none⟩) hWb _).setCell (p := ⟨b, k * 3 + 2, none⟩) hWb _⟩
                refine (HR1.out.set k hkl tk (i + 2)).congr (fun j _ => ?_)
                by_cases e : j = k
                · subst e
                  simp [relOf]
                · by_cases e2 : j < k
                  · simp [e, e2, show j < k + 1 by omega]
                  · simp [e, e2, show ¬ j < k + 1 by omega]
              case measure => simp [intOf]; omega
            · obtain rfl : k = os.length := by omega
              have HR1 := Lib.hid hr
              clear hr
              go_wp2
              go_ret
              refine ⟨_, rfl, HR1.out.slice _ (by rw [HR.out, List.length_map, ← HOs.out]) (by omega) (fun j hj => ?_), hbr, fun c h => by cases h; exact hWb⟩
              have hj' : j < os.length := by rw [HR.out, List.length_map, ← HOs.out] at hj; exact hj
              simp only [HR.out, List.getElem_map, hj', if_true]
              congr 1
              rw [List.getD_eq_getElem?_getD, List.getElem?_eq_getElem hj', Option.getD_some]
              simp only [HOs.out]
    · have hS : relS g i j = [] := by unfold relS; rw [if_neg (by omega), HTk.out, if_pos ⟨fun h => hq (.inl h), fun h => hq (.inr h)⟩]
      have HR := Lib.hid hS
      have q1 : (tk == [119, 104, 111]) = false := by simp; intro h; exact hq (.inl h)
      have q2 : (tk != [119, 104, 111]) = true := by simp; intro h; exact hq (.inl h)
      have q3 : (tk == [116, 104, 97, 116]) = false := by simp; intro h; exact hq (.inr h)
      have q4 : (tk != [116, 104, 97, 116]) = true := by simp; intro h; exact hq (.inr h)
      clear hS hq HTk
      go_enter Tryz.func119, Tryz.ntmps119
      go_wp2
      go_ret
      exact ⟨_, rfl, by rw [HR.out]; exact opn_none, Below.refl _ _, fun c h => by cases h⟩
  · have hd1 : decide ((j : Int) ≤ (i : Int) + 1) = true := by simp; omega
    have hd2 : decide (j ≤ i + 1) = true := by simp; omega
    have hS : relS g i j = [] := by unfold relS; rw [if_pos (by omega)]
    have HR := Lib.hid hS
    clear hS
    go_enter Tryz.func119, Tryz.ntmps119
    go_wp2
    go_ret
    exact ⟨_, rfl, by rw [HR.out]; exact opn_none, Below.refl _ _, fun c h => by cases h⟩
end Go.Proofs.YthmnffgjckpkiaaGreatDoor
namespace Go.Proofs.YthmnffgjckpkiaaGreatDoor
open Go Go.RowKit Go.Shelf

/-- All blocks but the map's and the grammar's are the same. -/
structure Besides (m gb : Nat) (W0 W : World) : Prop where
  size : W0.heap.size ≤ W.heap.size
  block : ∀ b, b < W0.heap.size → b ≠ m → b ≠ gb → W.heap[b]? = W0.heap[b]?
theorem Besides.cell {m gb : Nat} {W0 W : World} (h : Besides m gb W0 W) {a : Addr} {v : Value} (hc : W0.cell? a = some v) (h1 : a.block ≠ m) (h2 : a.block ≠ gb) : W.cell? a = some v :=
  (World.cell?_of_block (h.block a.block (cell_lt hc) h1 h2)).trans hc
theorem Besides.of_below {m gb : Nat} {w w' W : World} (hb : Below w.heap.size w w') (h : Besides m gb w' W) : Besides m gb w W :=
  ⟨Nat.le_trans hb.size h.size, fun b hlt h1 h2 => (h.block b (Nat.lt_of_lt_of_le hlt hb.size) h1 h2).trans (hb.block b hlt)⟩
/-- A function value that serves wherever the grammar stands and its boxes are the same. -/
def MakesOk (m gb : Nat) (g : Gr) (W0 : World) (fv : Value) (op : Nat → Nat → List Opn) : Prop := ∀ W, Besides m gb W0 W → Pre m gb g W → OpenOk m W g.toks.length fv op
theorem MakesOk.later {m gb : Nat} {g : Gr} {w w' : World} {fv : Value} {op : Nat → Nat → List Opn} (h : MakesOk m gb g w fv op) (hb : Below w.heap.size w w') : MakesOk m gb g w' fv op :=
  fun W hB hP => h W (Besides.of_below hb hB) hP
theorem StrSlice.besides {m gb : Nat} {W0 W : World} {a : Option Addr} {n c : Nat} {l : List (List UInt8)} (h : StrSlice W0 (.slice a n c) l) (hB : Besides m gb W0 W) (hne : ∀ x, a = some x → x.block ≠ m ∧ x.block ≠ gb) : StrSlice W (.slice a n c) l := by
  obtain ⟨a', cap, hv, h1, h2, h⟩ := h
  cases hv
  refine ⟨_, _, rfl, h1, h2, ?_⟩
  rcases h with h | ⟨b, off, ha, hc⟩
  · exact .inl h
  · exact .inr ⟨b, off, ha, fun j hj => hB.cell (hc j hj) (hne _ ha).1 (hne _ ha).2⟩
theorem Pre.gb_lt {m gb : Nat} {g : Gr} {w : World} (h : Pre m gb g w) : gb < w.heap.size := by
  obtain ⟨v, hv, _⟩ := h.lex
  exact cell_lt hv
theorem Pre.m_lt {m gb : Nat} {g : Gr} {w : World} (h : Pre m gb g w) : m < w.heap.size := by
  obtain ⟨es, c, hm⟩ := h.map
  exact (Array.getElem?_eq_some_iff.1 hm).1
theorem says_makes {m gb : Nat} {g : Gr} {w w' : World} (hp : Pre m gb g w) (list : List (List UInt8)) (h24 : list.length ≤ 24) (la : Option Addr) (ln lc xb lb : Nat) (hls : StrSlice w' (.slice la ln lc) list) (hne : ∀ x, la = some x → w.heap.size ≤ x.block)
    (hx : w.heap.size ≤ xb) (hl : w.heap.size ≤ lb) (c0 : w'.cell? ⟨xb, 0, none⟩ = some (.pointer (some ⟨gb, 0, none⟩))) (c1 : w'.cell? ⟨lb, 0, none⟩ = some (.slice la ln lc)) :
    MakesOk m gb g w' (.func (.func 155) #[] #[.pointer (some ⟨lb, 0, none⟩), .pointer (some ⟨xb, 0, none⟩)]) (saysS g list) := by
  intro W hB hP
  have h1 := hp.gb_lt
  have h2 := hp.m_lt
  exact says_ok hP lb xb list h24 _ (hB.cell c1 (by simp; omega) (by simp; omega)) (hls.besides hB (fun x hx => ⟨by have := hne x hx; omega, by have := hne x hx; omega⟩)) (hB.cell c0 (by simp; omega) (by simp; omega))
theorem entry_makes {m gb : Nat} {g : Gr} {w w' : World} (hp : Pre m gb g w) (xb qb cb : Nat) (cat : Int) (third : Bool) (hx : w.heap.size ≤ xb) (hq : w.heap.size ≤ qb) (hc : w.heap.size ≤ cb) (c0 : w'.cell? ⟨xb, 0, none⟩ = some (.pointer (some ⟨gb, 0, none⟩))) (c1 : w'.cell? ⟨qb, 0, none⟩ = some (.bool third)) (c2 : w'.cell? ⟨cb, 0, none⟩ = some (.int .u8 cat)) :
    MakesOk m gb g w' (.func (.func 157) #[] #[.pointer (some ⟨xb, 0, none⟩), .pointer (some ⟨qb, 0, none⟩), .pointer (some ⟨cb, 0, none⟩)]) (entryS g cat third) := by
  intro W hB hP
  have h1 := hp.gb_lt
  have h2 := hp.m_lt
  exact entry_ok hP xb qb cb cat third (hB.cell c0 (by simp; omega) (by simp; omega)) (hB.cell c1 (by simp; omega) (by simp; omega)) (hB.cell c2 (by simp; omega) (by simp; omega))
theorem behind_makes {m gb : Nat} {g : Gr} {w w' : World} (hp : Pre m gb g w) (xb wb ob : Nat) (word : List UInt8) (ov : Value) (op : Nat → Nat → List Opn) (hx : w.heap.size ≤ xb) (hw : w.heap.size ≤ wb) (ho : w.heap.size ≤ ob) (hop : MakesOk m gb g w' ov op) (c0 : w'.cell? ⟨xb, 0, none⟩ = some (.pointer (some ⟨gb, 0, none⟩))) (c1 : w'.cell? ⟨wb, 0, none⟩ = some (.string ⟨word.toArray⟩)) (c2 : w'.cell? ⟨ob, 0, none⟩ = some ov) :
    MakesOk m gb g w' (.func (.func 158) #[] #[.pointer (some ⟨xb, 0, none⟩), .pointer (some ⟨wb, 0, none⟩), .pointer (some ⟨ob, 0, none⟩)]) (behindS g word op) := by
  intro W hB hP
  have h1 := hp.gb_lt
  have h2 := hp.m_lt
  exact behind_ok hP xb wb ob word ov op (hop W hB hP) (hB.cell c0 (by simp; omega) (by simp; omega)) (hB.cell c1 (by simp; omega) (by simp; omega)) (hB.cell c2 (by simp; omega) (by simp; omega))
/-- The kinds of a row's parts stand wherever the blocks but the map's and the grammar's are the same. -/
def PartsMk (m gb : Nat) (W0 : World) (pv : Value) (ks : List Nat) : Prop := ∀ W, Besides m gb W0 W → PartsAt W pv ks
theorem PartsMk.later {m gb : Nat} {w w' : World} {pv : Value} {ks : List Nat} (h : PartsMk m gb w pv ks) (hb : Below w.heap.size w w') : PartsMk m gb w' pv ks :=
  fun W hB => h W (Besides.of_below hb hB)
theorem partsMk_0 (m gb : Nat) (w : World) : PartsMk m gb w (.slice none 0 0) [] := fun _ _ => ⟨_, _, rfl, .inl rfl⟩
theorem Besides.cells {m gb : Nat} {g : Gr} {w w' W : World} (hp : Pre m gb g w) {b : Nat} (hb : w.heap.size ≤ b) (hB : Besides m gb w' W) {o : Obj} (h : w'.heap[b]? = some o) : W.heap[b]? = some o := by
  have h1 := hp.gb_lt
  have h2 := hp.m_lt
  exact (hB.block b (Array.getElem?_eq_some_iff.1 h).1 (by omega) (by omega)).trans h
theorem partsMk_1 {m gb : Nat} {g : Gr} {w w' : World} (hp : Pre m gb g w) {b a : Nat} (hb : w.heap.size ≤ b) {T : TypeId} (h : w'.heap[b]? = some (.cells #[.int .u8 a] T (0, 0))) : PartsMk m gb w' (.slice (some ⟨b, 0, none⟩) 1 1) [a] := by
  intro W hB
  have h := hB.cells hp hb h
  refine ⟨_, _, rfl, .inr ⟨b, rfl, fun j hj => ?_⟩⟩
  obtain rfl : j = 0 := by simp at hj; omega
  simp [World.cell?, h]
theorem partsMk_2 {m gb : Nat} {g : Gr} {w w' : World} (hp : Pre m gb g w) {b a c : Nat} (hb : w.heap.size ≤ b) {T : TypeId} (h : w'.heap[b]? = some (.cells #[.int .u8 a, .int .u8 c] T (0, 0))) : PartsMk m gb w' (.slice (some ⟨b, 0, none⟩) 2 2) [a, c] := by
  intro W hB
  have h := hB.cells hp hb h
  refine ⟨_, _, rfl, .inr ⟨b, rfl, fun j hj => ?_⟩⟩
  rcases j with _ | _ | j
  · simp [World.cell?, h]
  · simp [World.cell?, h]
  · simp at hj; omega
end Go.Proofs.YthmnffgjckpkiaaGreatDoor
namespace Go.Proofs.YthmnffgjckpkiaaGreatDoor
open Go Go.RowKit Go.Shelf

theorem Since.of_below {m : Nat} {w w' : World} (hm : ∃ es c, w.heap[m]? = some (.map es c)) (hb : Below w.heap.size w w') : Since m w w' := (Since.refl hm).below hb
theorem Pre.below {m gb : Nat} {g : Gr} {w w' : World} (h : Pre m gb g w) (hb : Below w.heap.size w w') : Pre m gb g w' := by
  refine h.since (Since.of_below h.map hb) ?_
  obtain ⟨es, c, hm⟩ := h.map
  exact ⟨es, c, (hb.block m (Array.getElem?_eq_some_iff.1 hm).1).trans hm⟩

theorem says_step {m gb : Nat} {g : Gr} {w0 w : World} (hp : Pre m gb g w0) (hb : Below w0.heap.size w0 w) (list : List (List UInt8)) (h24 : list.length ≤ 24) (la : Option Addr) (ln lc : Nat) (hls : StrSlice w (.slice la ln lc) list) (hne : ∀ x, la = some x → w0.heap.size ≤ x.block) :
    Calls Tryz.prog 116 #[.pointer (some ⟨gb, 0, none⟩), .slice la ln lc] w fun e w' =>
      ∃ caps, e = .returned (.func (.func 155) #[] caps) ∧ Below w.heap.size w w' ∧ Pre m gb g w' ∧ MakesOk m gb g w' (.func (.func 155) #[] caps) (saysS g list) := by
  have HP0 := Lib.hid hp
  have HP := Lib.hid (hp.below hb)
  have HL := Lib.hid hls
  have HNe := Lib.hid hne
  have HSz := Lib.hid hb.size
  clear hp hb hls hne
  go_enter Tryz.func116, Tryz.ntmps116
  go_wp2
  go_ret
  obtain ⟨w', hw'⟩ : ∃ w', w' = (w.alloc (.cells #[.pointer (some ⟨gb, 0, none⟩)] 77)).alloc (.cells #[.slice la ln lc] 41) := ⟨_, rfl⟩
  have hbw : Below w.heap.size w w' := by rw [hw']; exact ((Below.refl _ _).alloc (Nat.le_refl _) _).alloc (by simp) _
  have c0 : w'.cell? ⟨w.heap.size, 0, none⟩ = some (.pointer (some ⟨gb, 0, none⟩)) := by
    apply cell_box
    rw [hw', Below.heap_alloc _ _ _ (by simp)]
    exact heap_at2 rfl
  have c1 : w'.cell? ⟨w.heap.size + 1, 0, none⟩ = some (.slice la ln lc) := by
    apply cell_box
    rw [hw']
    exact heap_at2 (by simp)
  have hP := HP.out.below hbw
  have hL := HL.out.since (Since.of_below HP.out.map hbw)
  rw [← hw']
  have hsz := HSz.out
  exact ⟨_, rfl, hbw, hP, says_makes HP0.out list h24 la ln lc _ _ hL HNe.out hsz (by omega) c0 c1⟩
theorem entry_step {m gb : Nat} {g : Gr} {w0 w : World} (hp : Pre m gb g w0) (hb : Below w0.heap.size w0 w) (cat : Int) (third : Bool) :
    Calls Tryz.prog 117 #[.pointer (some ⟨gb, 0, none⟩), .int .u8 cat, .bool third] w fun e w' =>
      ∃ caps, e = .returned (.func (.func 157) #[] caps) ∧ Below w.heap.size w w' ∧ Pre m gb g w' ∧ MakesOk m gb g w' (.func (.func 157) #[] caps) (entryS g cat third) := by
  refine (entry_make w gb cat third).mono ?_
  rintro _ w' ⟨rfl, hbw, _, x0, x1, x2⟩
  have hP := (hp.below hb).below hbw
  have hsz := hb.size
  exact ⟨_, rfl, hbw, hP, entry_makes hp _ _ _ cat third (by omega) (by omega) (by omega) x0 x1 x2⟩
theorem behind_step {m gb : Nat} {g : Gr} {w0 w : World} (hp : Pre m gb g w0) (hb : Below w0.heap.size w0 w) (word : List UInt8) (bs : Array UInt8) (hbs : bs = word.toArray) (fo : Nat) (bd caps : Array Value) (op : Nat → Nat → List Opn) (hop : MakesOk m gb g w0 (.func (.func fo) bd caps) op) :
    Calls Tryz.prog 120 #[.pointer (some ⟨gb, 0, none⟩), .string ⟨bs⟩, .func (.func fo) bd caps] w fun e w' =>
      ∃ caps, e = .returned (.func (.func 158) #[] caps) ∧ Below w.heap.size w w' ∧ Pre m gb g w' ∧ MakesOk m gb g w' (.func (.func 158) #[] caps) (behindS g word op) := by
  subst hbs
  have HP0 := Lib.hid hp
  have HP := Lib.hid (hp.below hb)
  have HO := Lib.hid (hop.later hb)
  have HSz := Lib.hid hb.size
  clear hp hb hop
  go_enter Tryz.func120, Tryz.ntmps120
  go_wp2
  go_ret
  obtain ⟨w', hw'⟩ : ∃ w', w' = ((w.alloc (.cells #[.pointer (some ⟨gb, 0, none⟩)] 77)).alloc (.cells #[.string ⟨word.toArray⟩] 9)).alloc (.cells #[.func (.func fo) bd caps] 122) := ⟨_, rfl⟩
  have hbw : Below w.heap.size w w' := by rw [hw']; exact (((Below.refl _ _).alloc (Nat.le_refl _) _).alloc (by simp) _).alloc (by simp; omega) _
  have c0 : w'.cell? ⟨w.heap.size, 0, none⟩ = some (.pointer (some ⟨gb, 0, none⟩)) := by
    apply cell_box
    rw [hw', Below.heap_alloc _ _ _ (by simp; omega), Below.heap_alloc _ _ _ (by simp)]
    exact heap_at2 rfl
  have c1 : w'.cell? ⟨w.heap.size + 1, 0, none⟩ = some (.string ⟨word.toArray⟩) := by
    apply cell_box
    rw [hw', Below.heap_alloc _ _ _ (by simp)]
    exact heap_at2 (by simp)
  have c2 : w'.cell? ⟨w.heap.size + 1 + 1, 0, none⟩ = some (.func (.func fo) bd caps) := by
    apply cell_box
    rw [hw']
    exact heap_at2 (by simp)
  have hP := HP.out.below hbw
  have hO := HO.out.later hbw
  have hsz := HSz.out
  rw [← hw']
  exact ⟨_, rfl, hbw, hP, behind_makes HP0.out _ _ _ word _ op (by omega) (by omega) (by omega) hO c0 c1 c2⟩

theorem parts_0 (w : World) : PartsAt w (.slice none 0 0) [] := ⟨_, _, rfl, .inl rfl⟩
theorem parts_1 {w : World} {b a : Nat} {T : TypeId} (h : w.heap[b]? = some (.cells #[.int .u8 a] T (0, 0))) : PartsAt w (.slice (some ⟨b, 0, none⟩) 1 1) [a] := by
  refine ⟨_, _, rfl, .inr ⟨b, rfl, fun j hj => ?_⟩⟩
  obtain rfl : j = 0 := by simp at hj; omega
  simp [World.cell?, h]
theorem parts_2 {w : World} {b a c : Nat} {T : TypeId} (h : w.heap[b]? = some (.cells #[.int .u8 a, .int .u8 c] T (0, 0))) : PartsAt w (.slice (some ⟨b, 0, none⟩) 2 2) [a, c] := by
  refine ⟨_, _, rfl, .inr ⟨b, rfl, fun j hj => ?_⟩⟩
  rcases j with _ | _ | j
  · simp [World.cell?, h]
  · simp [World.cell?, h]
  · simp at hj; omega
theorem list_1 {w : World} {b : Nat} {a : List UInt8} {T : TypeId} (h : w.heap[b]? = some (.cells #[.string ⟨a.toArray⟩] T (0, 0))) : StrSlice w (.slice (some ⟨b, 0, none⟩) 1 1) [a] := by
  refine ⟨_, _, rfl, by simp, by unfold maxLen; omega, .inr ⟨b, 0, rfl, fun j hj => ?_⟩⟩
  obtain rfl : j = 0 := by simp at hj; omega
  simp [World.cell?, h]
theorem list_2 {w : World} {b : Nat} {a c : List UInt8} {T : TypeId} (h : w.heap[b]? = some (.cells #[.string ⟨a.toArray⟩, .string ⟨c.toArray⟩] T (0, 0))) : StrSlice w (.slice (some ⟨b, 0, none⟩) 2 2) [a, c] := by
  refine ⟨_, _, rfl, by simp, by unfold maxLen; omega, .inr ⟨b, 0, rfl, fun j hj => ?_⟩⟩
  rcases j with _ | _ | j
  · simp [World.cell?, h]
  · simp [World.cell?, h]
  · simp at hj; omega
theorem list_0 (w : World) : StrSlice w (.slice none 0 0) [] := ⟨_, _, rfl, by simp, by unfold maxLen; omega, .inl rfl⟩
end Go.Proofs.YthmnffgjckpkiaaGreatDoor
