/-
  The law 'EnglishNames' of chapter 34 returns true.
-/
import Derived.Test.YthmnffgjckpkiaaGreatDoorExch
import Derived.Test.YthmnffgjckpkiaaGreatDoorSame
namespace Go.Proofs.YthmnffgjckpkiaaGreatDoor
open Go Go.RowKit Go.Shelf
attribute [local go_sem] Oper.semAt_some

theorem row_set1 {w : World} {base g k n cap : Nat} {T : TypeId} {xs : List Value} (h : w.ownsRow base T 1 (.slice (some ⟨g, 0, none⟩) n cap) n xs) (u : Value) : (w.setCell ⟨g, k, none⟩ u).ownsRow base T 1 (.slice (some ⟨g, 0, none⟩) n cap) n (xs.set k u) := by
  rcases h.2 with ⟨h0, _⟩ | ⟨g', cap', cur, hv, hb, hg, h1, h2, h3, h4⟩
  · cases h0
  · cases hv
    refine ⟨by simpa using h.1, .inr ⟨g, cap, _, rfl, hb, heap_setCell_same _ _ k _ _ u hg, h1, h2, by simp [h3], ?_⟩⟩
    simp only [Array.toList_setIfInBounds]
    rw [List.take_set, h4]
theorem row_cell1 {w : World} {base g n cap : Nat} {T : TypeId} {xs : List Value} (h : w.ownsRow base T 1 (.slice (some ⟨g, 0, none⟩) n cap) n xs) {k : Nat} {u : Value} (hk : xs[k]? = some u) : w.cell? ⟨g, k, none⟩ = some u ∧ w.frozen? ⟨g, k, none⟩ = false := by
  have hadd : (⟨g, 0, none⟩ : Addr).add k = ⟨g, k, none⟩ := by unfold Addr.add; split <;> simp_all
  have := h.cells (g := g) rfl k u hk
  rw [hadd] at this
  refine ⟨this, ?_⟩
  rcases h.2 with ⟨h0, _⟩ | ⟨g', cap', cur, hv, hb, hg, _⟩
  · cases h0
  · cases hv
    simp [World.frozen?, hg]
/-- Some turned, the others as they were. -/
def mixS (l : List (List UInt8)) (k : Nat) : List (List UInt8) := (l.take k).map sw ++ l.drop k
theorem mix_len (l : List (List UInt8)) {k : Nat} : (mixS l k).length = l.length := by unfold mixS; simp; omega
theorem mix_get (l : List (List UInt8)) {k : Nat} (h : k < l.length) : (mixS l k)[k]? = some l[k] := by
  unfold mixS
  rw [List.getElem?_append_right (by simp; omega)]
  simp [List.getElem?_drop, Nat.min_eq_left (Nat.le_of_lt h), List.getElem?_eq_getElem h]
theorem mix_set (l : List (List UInt8)) {k : Nat} (h : k < l.length) : (mixS l k).set k (sw l[k]) = mixS l (k + 1) := by
  unfold mixS
  rw [List.set_append_right _ _ (by simp; omega)]
  simp only [List.length_map, List.length_take, Nat.min_eq_left (Nat.le_of_lt h), Nat.sub_self]
  rw [List.drop_eq_getElem_cons h, List.set_cons_zero, List.take_succ_eq_append_getElem h]
  simp only [List.map_append, List.map_cons, List.map_nil, List.append_assoc, List.cons_append, List.nil_append]
theorem mix_same (l : List (List UInt8)) {k : Nat} (h : k < l.length) (hs : sw l[k] = l[k]) : mixS l k = mixS l (k + 1) := by
  rw [← mix_set l h, hs]
  have h2 := mix_get l h
  exact (List.set_getElem_self (by rw [mix_len]; exact h)).symm.trans (by
    congr 1
    exact (List.getElem?_eq_some_iff.1 h2).2)

theorem mix_all (l : List (List UInt8)) {n : Nat} (h : n = l.length) : mixS l n = l.map sw := by unfold mixS; rw [h]; simp
theorem parses_mem {l : List Ent} {toks : List (List UInt8)} {x : Tr} (h : x ∈ (parsesS l toks).1) : x ∈ treesS ⟨l, bareS toks⟩ 1 0 (bareS toks).length := by
  unfold parsesS at h
  split at h
  · cases h
  · split at h
    · cases h
    · split at h
      · cases h
      · exact h
theorem parses_len (l : List Ent) (toks : List (List UInt8)) : (parsesS l toks).1.length ≤ 64 := by
  obtain ⟨C, hC⟩ : ∃ C, C = countS l toks := ⟨_, rfl⟩
  obtain ⟨c, e⟩ := C
  by_cases he : e = 0
  · subst he
    by_cases h0 : c = 0
    · subst h0; rw [parsesS_zero hC.symm]; simp
    · by_cases h64 : 64 < c
      · rw [parsesS_many hC.symm h64]; simp
      · rw [parsesS_some hC.symm (by omega) h64, trees_is hC.symm (by omega) h64]; omega
  · rw [parsesS_err (k := e) (by rw [← hC]) he]; simp
theorem slim_exch : ∀ t : Tr, Slim t → Slim (exchT t) := by
  intro t
  induction t using Tr.ind with
  | h r e w sub ih =>
    intro h
    cases h with
    | mk _ _ _ _ hl hs =>
    simp only [exchT, exchTs_map]
    refine .mk _ _ _ _ (by rw [List.length_map]; exact hl) (fun t ht => ?_)
    obtain ⟨y, hy, rfl⟩ := List.mem_map.1 ht
    exact ih y hy (hs y hy)
/-- A parse in a row of parses. -/
theorem forG_get {B0 k : Nat} {a : Option Addr} {c : Nat} {ts : List Tr} {W : World} (h : ForG B0 (.slice a k c) ts k W) {j : Nat} (hj : j < k) (hj2 : j < ts.length) :
    ∃ g q, a = some ⟨g, 0, none⟩ ∧ TreeV (fun _ => True) W (TV.val q) ts[j] ∧ W.cell? ⟨g, j * 4, none⟩ = some (.int .u8 q.r) ∧ W.cell? ⟨g, j * 4 + 1, none⟩ = some (.int .i64 q.e) ∧ W.cell? ⟨g, j * 4 + 2, none⟩ = some (.string q.w) ∧ W.cell? ⟨g, j * 4 + 3, none⟩ = some (.slice q.a q.n q.c) := by
  obtain ⟨qs, L, H, hk, hown, ht, _⟩ := h
  rcases hown.2 with ⟨_, h0⟩ | ⟨g, cap', cur, he, _⟩
  · omega
  · cases he
    obtain ⟨x0, x1, x2, x3, hx, c0, c1, c2, c3⟩ := owns_cells hown j (by omega)
    have hv := (ht j (by omega) hj2).treeV
    unfold TV.val at hx
    simp only [Value.agg.injEq, Array.mk.injEq, List.cons.injEq, and_true] at hx
    obtain ⟨rfl, rfl, rfl, rfl⟩ := hx
    exact ⟨g, qs[j], rfl, hv.move (fun b _ _ => ⟨trivial, rfl⟩), c0, c1, c2, c3⟩

set_option maxRecDepth 100000 in
set_option maxHeartbeats 16000000 in
theorem EnglishNames_any (W0 w : World) (ht : Tabs W0 w) (v : Value) (l : List (List UInt8)) (hl : StrSlice w v l) (h0 : ∀ n cap, v = .slice none n cap → v = .slice none 0 0) :
    Calls Tryz.prog 6 #[v] w fun e w' => e = .returned (.bool true) ∧ Below w.heap.size w w' := by
  have HT := Lib.hid ht
  have HL := Lib.hid hl
  have H0 := Lib.hid h0
  have HAw := Lib.hid (awake34_any W0 w ht)
  clear ht hl h0
  refine (callsIn_wide (n := 3)).1 ?_
  refine callsIn_of_wp Tryz.func6 rfl trivial ?_ rfl
  simp only [Tryz.ntmps6, List.size_toArray, List.length_cons, List.length_nil, Nat.reduceAdd, Nat.reduceSub, Array.replicate_succ, Array.replicate_zero, List.push_toArray, List.append_toArray, List.nil_append, List.cons_append]
  have hfw : ∀ f, Fence.wide.fn f := fun _ => trivial
  gi_wp2_with fail
  refine callsIn_wide.2 (HAw.out.mono ?_)
  rintro _ w1 ⟨rfl, hb1⟩
  have HB1 := Lib.hid hb1
  clear hb1
  gi_wp2_with fail
  refine callsIn_wide.2 ((Short34_any w1 v l (HL.out.below HB1.out)).mono ?_)
  rintro _ _ ⟨rfl, rfl⟩
  cases hsh : shortS l
  · gi_wp2
    refine bodyPost_ret (results_tmp rfl _ _ _) rfl ?_
    exact ⟨rfl, HB1.out⟩
  · have HNl := Lib.hid (show l.length ≤ 1000000000 by
      unfold shortS at hsh
      simp only [Bool.and_eq_true, decide_eq_true_eq] at hsh
      omega)
    gi_wp2_with fail
    refine callsIn_wide.2 ((Example34_any w1).mono ?_)
    rintro _ w2 ⟨ve, rfl, hle, hb2⟩
    have HB2 := Lib.hid (HB1.out.trans (hb2.mono HB1.out.size))
    have HLE := Lib.hid hle
    clear hle hb2 hsh
    gi_wp2_with fail
    refine callsIn_wide.2 ((CopyTexts_any w2 v l (HL.out.below HB2.out) HNl.out H0.out).mono ?_)
    rintro _ w3 ⟨vt, rfl, hown, hb3⟩
    obtain ⟨ta, tc, rfl⟩ := owns_form hown
    have HO := Lib.hid hown
    have HB23 := Lib.hid hb3
    obtain ⟨n, hnd⟩ : ∃ n, n = l.length := ⟨_, rfl⟩
    rw [← hnd] at HO HNl ⊢
    have HN := Lib.hid hnd
    have hnb : n ≤ 1000000000 := HNl.out
    clear hown hb3 hnd
    gi_wp2
    gi_loopw [5] (fun q wr => ∃ k : Nat, k ≤ n ∧ q = .int .i64 k ∧ wr.ownsRow w2.heap.size 9 1 (.slice ta n tc) n ((mixS l k).map strVal) ∧ Below w2.heap.size w2 wr) (fun q _ => n - (intOf q).toNat)
    case atStart => exact ⟨0, Nat.zero_le _, rfl, by have h := HO.out; simpa [mixS] using h, HB23.out⟩
    case round =>
      obtain ⟨k, hk, rfl, hown, hb⟩ := hrel
      have HOw := Lib.hid hown
      have HB := Lib.hid hb
      clear hown hb
      by_cases hlt : k < n
      · have hd : decide ((k : Int) < (n : Int)) = true := decide_eq_true (by omega)
        have hkk : (k : Int) < (n : Int) := by omega
        have hkl : k < l.length := by rw [← HN.out]; exact hlt
        obtain ⟨g, hg⟩ : ∃ g, ta = some ⟨g, 0, none⟩ := by
          rcases HOw.out.2 with ⟨_, h0⟩ | ⟨g, _, _, he, _⟩
          · omega
          · cases he; exact ⟨g, rfl⟩
        subst hg
        obtain ⟨c0, z0⟩ := row_cell1 (k := k) HOw.out (by rw [List.getElem?_map, mix_get l hkl]; rfl)
        have hgs : w2.heap.size ≤ g := by
          rcases HOw.out.2 with ⟨h0, _⟩ | ⟨g', _, _, he, hb, _⟩
          · cases h0
          · cases he; exact hb
        obtain ⟨tk, htk⟩ : ∃ tk, tk = l[k] := ⟨_, rfl⟩
        rw [← htk] at c0
        unfold strVal at c0
        have hset := mix_set l hkl
        have hsame := mix_same l hkl
        rw [← htk] at hset hsame
        have HSet := Lib.hid hset
        have HSame := Lib.hid hsame
        clear htk hset hsame
        by_cases h1 : tk = wAnn
        · have hd1 : (tk == [65, 110, 110]) = true := by rw [h1]; rfl
          have H1 := Lib.hid h1
          clear h1
          gi_wp2
          go_roundw
          case rel => exact ⟨k + 1, by omega, by go_num, by
            have h := row_set1 (k := k) HOw.out (strVal (sw tk))
            rw [← List.map_set, HSet.out] at h
            rw [H1.out] at h
            exact h, HB.out.setCell hgs _⟩
          case measure => simp [intOf]; omega
        · have hd1 : (tk == [65, 110, 110]) = false := beq_false_of_ne h1
          by_cases h2 : tk = wBob
          · have hd2 : (tk == [66, 111, 98]) = true := by rw [h2]; rfl
            have H2 := Lib.hid h2
            clear h1 h2
            gi_wp2
            go_roundw
            case rel => exact ⟨k + 1, by omega, by go_num, by
              have h := row_set1 (k := k) HOw.out (strVal (sw tk))
              rw [← List.map_set, HSet.out] at h
              rw [H2.out] at h
              exact h, HB.out.setCell hgs _⟩
            case measure => simp [intOf]; omega
          · have hd2 : (tk == [66, 111, 98]) = false := beq_false_of_ne h2
            have H3 := Lib.hid (sw_same h1 h2)
            clear h1 h2
            gi_wp2
            go_roundw
            case rel => exact ⟨k + 1, by omega, by go_num, by rw [← HSame.out H3.out]; exact HOw.out, HB.out⟩
            case measure => simp [intOf]; omega
      · have hd : decide ((k : Int) < (n : Int)) = false := decide_eq_false (by omega)
        obtain rfl : k = n := by omega
        have hkk : ¬ (k : Int) < (k : Int) := by omega
        have hts : StrSlice wr (.slice ta k tc) (l.map sw) := by
          have h := HOw.out
          rw [mix_all l HN.out] at h
          have hlen : k = (l.map sw).length := by rw [List.length_map]; exact HN.out
          have h2 : wr.ownsRow w2.heap.size 9 1 (.slice ta k tc) (l.map sw).length ((l.map sw).map strVal) := by rw [← hlen]; exact h
          exact strSlice_of_owns h2
        have HTS := Lib.hid hts
        have hBr : Below w.heap.size w wr := HB2.out.trans (HB.out.mono HB2.out.size)
        have HBr := Lib.hid hBr
        have HLr := Lib.hid (HLE.out.below HB.out)
        clear hts hBr
        obtain ⟨hC2, hP2⟩ := names_count l
        obtain ⟨C, hC⟩ : ∃ C, C = countS exL l := ⟨_, rfl⟩
        obtain ⟨P, hP⟩ : ∃ P, P = parsesS exL l := ⟨_, rfl⟩
        rw [← hC] at hC2
        rw [← hP] at hP2
        obtain ⟨c1, c2⟩ := C
        obtain ⟨ts, pe⟩ := P
        have hN64 : ts.length ≤ 64 := by have := parses_len exL l; rw [← hP] at this; exact this
        have hmem : ∀ x ∈ ts, Slim x ∧ NameOk x := fun x hx => by
          have hx' : x ∈ (parsesS exL l).1 := by rw [← hP]; exact hx
          have := parses_mem hx'
          exact ⟨treesS_slim _ _ _ _ _ this, trees_names rfl _ _ _ _ (Nat.le_refl _) (Nat.le_refl _) x this⟩
        have HMem := Lib.hid hmem
        have HQ := Lib.hid (And.intro hC (And.intro hP (And.intro hC2 hP2)))
        clear hC hP hC2 hP2 hmem
        gi_wp2_with fail
        have hcall := Count_any W0 wr (HT.out.next HBr.out) ve v exL HLr.out l (HL.out.below HBr.out)
        rw [← HQ.out.1] at hcall
        refine callsIn_wide.2 (hcall.mono ?_)
        clear hcall
        rintro _ w4 ⟨rfl, hb4⟩
        have HB4 := Lib.hid hb4
        clear hb4
        gi_wp2_with fail
        have hcall := Count_any W0 w4 (HT.out.next (HBr.out.trans (HB4.out.mono HBr.out.size))) ve _ exL (HLr.out.below HB4.out) (l.map sw) (HTS.out.below HB4.out)
        rw [HQ.out.2.2.1] at hcall
        refine callsIn_wide.2 (hcall.mono ?_)
        clear hcall
        rintro _ w5 ⟨rfl, hb5⟩
        have HB5 := Lib.hid (HB4.out.trans (hb5.mono HB4.out.size))
        clear hb5 HB4
        gi_wp2_with fail
        have hcall := Parses_any W0 w5 (HT.out.next (HBr.out.trans (HB5.out.mono HBr.out.size))) ve v exL (HLr.out.below HB5.out) l (HL.out.below (HBr.out.trans (HB5.out.mono HBr.out.size)))
        rw [← HQ.out.2.1] at hcall
        refine callsIn_wide.2 (hcall.mono ?_)
        clear hcall
        rintro _ w6 ⟨ra, rfl, hb6, hFa⟩
        have HB6 := Lib.hid (HB5.out.trans (hb6.mono HB5.out.size))
        have HFa := Lib.hid hFa
        clear hb6 hFa HB5
        gi_wp2_with fail
        have hcall := Parses_any W0 w6 (HT.out.next (HBr.out.trans (HB6.out.mono HBr.out.size))) ve _ exL (HLr.out.below HB6.out) (l.map sw) (HTS.out.below HB6.out)
        rw [HQ.out.2.2.2] at hcall
        refine callsIn_wide.2 (hcall.mono ?_)
        clear hcall
        rintro _ w7 ⟨rb, rfl, hb7, hFb⟩
        have HB7 := Lib.hid (HB6.out.trans (hb7.mono HB6.out.size))
        have HFa7 := Lib.hid (HFa.out.below hb7)
        have HFb := Lib.hid hFb
        clear hb7 hFb HFa HB6
        obtain ⟨N, hNd⟩ : ∃ N, N = ts.length := ⟨_, rfl⟩
        obtain ⟨aa, ac, rfl⟩ : ∃ aa ac, ra = .slice aa N ac := by obtain ⟨_, _, _, _, hown, _⟩ := HFa7.out; rw [hNd]; exact owns_form hown
        obtain ⟨ba, bc, rfl⟩ : ∃ ba bc, rb = .slice ba N bc := by
          obtain ⟨_, _, _, _, hown, _⟩ := HFb.out
          have := owns_form hown
          simp only [List.length_map] at this
          rw [hNd]; exact this
        simp only [List.length_map] at HFb
        rw [← hNd] at HFa7 HFb hN64
        have HNd := Lib.hid hNd
        clear hNd
        gi_wp2
        obtain ⟨ts', hts'⟩ : ∃ ts', ts' = ts.map exchT := ⟨_, rfl⟩
        rw [← hts'] at HFb
        have HTs' := Lib.hid hts'
        clear hts'
        gi_loopw [14] (fun q wr => ∃ i : Nat, i ≤ N ∧ q = .int .i64 i ∧ Below w7.heap.size w7 wr) (fun q _ => N - (intOf q).toNat)
        case atStart => exact ⟨0, Nat.zero_le _, rfl, Below.refl _ _⟩
        case round =>
          obtain ⟨i, hiN, rfl, hbi⟩ := hrel
          have HBi := Lib.hid hbi
          clear hbi
          by_cases hlti : i < N
          · have hd : decide ((i : Int) < (N : Int)) = true := decide_eq_true (by omega)
            have hii : (i : Int) < (N : Int) := by omega
            have hit : i < ts.length := by rw [← HNd.out]; exact hlti
            obtain ⟨X, hX⟩ : ∃ X, X = exchT ts[i] := ⟨_, rfl⟩
            have HX := Lib.hid hX
            clear hX
            gi_wp2
            gi_loopw [15, 16] (fun f q wr => ∃ j : Nat, j ≤ N ∧ q = .int .i64 j ∧ f = .bool ((ts'.take j).any (eqT X)) ∧ Below w7.heap.size w7 wr) (fun _ q _ => N - (intOf q).toNat)
            case atStart => exact ⟨0, Nat.zero_le _, rfl, by simp, HBi.out⟩
            case round =>
              obtain ⟨j, hjN, rfl, rfl, hbj⟩ := hrel
              have HBj := Lib.hid hbj
              clear hbj
              obtain ⟨f, hf⟩ : ∃ f, f = (ts'.take j).any (eqT X) := ⟨_, rfl⟩
              rw [← hf]
              have HFd := Lib.hid hf
              clear hf
              by_cases hltj : j < N
              · have hdj : decide ((j : Int) < (N : Int)) = true := decide_eq_true (by omega)
                have hjj : (j : Int) < (N : Int) := by omega
                have hjt : j < ts'.length := by rw [HTs'.out, List.length_map, ← HNd.out]; exact hltj
                have hnext : (ts'.take (j + 1)).any (eqT X) = (f || eqT X ts'[j]) := by
                  rw [List.take_succ_eq_append_getElem hjt, List.any_append, ← HFd.out]; simp
                have HNx := Lib.hid hnext
                clear hnext
                obtain ⟨S, hS⟩ : ∃ S : World → Prop, S = fun V => Below wr.heap.size wr V := ⟨_, rfl⟩
                have HSS := Lib.hid hS
                have hSd : S wr.drew := by rw [hS]; exact (Below.refl _ _).drew
                cases f
                · obtain ⟨ag, q, rfl, htq, a0, a1, a2, a3⟩ := forG_get HFa7.out hlti hit
                  obtain ⟨bg, p, rfl, htp, b0, b1, b2, b3⟩ := forG_get HFb.out hltj hjt
                  have fa : ∀ V, S V → V.cell? ⟨ag, i * 4, none⟩ = some (.int .u8 q.r) ∧ V.cell? ⟨ag, i * 4 + 1, none⟩ = some (.int .i64 q.e) ∧ V.cell? ⟨ag, i * 4 + 2, none⟩ = some (.string q.w) ∧ V.cell? ⟨ag, i * 4 + 3, none⟩ = some (.slice q.a q.n q.c) := fun V h => by
                    rw [hS] at h
                    have h' := HBj.out.trans (h.mono HBj.out.size)
                    exact ⟨cell_kept' h' a0, cell_kept' h' a1, cell_kept' h' a2, cell_kept' h' a3⟩
                  have fb : ∀ V, S V → V.cell? ⟨bg, j * 4, none⟩ = some (.int .u8 p.r) ∧ V.cell? ⟨bg, j * 4 + 1, none⟩ = some (.int .i64 p.e) ∧ V.cell? ⟨bg, j * 4 + 2, none⟩ = some (.string p.w) ∧ V.cell? ⟨bg, j * 4 + 3, none⟩ = some (.slice p.a p.n p.c) := fun V h => by
                    rw [hS] at h
                    have h' := HBj.out.trans (h.mono HBj.out.size)
                    exact ⟨cell_kept' h' b0, cell_kept' h' b1, cell_kept' h' b2, cell_kept' h' b3⟩
                  have HTq := Lib.hid htq
                  have HTp := Lib.hid htp
                  clear hS htq htp a0 a1 a2 a3 b0 b1 b2 b3
                  gi_wp2
                  refine regionM S 11 (by kernel_rfl) hSd (fun hpo hS0 => ?_)
                  refine takeM (i := 0) 101 (.bool false) hpo rfl (by kernel_rfl) (fun _ _ _ h => h) rfl (by rfl) (fun V hX => (by go_simp)) (fun _ => rfl) hS0 (fun hS1 => ?_)
                  simp only [List.setIfInBounds_toArray, List.set_cons_zero, List.set_cons_succ]
                  refine takeM (i := 1) 102 (.bool false) hpo rfl (by kernel_rfl) (fun _ _ _ h => h) rfl (by rfl) (fun V hX => (by go_simp)) (fun _ => rfl) hS1 (fun hS2 => ?_)
                  simp only [List.setIfInBounds_toArray, List.set_cons_zero, List.set_cons_succ]
                  refine takeM (i := 2) 103 (.slice (some ⟨ag, 0, none⟩) N ac) hpo rfl (by kernel_rfl) (fun _ _ _ h => h) rfl (by rfl) (fun V hX => (by go_simp)) (fun _ => rfl) hS2 (fun hS3 => ?_)
                  simp only [List.setIfInBounds_toArray, List.set_cons_zero, List.set_cons_succ]
                  refine takeM (i := 3) 104 (.int .i64 i) hpo rfl (by kernel_rfl) (fun _ _ _ h => h) rfl (by rfl) (fun V hX => (by go_simp)) (fun _ => rfl) hS3 (fun hS4 => ?_)
                  simp only [List.setIfInBounds_toArray, List.set_cons_zero, List.set_cons_succ]
                  refine takeM (i := 4) 105 (.pointer (some ⟨ag, i * 4, none⟩)) hpo rfl (by kernel_rfl) (fun _ _ _ h => h) rfl (by rfl) (fun V hX => (by go_simp; first | done | (simp only [if_pos hii]; try go_simp))) (fun _ => rfl) hS4 (fun hS5 => ?_)
                  simp only [List.setIfInBounds_toArray, List.set_cons_zero, List.set_cons_succ]
                  refine takeM (i := 5) 106 (.agg #[.int .u8 q.r, .int .i64 q.e, .string q.w, .slice q.a q.n q.c]) hpo rfl (by kernel_rfl) (fun _ _ _ h => h) rfl (by rfl) (fun V hX => (by obtain ⟨g0, g1, g2, g3⟩ := fa V hX; go_simp)) (fun _ => rfl) hS5 (fun hS6 => ?_)
                  simp only [List.setIfInBounds_toArray, List.set_cons_zero, List.set_cons_succ]
                  refine takeM (i := 7) 108 (.slice (some ⟨bg, 0, none⟩) N bc) hpo rfl (by kernel_rfl) (fun _ _ _ h => h) rfl (by rfl) (fun V hX => (by go_simp)) (fun _ => rfl) hS6 (fun hS7 => ?_)
                  simp only [List.setIfInBounds_toArray, List.set_cons_zero, List.set_cons_succ]
                  refine takeM (i := 8) 109 (.int .i64 j) hpo rfl (by kernel_rfl) (fun _ _ _ h => h) rfl (by rfl) (fun V hX => (by go_simp)) (fun _ => rfl) hS7 (fun hS8 => ?_)
                  simp only [List.setIfInBounds_toArray, List.set_cons_zero, List.set_cons_succ]
                  refine takeM (i := 9) 110 (.pointer (some ⟨bg, j * 4, none⟩)) hpo rfl (by kernel_rfl) (fun _ _ _ h => h) rfl (by rfl) (fun V hX => (by go_simp; first | done | (simp only [if_pos hjj]; try go_simp))) (fun _ => rfl) hS8 (fun hS9 => ?_)
                  simp only [List.setIfInBounds_toArray, List.set_cons_zero, List.set_cons_succ]
                  refine takeM (i := 10) 111 (.agg #[.int .u8 p.r, .int .i64 p.e, .string p.w, .slice p.a p.n p.c]) hpo rfl (by kernel_rfl) (fun _ _ _ h => h) rfl (by rfl) (fun V hX => (by obtain ⟨g0, g1, g2, g3⟩ := fb V hX; go_simp)) (fun _ => rfl) hS9 (fun hS10 => ?_)
                  simp only [List.setIfInBounds_toArray, List.set_cons_zero, List.set_cons_succ]
                  refine oneM (i := 6) rfl (by kernel_rfl) (by rfl) (fun K hK => ?_)
                  go_simp
                  have hcall := exchanged_any ts[i] (HMem.out _ (List.getElem_mem hit)).1 (HMem.out _ (List.getElem_mem hit)).2 wr.drew q.val (TreeV.move (W := w7) (W' := wr.drew) (ok' := fun _ => True) (fun c _ h => ⟨trivial, by obtain ⟨_, _, h⟩ := h; exact HBj.out.block c (cell_lt h)⟩) HTq.out)
                  rw [← HX.out] at hcall
                  refine callsIn_wide.2 (hcall.mono ?_)
                  clear hcall
                  rintro _ A1 ⟨v', rfl, hqi, hbA⟩
                  obtain ⟨u, rfl⟩ := hqi.form
                  have hbA7 : Below wr.heap.size wr A1 := ((Below.refl _ wr).drew).trans (hbA.mono (Nat.le_refl _))
                  refine hK _ _ (fun _ => by rw [HSS.out]; exact hbA7) (fun _ => ?_)
                  clear hK K
                  refine oneM (i := 11) rfl (by kernel_rfl) (by rfl) (fun K hK => ?_)
                  go_simp
                  have hslX : Slim X := by rw [HX.out]; exact slim_exch _ (HMem.out _ (List.getElem_mem hit)).1
                  have h7A := HBj.out.trans (hbA7.mono HBj.out.size)
                  have hcall := Same34_any X hslX ts'[j] A1 u.val p.val (TreeV.move (W := A1) (W' := A1) (ok' := fun _ => True) (fun c _ h => ⟨trivial, rfl⟩) hqi.treeV) (TreeV.move (W := w7) (W' := A1) (ok' := fun _ => True) (fun c _ h => ⟨trivial, by obtain ⟨_, _, h⟩ := h; exact h7A.block c (cell_lt h)⟩) HTp.out)
                  obtain ⟨R, hR⟩ : ∃ R, R = eqT X ts'[j] := ⟨_, rfl⟩
                  rw [← hR] at hcall
                  have HR := Lib.hid hR
                  have HB7A := Lib.hid h7A
                  clear hR h7A hqi hbA hbA7
                  refine callsIn_wide.2 (hcall.mono ?_)
                  clear hcall
                  rintro _ A2 ⟨rfl, hb2A⟩
                  have HB7B := Lib.hid (HB7A.out.trans (hb2A.mono HB7A.out.size))
                  clear hb2A
                  refine hK _ _ (fun h => absurd h (by decide)) (fun _ => ?_)
                  clear hK K
                  refine oneM (i := 12) rfl (by kernel_rfl) (by rfl) (fun K hK => ?_)
                  go_simp
                  refine hK _ _ (fun h => absurd h (by decide)) (fun _ => ?_)
                  clear hK K
                  refine oneM (i := 13) rfl (by kernel_rfl) (by rfl) (fun K hK => ?_)
                  go_simp
                  refine hK _ _ (fun h => absurd h (by decide)) (fun _ => ?_)
                  clear hK K
                  refine doneM (by kernel_rfl) ?_ _
                  gi_wp2
                  go_roundw
                  case rel => exact ⟨j + 1, by omega, by go_num, by rw [HNx.out, ← HR.out]; simp, HB7B.out⟩
                  case measure => simp [intOf]; omega
                · gi_wp2
                  refine regionM S 11 (by kernel_rfl) hSd (fun hpo hS0 => ?_)
                  refine takeM (i := 0) 101 (.bool true) hpo rfl (by kernel_rfl) (fun _ _ _ h => h) rfl (by rfl) (fun V hX => (by go_simp)) (fun _ => rfl) hS0 (fun hS1 => ?_)
                  simp only [List.setIfInBounds_toArray, List.set_cons_zero, List.set_cons_succ]
                  refine takeM (i := 1) 102 (.bool true) hpo rfl (by kernel_rfl) (fun _ _ _ h => h) rfl (by rfl) (fun V hX => (by go_simp)) (fun _ => rfl) hS1 (fun hS2 => ?_)
                  simp only [List.setIfInBounds_toArray, List.set_cons_zero, List.set_cons_succ]
                  refine skipM (i := 2) 103 hpo rfl (by kernel_rfl) (fun _ _ _ h => h) rfl (by rfl) (fun _ => rfl) hS2 (fun hS3 => ?_)
                  simp only [List.setIfInBounds_toArray, List.set_cons_zero, List.set_cons_succ]
                  refine skipM (i := 3) 104 hpo rfl (by kernel_rfl) (fun _ _ _ h => h) rfl (by rfl) (fun _ => rfl) hS3 (fun hS4 => ?_)
                  simp only [List.setIfInBounds_toArray, List.set_cons_zero, List.set_cons_succ]
                  refine skipM (i := 4) 105 hpo rfl (by kernel_rfl) (fun _ _ _ h => h) rfl (by rfl) (fun _ => rfl) hS4 (fun hS5 => ?_)
                  simp only [List.setIfInBounds_toArray, List.set_cons_zero, List.set_cons_succ]
                  refine skipM (i := 5) 106 hpo rfl (by kernel_rfl) (fun _ _ _ h => h) rfl (by rfl) (fun _ => rfl) hS5 (fun hS6 => ?_)
                  simp only [List.setIfInBounds_toArray, List.set_cons_zero, List.set_cons_succ]
                  refine skipM (i := 7) 108 hpo rfl (by kernel_rfl) (fun _ _ _ h => h) rfl (by rfl) (fun _ => rfl) hS6 (fun hS7 => ?_)
                  simp only [List.setIfInBounds_toArray, List.set_cons_zero, List.set_cons_succ]
                  refine skipM (i := 8) 109 hpo rfl (by kernel_rfl) (fun _ _ _ h => h) rfl (by rfl) (fun _ => rfl) hS7 (fun hS8 => ?_)
                  simp only [List.setIfInBounds_toArray, List.set_cons_zero, List.set_cons_succ]
                  refine skipM (i := 9) 110 hpo rfl (by kernel_rfl) (fun _ _ _ h => h) rfl (by rfl) (fun _ => rfl) hS8 (fun hS9 => ?_)
                  simp only [List.setIfInBounds_toArray, List.set_cons_zero, List.set_cons_succ]
                  refine skipM (i := 10) 111 hpo rfl (by kernel_rfl) (fun _ _ _ h => h) rfl (by rfl) (fun _ => rfl) hS9 (fun hS10 => ?_)
                  simp only [List.setIfInBounds_toArray, List.set_cons_zero, List.set_cons_succ]
                  refine noneM (i := 6) 107 rfl (by kernel_rfl) rfl (by rfl) (fun f _ => hfw f) hS10 (fun hS11 => ?_)
                  simp only [List.setIfInBounds_toArray, List.set_cons_zero, List.set_cons_succ]
                  refine noneM (i := 11) 112 rfl (by kernel_rfl) rfl (by rfl) (fun f _ => hfw f) hS11 (fun hS12 => ?_)
                  simp only [List.setIfInBounds_toArray, List.set_cons_zero, List.set_cons_succ]
                  refine oneM (i := 12) rfl (by kernel_rfl) (by rfl) (fun K hK => ?_)
                  go_simp
                  refine hK _ _ (fun h => absurd h (by decide)) (fun _ => ?_)
                  clear hK K
                  refine oneM (i := 13) rfl (by kernel_rfl) (by rfl) (fun K hK => ?_)
                  go_simp
                  refine hK _ _ (fun h => absurd h (by decide)) (fun _ => ?_)
                  clear hK K
                  refine doneM (by kernel_rfl) ?_ _
                  gi_wp2
                  go_roundw
                  case rel => exact ⟨j + 1, by omega, by go_num, by rw [HNx.out]; simp, HBj.out.trans (((Below.refl _ wr).drew).mono HBj.out.size)⟩
                  case measure => simp [intOf]; omega
              · have hdj : decide ((j : Int) < (N : Int)) = false := decide_eq_false (by omega)
                have hjj : ¬ (j : Int) < (N : Int) := by omega
                have hft : f = true := by
                  rw [HFd.out, List.any_eq_true]
                  refine ⟨X, ?_, eqT_refl X⟩
                  rw [List.take_of_length_le (by rw [HTs'.out, List.length_map, ← HNd.out]; omega), HTs'.out, HX.out]
                  exact List.mem_map.2 ⟨_, List.getElem_mem hit, rfl⟩
                subst hft
                gi_wp2
                go_roundw
                case rel => exact ⟨i + 1, by omega, by go_num, HBj.out⟩
                case measure => simp [intOf]; omega
          · have hd : decide ((i : Int) < (N : Int)) = false := decide_eq_false (by omega)
            have hii : ¬ (i : Int) < (N : Int) := by omega
            gi_wp2
            refine bodyPost_ret (results_tmp rfl _ _ _) rfl ?_
            exact ⟨rfl, HBr.out.trans ((HB7.out.trans (HBi.out.mono HB7.out.size)).mono HBr.out.size)⟩
end Go.Proofs.YthmnffgjckpkiaaGreatDoor
