/-
  Contract of 'count' of package english: the counts, kept in a map that holds right counts alone.
-/
import Derived.Test.YthmnffgjckpkiaaGreatDoorCount
namespace Go.Proofs.YthmnffgjckpkiaaGreatDoor
open Go Go.RowKit Go.Shelf

theorem parts_any {m gb : Nat} {g : Gr} {ended : Bool} {W0 : World} (hg : Gram m gb g ended W0) (r : RowS) (hr : RowOk r) (fv pv : Value) (hp : PartsAt W0 pv r.parts) (f t : Nat) (hft : f ≤ t) (ht : t ≤ g.toks.length)
    (hC : ∀ k f' t', f ≤ f' → f' ≤ t' → t' ≤ t → (t' - f' < t - f ∨ (f' = f ∧ t' = t ∧ r.parts.length = 1)) → CountAt m gb g W0 k f' t') (W : World) (hs : Since m W0 W) (hG : MapG g W.heap[m]?) :
    Calls Tryz.prog 80 #[.pointer (some ⟨gb, 0, none⟩), rowV r fv pv, .int .i64 f, .int .i64 t] W fun e W' => e = .returned (.int .i64 (partsS g r f t)) ∧ W.grownBy W' (some m) ∧ MapG g W'.heap[m]? := by
  cases hps : r.parts with
  | nil => rw [hps] at hp; exact parts_nil r fv pv hp hps f t W hG
  | cons k1 ks =>
    cases ks with
    | nil => rw [hps] at hp; exact parts_one r fv pv k1 hp hps f t (hC k1 f t (Nat.le_refl _) hft (Nat.le_refl _) (.inr ⟨rfl, rfl, by rw [hps]; rfl⟩)) W hs hG
    | cons k2 ks =>
      have : ks = [] := by
        have h := hr.two
        rw [hps] at h
        cases ks with
        | nil => rfl
        | cons a b => simp at h
      subst this
      rw [hps] at hp
      exact parts_two hg r fv pv k1 k2 hp hps f t hft ht (fun k f' t' h1 h2 h3 h4 => hC k f' t' h1 h2 h3 (.inl h4)) W hs hG

theorem count_none {m gb : Nat} {g : Gr} {W0 : World} (k f t : Nat) (h : t ≤ f) : CountAt m gb g W0 k f t := by
  intro W hs hG
  rw [cntS_zero g h]
  have hd : decide ((f : Int) < (t : Int)) = false := by simpa using h
  have HG := Lib.hid hG
  clear hG hs
  go_enter Tryz.func78, Tryz.ntmps78
  go_wp2
  go_ret
  exact ⟨rfl, below_grown (Below.refl _ _), HG.out⟩

/-- The rows so far. -/
def rowsTo (g : Gr) (k f t j : Nat) : Nat := ((rowsS g).take j).foldl (rowStep (partsS g) k f t) 0
theorem rowsTo_step {g : Gr} {k f t j : Nat} (h : j < (rowsS g).length) : rowsTo g k f t (j + 1) = rowStep (partsS g) k f t (rowsTo g k f t j) (rowsS g)[j] := by
  unfold rowsTo
  rw [List.take_succ_eq_append_getElem h, List.foldl_append]
  rfl
theorem rowsTo_le (g : Gr) (k f t j : Nat) : rowsTo g k f t j ≤ most := le_most_foldl (fun _ _ h => rowStep_le h) _ _ (Nat.zero_le _)

set_option maxRecDepth 100000 in
set_option maxHeartbeats 4000000 in
theorem count_step {m gb : Nat} {g : Gr} {ended : Bool} {W0 : World} (hg : Gram m gb g ended W0) (k f t : Nat) (hft : f < t) (ht : t ≤ g.toks.length)
    (hC : ∀ k f' t', f ≤ f' → f' ≤ t' → t' ≤ t → t' - f' < t - f → CountAt m gb g W0 k f' t') : CountAt m gb g W0 k f t := by
  intro W hs hG
  have hd2 : decide (t ≤ f) = false := by simpa using hft
  obtain ⟨W1, hW1⟩ : ∃ W1, W1 = W.alloc (.cells #[.int .u8 k, .int .i64 f, .int .i64 t] 160) := ⟨_, rfl⟩
  have hb1 : Below W.heap.size W W1 := by rw [hW1]; exact (Below.refl _ _).alloc (Nat.le_refl _) _
  have q0 : W1.cell? ⟨W.heap.size, 0, none⟩ = some (.int .u8 k) := by rw [hW1]; go_simp
  have q1 : W1.cell? ⟨W.heap.size, 1, none⟩ = some (.int .i64 f) := by rw [hW1]; go_simp
  have q2 : W1.cell? ⟨W.heap.size, 2, none⟩ = some (.int .i64 t) := by rw [hW1]; go_simp
  have hs1 := hs.below hb1
  have hG1 := mapG_below hG hb1
  have c5 := hs1.cell hg.counts
  obtain ⟨tb, c4, hrows⟩ := hg.table
  have c4' := hs1.cell c4
  have HW1 := Lib.hid hW1
  have HC := Lib.hid hC
  have HG := Lib.hid hg
  have HS1 := Lib.hid hs1
  have HG1 := Lib.hid hG1
  have HRows := Lib.hid hrows
  have HB1 := Lib.hid hb1
  have HGW := Lib.hid hG
  clear hC hG hg hs hs1 hW1 hrows hb1
  go_enter Tryz.func78, Tryz.ntmps78
  go_wp2
  rw [← HW1.out]
  rcases look_same g k f t m _ hG1 with hlk | hlk
  · have hl2 : ∀ n, (Instr.lookup 86 (.map (some m)) (.agg #[.int .u8 k, .int .i64 f, .int .i64 t]) true).run Tryz.prog (W1.drewN n) = .ok (.tuple #[.int .i64 (cntS g k f t), .bool true]) (W1.drewN n) := fun n => hlk (W1.drewN n) rfl
    clear hlk hG1
    go_quiet (fail)
    go_wp2
    go_ret
    have hbn : Below W.heap.size W (W1.drewN nq) := HB1.out.drewsN _
    exact ⟨rfl, below_grown hbn, HG1.out⟩
  · have hl2 : ∀ n, (Instr.lookup 86 (.map (some m)) (.agg #[.int .u8 k, .int .i64 f, .int .i64 t]) true).run Tryz.prog (W1.drewN n) = .ok (.tuple #[.int .i64 0, .bool false]) (W1.drewN n) := fun n => hlk (W1.drewN n) rfl
    clear hlk hG1
    go_quiet (fail)
    clear hl2
    obtain ⟨W2, hW2⟩ : ∃ W2, W2 = W1.drewN nq := ⟨_, rfl⟩
    have hb2 : Below W.heap.size W W2 := by rw [hW2]; exact HB1.out.drewsN _
    have hs2 : Since m W0 W2 := by rw [hW2]; exact HS1.out.below ((Below.refl _ _).drewsN _)
    have hG2 : MapG g W2.heap[m]? := by rw [hW2]; exact HG1.out
    have r0 : W2.cell? ⟨W.heap.size, 0, none⟩ = some (.int .u8 k) := by rw [hW2]; exact q0
    have r1 : W2.cell? ⟨W.heap.size, 1, none⟩ = some (.int .i64 f) := by rw [hW2]; exact q1
    have r2 : W2.cell? ⟨W.heap.size, 2, none⟩ = some (.int .i64 t) := by rw [hW2]; exact q2
    have c5' : W2.cell? ⟨gb, 5, none⟩ = some (.map (some m)) := by rw [hW2]; exact c5
    have c4'' : W2.cell? ⟨gb, 4, none⟩ = some (.slice (some ⟨tb, 0, none⟩) 24 24) := by rw [hW2]; exact c4'
    rw [← hW2]
    have hmW : m < W.heap.size := (Array.getElem?_eq_some_iff.1 (mapG_map HGW.out).choose_spec.choose_spec).1
    have HS2 := Lib.hid hs2
    have HG2 := Lib.hid hG2
    have HB2 := Lib.hid hb2
    have R0 := Lib.hid r0
    have R1 := Lib.hid r1
    have R2 := Lib.hid r2
    have C5 := Lib.hid c5'
    clear hW2 q0 q1 q2 c5 c4' c4 hs2 hG2 hb2 r0 r1 r2 c5'
    go_wp2
    go_loopw [12, 40] (fun v i wr => ∃ j : Nat, j ≤ 24 ∧ i = .int .i64 j ∧ v = .int .i64 (rowsTo g k f t j : Nat) ∧ W2.grownBy wr (some m) ∧ MapG g wr.heap[m]?) (fun _ i _ => 24 - (intOf i).toNat)
    case atStart => exact ⟨0, by omega, rfl, rfl, ⟨rfl, rfl, rfl, Nat.le_refl _, fun _ _ _ => rfl⟩, HG2.out⟩
    case round =>
      obtain ⟨j, hj, rfl, rfl, hgr, hGr⟩ := hrel
      by_cases hlt : j < 24
      · obtain ⟨fv, pv, hrow, a0, a1, a2, a3, a4⟩ := HRows.out j hlt
        have hsr := HS2.out.grown hgr
        have b0 := hsr.cell a0
        have b1 := hsr.cell a1
        have b2 := hsr.cell a2
        have b3 := hsr.cell a3
        have b4 := hsr.cell a4
        obtain ⟨r, hr⟩ : ∃ r, r = (rowsS g)[j]'hlt := ⟨_, rfl⟩
        rw [← hr] at b0 b1 b4 hrow
        have hrok : RowOk r := by rw [hr]; exact rowsS_ok g _ (List.getElem_mem hlt)
        have hst := rowsTo_step (g := g) (k := k) (f := f) (t := t) hlt
        rw [← hr] at hst
        obtain ⟨fo, bd, caps, rfl, he, hop⟩ := hrow.opn
        obtain ⟨pa, pcap, rfl, hpp⟩ := hrow.parts
        have b4' : wr.cell? ⟨tb, j * 5 + 4, none⟩ = some (.string ⟨r.glue.toArray⟩) := b4
        have HOp := Lib.hid hop
        clear hop hpp b4
        have HR := Lib.hid hr
        have HRow := Lib.hid hrow
        have HRok := Lib.hid hrok
        have HSt := Lib.hid hst
        have HSr := Lib.hid hsr
        have HGr := Lib.hid hGr
        have HGrow := Lib.hid hgr
        clear hr hrow hrok hst hsr hGr hgr a0 a1 a2 a3 a4
        by_cases hk : r.kind = k
        · have hk1 : ((r.kind : Int) == (k : Int)) = true := by simp; omega
          have hk2 : ((r.kind : Int) != (k : Int)) = false := by simp; omega
          have HK := Lib.hid hk
          clear hk
          have hgw := HGrow.out.size
          go_wp2
          obtain ⟨wo, rfl⟩ : ∃ wo : World, wo = wr := ⟨_, rfl⟩
          obtain ⟨w2, hw2⟩ : ∃ w2, w2 = wo.alloc (.cells #[.int .u8 r.rule, .int .u8 r.kind, .func (.func fo) bd caps, .slice pa r.parts.length pcap, .string ⟨r.glue.toArray⟩] 124) := ⟨_, rfl⟩
          have hb2 : Below wo.heap.size wo w2 := by rw [hw2]; exact (Below.refl _ _).alloc (Nat.le_refl _) _
          have e0 : w2.cell? ⟨wo.heap.size, 0, none⟩ = some (.int .u8 r.rule) := by rw [hw2]; go_simp
          have e1 : w2.cell? ⟨wo.heap.size, 1, none⟩ = some (.int .u8 r.kind) := by rw [hw2]; go_simp
          have e2 : w2.cell? ⟨wo.heap.size, 2, none⟩ = some (.func (.func fo) bd caps) := by rw [hw2]; go_simp
          have e3 : w2.cell? ⟨wo.heap.size, 3, none⟩ = some (.slice pa r.parts.length pcap) := by rw [hw2]; go_simp
          have e4 : w2.cell? ⟨wo.heap.size, 4, none⟩ = some (.string ⟨r.glue.toArray⟩) := by rw [hw2]; go_simp
          have hz2 : w2.heap.size = wo.heap.size + 1 := by rw [hw2]; simp
          rw [← hw2]
          clear hw2
          refine (HOp.out w2 (HSr.out.below hb2) f t (by omega) ht).mono ?_
          rintro e w3 ⟨v, rfl, ho, hb3, _⟩
          have hs3 := (HSr.out.below hb2).below hb3
          have hG3 := mapG_below (mapG_below HGr.out hb2) hb3
          have hg3 : W2.grownBy w3 (some m) := grownBy_trans' HGrow.out (grownBy_trans' (below_grown hb2) (below_grown hb3))
          have E0 := Lib.hid (cell_kept' hb3 e0)
          have E1 := Lib.hid (cell_kept' hb3 e1)
          have E2 := Lib.hid (cell_kept' hb3 e2)
          have E3 := Lib.hid (cell_kept' hb3 e3)
          have E4 := Lib.hid (cell_kept' hb3 e4)
          obtain ⟨oa, ocap, rfl, hol, hoc⟩ := ho
          obtain ⟨os, hos⟩ : ∃ os, os = r.opn f t := ⟨_, rfl⟩
          rw [← hos] at hol hoc ⊢
          have HOs := Lib.hid hos
          have HOc := Lib.hid hoc
          have HS3 := Lib.hid hs3
          have HG3 := Lib.hid hG3
          have HGr3 := Lib.hid hg3
          clear hos hoc hs3 hG3 hg3 e0 e1 e2 e3 e4 hb2 hb3
          obtain ⟨N, hN⟩ : ∃ N, N = rowsTo g k f t j := ⟨_, rfl⟩
          have hNle : N ≤ most := by rw [hN]; exact rowsTo_le _ _ _ _ _
          rw [← hN]
          have HN := Lib.hid hN
          clear hN
          go_wp2
          go_loopw [12, 54] (fun v i wr => ∃ q : Nat, q ≤ os.length ∧ i = .int .i64 q ∧ v = .int .i64 ((os.take q).foldl (opnStep (partsS g) r t) N : Nat) ∧ w3.grownBy wr (some m) ∧ MapG g wr.heap[m]?) (fun _ i _ => os.length - (intOf i).toNat)
          case atStart => exact ⟨0, Nat.zero_le _, rfl, rfl, ⟨rfl, rfl, rfl, Nat.le_refl _, fun _ _ _ => rfl⟩, HG3.out⟩
          case round =>
            obtain ⟨q, hq, rfl, rfl, hgq, hGq⟩ := hrel
            by_cases hql : q < os.length
            · rcases HOc.out with h0 | ⟨ob, rfl, hoc⟩
              · rw [h0] at hql; exact absurd hql (by simp)
              obtain ⟨o0, o1, o2⟩ := hoc q hql
              have hsq := HS3.out.grown hgq
              have hsq3 := (Since.refl (mapG_map HG3.out)).grown hgq
              have p0 := hsq3.cell o0
              have p1 := hsq3.cell o1
              have p2 := hsq3.cell o2
              obtain ⟨o, ho⟩ : ∃ o, o = os[q] := ⟨_, rfl⟩
              rw [← ho] at p0 p1 p2
              have p1' : wr.cell? ⟨ob, q * 3 + 1, none⟩ = some (.string ⟨o.word.toArray⟩) := p1
              have hom : o ∈ r.opn f t := by rw [ho, ← HOs.out]; exact List.getElem_mem hql
              have hat := HRok.out.at1 f t o (by omega) hom
              have hst2 : (os.take (q + 1)).foldl (opnStep (partsS g) r t) N = opnStep (partsS g) r t ((os.take q).foldl (opnStep (partsS g) r t) N) o := by
                rw [List.take_succ_eq_append_getElem hql, List.foldl_append, ← ho]; rfl
              have e0 := hsq3.cell E0.out
              have e1 := hsq3.cell E1.out
              have e2 := hsq3.cell E2.out
              have e3 := hsq3.cell E3.out
              have e4 := hsq3.cell E4.out
              have HOm := Lib.hid hom
              have HSt2 := Lib.hid hst2
              have HSq := Lib.hid hsq
              have HGq := Lib.hid hGq
              have HGrq := Lib.hid hgq
              obtain ⟨M, hM⟩ : ∃ M, M = (os.take q).foldl (opnStep (partsS g) r t) N := ⟨_, rfl⟩
              have hMle : M ≤ most := by rw [hM]; exact le_most_foldl (fun _ _ _ => opnStep_le) _ _ hNle
              rw [← hM] at HSt2 ⊢
              have hszq : wo.heap.size < wr.heap.size := cell_lt e0
              clear hM hom hst2 hsq hsq3 hGq hgq o0 o1 o2 p1 ho hoc
              go_wp2_with fail
              refine (parts_any HG.out r HRok.out (.func (.func fo) bd caps) (.slice pa r.parts.length pcap) HRow.out.parts o.at t hat.2 ht (fun k' f' t' h1 h2 h3 h4 => HC.out k' f' t' (by omega) h2 h3 (by
                rcases h4 with h4 | ⟨h5, h6, h7⟩
                · omega
                · have := HRok.out.one f t o (by omega) HOm.out h7; omega)) _ (HSq.out.alloc _) (mapG_below HGq.out ((Below.refl _ _).alloc (Nat.le_refl _) _))).mono ?_
              rintro e w5 ⟨rfl, hg5, hG5⟩
              have hg5' := grownBy_trans' HGrq.out (grownBy_trans' (World.grownBy_alloc _ _ _) hg5)
              obtain ⟨c, hc⟩ : ∃ c, c = partsS g r o.at t := ⟨_, rfl⟩
              have hcle : c ≤ 1000000 := by rw [hc]; exact partsS_le _ _ _ _
              rw [← hc]
              have hmin : min (1000000 : Int) ((M : Int) + (c : Int)) = ((min 1000000 (M + c) : Nat) : Int) := by omega
              have hMle' : M ≤ 1000000 := hMle
              have hstep : opnStep (partsS g) r t M o = min 1000000 (M + c) := by unfold opnStep; rw [hc]
              have HStep := Lib.hid hstep
              have HG5' := Lib.hid hg5'
              have HG5 := Lib.hid hG5
              clear hc hstep hg5' hG5 hg5 e0 e1 e2 e3 e4 p0 p1' p2 hMle
              go_wp2
              go_roundw
              case rel => exact ⟨q + 1, by omega, by go_num, by rw [HSt2.out, HStep.out], HG5'.out, HG5.out⟩
              case measure => simp [intOf]; omega
            · obtain rfl : q = os.length := by omega
              have hgq' := grownBy_trans' HGr3.out hgq
              have hfin : (os.take os.length).foldl (opnStep (partsS g) r t) N = rowStep (partsS g) k f t N r := by
                rw [List.take_length]; unfold rowStep; rw [if_pos HK.out, ← HOs.out]
              have HGq' := Lib.hid hgq'
              have HFin := Lib.hid hfin
              have HGq := Lib.hid hGq
              clear hgq' hfin hGq hgq
              go_wp2
              go_roundw
              case rel => exact ⟨j + 1, by omega, by go_num, by rw [HSt.out, HFin.out, HN.out], HGq'.out, HGq.out⟩
              case measure => simp [intOf]; omega
        · have hk1 : ((r.kind : Int) == (k : Int)) = false := by simp; omega
          have hk2 : ((r.kind : Int) != (k : Int)) = true := by simp; omega
          have HK := Lib.hid hk
          clear hk
          go_wp2
          go_roundw
          case rel =>
            refine ⟨j + 1, by omega, by go_num, ?_, ?_, ?_⟩
            · rw [HSt.out]; unfold rowStep; rw [if_neg HK.out]
            · exact grown_next HGrow.out (World.grownBy_alloc _ _ none) (fun r e => by cases e)
            · exact mapG_below HGr.out ((Below.refl _ _).alloc (Nat.le_refl _) _)
          case measure => simp [intOf]; omega
      · obtain rfl : j = 24 := by omega
        have hend : rowsTo g k f t 24 = cntS g k f t := by rw [cntS_eq g hft]; rfl
        have hsq := (Since.refl (mapG_map HG2.out)).grown hgr
        have x0 := hsq.cell R0.out
        have x1 := hsq.cell R1.out
        have x2 := hsq.cell R2.out
        have x5 := hsq.cell C5.out
        obtain ⟨w6, hrun, hg6, _, hG6⟩ := store_span g k f t m wr.drew hGr
        have hrun' : (Instr.mapUpdate 86 (.map (some m)) (.agg #[.int .u8 k, .int .i64 f, .int .i64 t]) (.int .i64 (cntS g k f t))).run Tryz.prog wr.drew = .ok () w6 := hrun
        have HFin := Lib.hid (grownBy_trans' (below_grown (m := m) HB2.out) (grownBy_trans' hgr (grown_undrew hg6)))
        have HG6 := Lib.hid hG6
        clear hrun hg6 hG6 hgr hGr hsq
        rw [hend]
        clear hend
        go_wp2
        go_region
        all_goals
          go_wp2
          go_ret
          exact ⟨rfl, HFin.out, HG6.out⟩

theorem count_any {m gb : Nat} {g : Gr} {ended : Bool} {W0 : World} (hg : Gram m gb g ended W0) : ∀ (d k f t : Nat), t - f ≤ d → t ≤ g.toks.length → CountAt m gb g W0 k f t := by
  intro d
  induction d with
  | zero => intro k f t h _; exact count_none k f t (by omega)
  | succ d ih =>
    intro k f t h ht
    by_cases hft : f < t
    · exact count_step hg k f t hft ht (fun k f' t' _ _ h3 h4 => ih k f' t' (by omega) (by omega))
    · exact count_none k f t (by omega)
theorem count_all {m gb : Nat} {g : Gr} {ended : Bool} {W0 : World} (hg : Gram m gb g ended W0) (k f t : Nat) (ht : t ≤ g.toks.length) : CountAt m gb g W0 k f t := count_any hg _ k f t (Nat.le_refl _) ht
theorem parts_all {m gb : Nat} {g : Gr} {ended : Bool} {W0 : World} (hg : Gram m gb g ended W0) (r : RowS) (hr : RowOk r) (fv pv : Value) (hp : PartsAt W0 pv r.parts) (f t : Nat) (hft : f ≤ t) (ht : t ≤ g.toks.length) (W : World) (hs : Since m W0 W) (hG : MapG g W.heap[m]?) :
    Calls Tryz.prog 80 #[.pointer (some ⟨gb, 0, none⟩), rowV r fv pv, .int .i64 f, .int .i64 t] W fun e W' => e = .returned (.int .i64 (partsS g r f t)) ∧ W.grownBy W' (some m) ∧ MapG g W'.heap[m]? :=
  parts_any hg r hr fv pv hp f t hft ht (fun k f' t' _ _ h3 _ => count_all hg k f' t' (by omega)) W hs hG
end Go.Proofs.YthmnffgjckpkiaaGreatDoor
