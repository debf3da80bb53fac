/-
  The iterator 'trees' of package english yields the parses of a span, in their order.
-/
import Derived.Test.YthmnffgjckpkiaaGreatDoorFill2
namespace Go.Proofs.YthmnffgjckpkiaaGreatDoor
open Go Go.RowKit Go.Shelf

theorem fill_seq {m gb : Nat} {g : Gr} {ended : Bool} {W0 : World} (hg : Gram m gb g ended W0) {R : Rg} (hR : Counts R m g W0) {w : World} (hs : Since m W0 w) (hok : R.ok w) (r : RowS) (hr : RowOk r) (fv : Value) (fo : Nat) (bd caps : Array Value) (hfv : fv = .func (.func fo) bd caps) (pa : Option Addr) (pc : Nat) (hp : PartsAt W0 (.slice pa r.parts.length pc) r.parts) (f : Nat) (o : Opn) (t b : Nat) (hft : f ≤ t) (ho : o ∈ r.opn f t) (ht : t ≤ g.toks.length)
    (hT : ∀ k f' t', f ≤ f' → f' ≤ t' → t' ≤ t → t' - f' < t - f → TreesOk m gb g W0 k f' t') (hlt : f < t) (hb : FillBox gb r fv (.slice pa r.parts.length pc) o t b w) (hsf : FillSf R b w) : SeqM R Tryz.prog 123 (fillLb b) (fillS g r o t) (TreeA R) w := by
  have hat := hr.at1 f t o hft ho
  cases hps : r.parts with
  | nil => rw [hps] at hb; exact fill_nil g r hps fv pa pc o t b hb hsf
  | cons k1 ks =>
    cases ks with
    | nil =>
      have h1 := hr.one f t o hft ho (by rw [hps]; rfl)
      rw [hps] at hb hp
      exact fill_one hR hs hok r k1 hps fv pa pc hp o t b (hT k1 o.at t hat.1 hat.2 (Nat.le_refl _) (by omega)) hb hsf
    | cons k2 ks =>
      have : ks = [] := by
        have h := hr.two
        rw [hps] at h
        cases ks with
        | nil => rfl
        | cons a b => simp at h
      subst this
      rw [hps] at hb hp
      exact fill_two hg hR hs hok r k1 k2 hps fv fo bd caps hfv pa pc hp o t b hat.2 ht (fun k f' t' h1 h2 h3 h4 => hT k f' t' (by omega) (by omega) h3 (by omega)) hb hsf

/-- The parses by the first rows; what an opening adds. -/
def rowsTr (g : Gr) (k f t j : Nat) : List Tr := ((rowsS g).take j).flatMap (rowTrees (treesS g) g k f t)
theorem rowsTr_step {g : Gr} {k f t j : Nat} (h : j < (rowsS g).length) : rowsTr g k f t (j + 1) = rowsTr g k f t j ++ rowTrees (treesS g) g k f t (rowsS g)[j] := by
  unfold rowsTr
  rw [List.take_succ_eq_append_getElem h, List.flatMap_append, List.flatMap_singleton]
theorem rowsTr_prefix (g : Gr) (k f t j : Nat) : rowsTr g k f t j <+: (rowsS g).flatMap (rowTrees (treesS g) g k f t) := by
  refine ⟨((rowsS g).drop j).flatMap (rowTrees (treesS g) g k f t), ?_⟩
  unfold rowsTr
  rw [← List.flatMap_append, List.take_append_drop]
def opnTr (g : Gr) (r : RowS) (t : Nat) (o : Opn) : List Tr := if 0 < partsS g r o.at t then fillS g r o t else []
theorem rowTrees_eq {g : Gr} {k f t : Nat} {r : RowS} (h : r.kind = k) : rowTrees (treesS g) g k f t r = (r.opn f t).flatMap (opnTr g r t) := by
  unfold rowTrees
  rw [if_pos h]
  rfl
/-- What has come so far is a part of the whole. -/
theorem come_prefix {g : Gr} {k f t j q : Nat} {r : RowS} {o : Opn} {p : List Tr} (hj : j < (rowsS g).length) (hr : r = (rowsS g)[j]) (hk : r.kind = k) (hq : q < (r.opn f t).length) (ho : o = (r.opn f t)[q]) (hp : p <+: opnTr g r t o) :
    (rowsTr g k f t j ++ ((r.opn f t).take q).flatMap (opnTr g r t) ++ p) <+: (rowsS g).flatMap (rowTrees (treesS g) g k f t) := by
  have h1 : (rowsS g).take j ++ [(rowsS g)[j]] <+: rowsS g := by rw [← List.take_succ_eq_append_getElem hj]; exact List.take_prefix _ _
  have h2 : (r.opn f t).take q ++ [(r.opn f t)[q]] <+: r.opn f t := by rw [← List.take_succ_eq_append_getElem hq]; exact List.take_prefix _ _
  have h3 := flat_prefix (F := opnTr g r t) h2 (by rw [← ho]; exact hp)
  have h4 := flat_prefix (F := rowTrees (treesS g) g k f t) h1 (p := ((r.opn f t).take q).flatMap (opnTr g r t) ++ p) (by rw [← hr, rowTrees_eq hk]; exact h3)
  rw [← List.append_assoc] at h4
  exact h4

theorem trees_none {m gb : Nat} {g : Gr} {ended : Bool} {W0 : World} (hg : Gram m gb g ended W0) (k f t : Nat) (ht : t ≤ g.toks.length) (h0 : cntS g k f t = 0) : TreesOk m gb g W0 k f t := by
  intro R hR w b hs hok hbx s0 s1 s2 s3 l J Jx W hW hokW hl hJ hJx hY hJ0
  have hx : treesS g k f t = [] := by rw [treesS_eq, if_pos h0]
  rw [hx]
  have hsW := hs.kp hR.leaves hok hW
  have hGW := hR.good _ hokW
  have c0 : W.cell? ⟨b, 0, none⟩ = some (.pointer (some ⟨gb, 0, none⟩)) := (World.cell?_of_block (a := ⟨b, 0, none⟩) (hW.same _ s0).2).trans hbx.c0
  have c1 : W.cell? ⟨b + 1, 0, none⟩ = some (.int .u8 k) := (World.cell?_of_block (a := ⟨b + 1, 0, none⟩) (hW.same _ s1).2).trans hbx.c1
  have c2 : W.cell? ⟨b + 1 + 1, 0, none⟩ = some (.int .i64 f) := (World.cell?_of_block (a := ⟨b + 1 + 1, 0, none⟩) (hW.same _ s2).2).trans hbx.c2
  have c3 : W.cell? ⟨b + 1 + 1 + 1, 0, none⟩ = some (.int .i64 t) := (World.cell?_of_block (a := ⟨b + 1 + 1 + 1, 0, none⟩) (hW.same _ s3).2).trans hbx.c3
  have hc := count_all hg k f t ht W hsW hGW
  rw [h0] at hc
  have HC := Lib.hid hc
  have HR := Lib.hid hR
  have HJ := Lib.hid (hJ [])
  have HJ0 := Lib.hid hJ0
  clear hc hY hJ hJx hW hs hsW hGW hbx hx hg hR hJ0
  unfold treesLb
  go_enter Tryz.func79, Tryz.ntmps79
  go_wp2_with fail
  refine HC.out.mono ?_
  rintro _ W1 ⟨rfl, hg1, hG1⟩
  have hmv : Mv R W W1 := HR.out.mv hg1 (fun _ => hG1)
  have HMv := Lib.hid hmv
  clear hmv hg1 hG1
  go_wp2
  refine bodyPost_ret (results_none rfl _ _ _) rfl ?_
  exact ⟨⟨_, rfl⟩, .inl ⟨HJ.out.mv HMv.out hokW HJ0.out, HMv.out.kp hokW⟩⟩

set_option maxRecDepth 100000 in
set_option maxHeartbeats 8000000 in
theorem trees_step {m gb : Nat} {g : Gr} {ended : Bool} {W0 : World} (hg : Gram m gb g ended W0) (k f t : Nat) (hlt : f < t) (ht : t ≤ g.toks.length) (h0 : 0 < cntS g k f t)
    (hT : ∀ k f' t', f ≤ f' → f' ≤ t' → t' ≤ t → t' - f' < t - f → TreesOk m gb g W0 k f' t') : TreesOk m gb g W0 k f t := by
  intro R hR w b hs hok hbx s0 s1 s2 s3 l J Jx W hW hokW hl hJ hJx hY hJ0
  have hx : treesS g k f t = (rowsS g).flatMap (rowTrees (treesS g) g k f t) := by rw [treesS_eq, if_neg (by omega)]
  rw [hx] at hY ⊢
  have hsW := hs.kp hR.leaves hok hW
  have hGW := hR.good _ hokW
  have c0 : W.cell? ⟨b, 0, none⟩ = some (.pointer (some ⟨gb, 0, none⟩)) := (World.cell?_of_block (a := ⟨b, 0, none⟩) (hW.same _ s0).2).trans hbx.c0
  have c1 : W.cell? ⟨b + 1, 0, none⟩ = some (.int .u8 k) := (World.cell?_of_block (a := ⟨b + 1, 0, none⟩) (hW.same _ s1).2).trans hbx.c1
  have c2 : W.cell? ⟨b + 1 + 1, 0, none⟩ = some (.int .i64 f) := (World.cell?_of_block (a := ⟨b + 1 + 1, 0, none⟩) (hW.same _ s2).2).trans hbx.c2
  have c3 : W.cell? ⟨b + 1 + 1 + 1, 0, none⟩ = some (.int .i64 t) := (World.cell?_of_block (a := ⟨b + 1 + 1 + 1, 0, none⟩) (hW.same _ s3).2).trans hbx.c3
  have cells : ∀ V, Kp R W V → V.cell? ⟨b, 0, none⟩ = some (.pointer (some ⟨gb, 0, none⟩)) ∧ V.cell? ⟨b + 1, 0, none⟩ = some (.int .u8 k) ∧ V.cell? ⟨b + 1 + 1, 0, none⟩ = some (.int .i64 f) ∧ V.cell? ⟨b + 1 + 1 + 1, 0, none⟩ = some (.int .i64 t) := fun V hV =>
    ⟨(World.cell?_of_block (a := ⟨b, 0, none⟩) (hV.same _ (hW.same _ s0).1).2).trans c0, (World.cell?_of_block (a := ⟨b + 1, 0, none⟩) (hV.same _ (hW.same _ s1).1).2).trans c1, (World.cell?_of_block (a := ⟨b + 1 + 1, 0, none⟩) (hV.same _ (hW.same _ s2).1).2).trans c2, (World.cell?_of_block (a := ⟨b + 1 + 1 + 1, 0, none⟩) (hV.same _ (hW.same _ s3).1).2).trans c3⟩
  have hc := count_all hg k f t ht W hsW hGW
  obtain ⟨tb, c4, hrows⟩ := hg.table
  have HC := Lib.hid hc
  have HR := Lib.hid hR
  have HJ := Lib.hid hJ
  have HJx := Lib.hid hJx
  have HJ0 := Lib.hid hJ0
  have HY := Lib.hid hY
  have HT := Lib.hid hT
  have HG := Lib.hid hg
  have HRows := Lib.hid hrows
  have HSW := Lib.hid hsW
  have HCells := Lib.hid cells
  have H4 := Lib.hid c4
  have hm0 := R.mlt hokW
  clear hc hY hJ hJx hW hs hsW hGW hbx hx hg hR hJ0 hT hrows cells c4
  unfold treesLb
  go_enter Tryz.func79, Tryz.ntmps79
  go_wp2_with fail
  refine HC.out.mono ?_
  rintro _ W1 ⟨rfl, hg1, hG1⟩
  have hmv : Mv R W W1 := HR.out.mv hg1 (fun _ => hG1)
  have hk1 := hmv.kp hokW
  have hok1 := hmv.ok hokW
  have hj1 := (HJ.out []).mv hmv hokW HJ0.out
  obtain ⟨d0, d1, d2, d3⟩ := HCells.out W1 hk1
  have d4 := (HSW.out.grown hg1).cell H4.out
  have hcn : (((cntS g k f t : Nat) : Int) == 0) = false := by simp; omega
  clear c0 c1 c2 c3 hmv hg1 hG1
  go_wp2
  clear d0 d1 d2 d3 d4
  go_loopw [21] (fun i wr => ∃ j : Nat, j ≤ 24 ∧ i = .int .i64 j ∧ J (rowsTr g k f t j) wr ∧ Kp R W wr) (fun i _ => 24 - (intOf i).toNat)
  case atStart => exact ⟨0, by omega, rfl, hj1, hk1⟩
  case round =>
    obtain ⟨j, hj, rfl, hJr, hkr⟩ := hrel
    have hokr := hkr.ok hokW
    by_cases hjl : j < 24
    · obtain ⟨fv, pv, hrow, a0, a1, a2, a3, a4⟩ := HRows.out j hjl
      have hsr : Since m W0 wr := HSW.out.kp HR.out.leaves hokW hkr
      have b0 := hsr.cell a0
      have b1 := hsr.cell a1
      have b2 := hsr.cell a2
      have b3 := hsr.cell a3
      have b4 := hsr.cell a4
      obtain ⟨r, hr⟩ : ∃ r, r = (rowsS g)[j]'hjl := ⟨_, rfl⟩
      rw [← hr] at b0 b1 b4 hrow
      have hrok : RowOk r := by rw [hr]; exact rowsS_ok g _ (List.getElem_mem hjl)
      obtain ⟨fo, bd, caps, rfl, he, hop⟩ := hrow.opn
      obtain ⟨pa, pcap, rfl, hpp⟩ := hrow.parts
      have b4' : wr.cell? ⟨tb, j * 5 + 4, none⟩ = some (.string ⟨r.glue.toArray⟩) := b4
      obtain ⟨x0, x1, x2, x3⟩ := HCells.out wr hkr
      have l1 := cell_lt x1
      have l2 := cell_lt x2
      have l3 := cell_lt x3
      simp only at l1 l2 l3
      have HOp := Lib.hid hop
      have HR1 := Lib.hid hr
      have HRow := Lib.hid hrow
      have HRok := Lib.hid hrok
      have HSr := Lib.hid hsr
      have HJr := Lib.hid hJr
      clear hop hpp b4 hr hrow hrok hsr hJr a0 a1 a2 a3 a4 x0
      by_cases hk : r.kind = k
      · have hk2 : ((r.kind : Int) != (k : Int)) = false := by simp; omega
        have hk3 : ((r.kind : Int) == (k : Int)) = true := by simp; omega
        have HK := Lib.hid hk
        clear hk
        go_wp2_with fail
        obtain ⟨wo, rfl⟩ : ∃ wo : World, wo = wr := ⟨_, rfl⟩
        obtain ⟨w2, hw2⟩ : ∃ w2, w2 = wo.alloc (.cells #[.int .u8 r.rule, .int .u8 r.kind, .func (.func fo) bd caps, .slice pa r.parts.length pcap, .string ⟨r.glue.toArray⟩] 124) := ⟨_, rfl⟩
        have hb2 : Below wo.heap.size wo w2 := by rw [hw2]; exact (Below.refl _ _).alloc (Nat.le_refl _) _
        have hrb2 : w2.heap[wo.heap.size]? = some (.cells #[.int .u8 r.rule, .int .u8 r.kind, .func (.func fo) bd caps, .slice pa r.parts.length pcap, .string ⟨r.glue.toArray⟩] 124 (0, 0)) := by rw [hw2]; exact World.alloc_heap_new wo _
        have hz2 : w2.heap.size = wo.heap.size + 1 := by rw [hw2]; simp
        rw [← hw2]
        clear hw2 b0 b1 b2 b3 b4' x1 x2 x3 l1 l2 l3
        refine (HOp.out w2 (HSr.out.below hb2) f t (by omega) ht).mono ?_
        rintro e w3 ⟨v, rfl, ho, hb3, hfresh⟩
        have hbw3 : Below wo.heap.size wo w3 := hb2.trans (hb3.mono hb2.size)
        have hmv3 : Mv R wo w3 := Mv.of_below hokr hbw3
        have hk3' := hkr.trans (hmv3.kp hokr)
        have hok3 := hmv3.ok hokr
        have hrb3 : w3.heap[wo.heap.size]? = some (.cells #[.int .u8 r.rule, .int .u8 r.kind, .func (.func fo) bd caps, .slice pa r.parts.length pcap, .string ⟨r.glue.toArray⟩] 124 (0, 0)) := (hb3.block _ (Array.getElem?_eq_some_iff.1 hrb2).1).trans hrb2
        have srb : R.sf w3 wo.heap.size := R.fresh hokr hbw3 (Nat.le_refl _) (Array.getElem?_eq_some_iff.1 hrb3).1
        have hj3 := (HJ.out (rowsTr g k f t j)).mv hmv3 hokr HJr.out
        obtain ⟨oa, ocap, rfl, hol, hoc⟩ := ho
        obtain ⟨os, hos⟩ : ∃ os, os = r.opn f t := ⟨_, rfl⟩
        rw [← hos] at hol hoc ⊢
        have hoc2 : os = [] ∨ ∃ ob, oa = some ⟨ob, 0, none⟩ ∧ R.sf w3 ob ∧ ∀ j (h : j < os.length), w3.cell? ⟨ob, j * 3, none⟩ = some (.int .i64 os[j].entry) ∧ w3.cell? ⟨ob, j * 3 + 1, none⟩ = some (strVal os[j].word) ∧ w3.cell? ⟨ob, j * 3 + 2, none⟩ = some (.int .i64 os[j].at) := by
          rcases hoc with h | ⟨ob, hoa, hc⟩
          · exact .inl h
          · by_cases hne : os = []
            · exact .inl hne
            · refine .inr ⟨ob, hoa, R.fresh hokr hbw3 ?_ ?_, hc⟩
              · have h1 := hfresh ob (by rw [hoa]; rfl)
                omega
              · have h2 := cell_lt (hc 0 (List.length_pos_iff.2 hne)).1
                exact h2
        have HOs := Lib.hid hos
        have HOc := Lib.hid hoc2
        have HRb3 := Lib.hid hrb3
        have HJ3 := Lib.hid hj3
        clear hos hoc hoc2 hrb2 hrb3 hb2 hb3 hj3 hfresh hmv3 hbw3
        go_wp2
        go_loopw [35] (fun i wr => ∃ q : Nat, q ≤ os.length ∧ i = .int .i64 q ∧ J (rowsTr g k f t j ++ (os.take q).flatMap (opnTr g r t)) wr ∧ Kp R w3 wr) (fun i _ => os.length - (intOf i).toNat)
        case atStart => exact ⟨0, Nat.zero_le _, rfl, by simpa using HJ3.out, Kp.refl _⟩
        case round =>
          obtain ⟨q, hq, rfl, hJq, hkq⟩ := hrel
          have hkWq := hk3'.trans hkq
          have hokq := hkWq.ok hokW
          by_cases hql : q < os.length
          · rcases HOc.out with h0 | ⟨ob, rfl, sob, hoc⟩
            · rw [h0] at hql; exact absurd hql (by simp)
            obtain ⟨o0, o1, o2⟩ := hoc q hql
            have hob := (hkq.same _ sob).2
            have p0 := (World.cell?_of_block (a := ⟨ob, q * 3, none⟩) hob).trans o0
            have p1 := (World.cell?_of_block (a := ⟨ob, q * 3 + 1, none⟩) hob).trans o1
            have p2 := (World.cell?_of_block (a := ⟨ob, q * 3 + 2, none⟩) hob).trans o2
            obtain ⟨o, ho⟩ : ∃ o, o = os[q] := ⟨_, rfl⟩
            rw [← ho] at p0 p1 p2
            have p1' : wr.cell? ⟨ob, q * 3 + 1, none⟩ = some (.string ⟨o.word.toArray⟩) := p1
            have hrbq := (hkq.same _ srb).2.trans HRb3.out
            have y0 : wr.cell? ⟨wo.heap.size, 0, none⟩ = some (.int .u8 r.rule) := by simp [World.cell?, hrbq]
            have y1 : wr.cell? ⟨wo.heap.size, 1, none⟩ = some (.int .u8 r.kind) := by simp [World.cell?, hrbq]
            have y2 : wr.cell? ⟨wo.heap.size, 2, none⟩ = some (.func (.func fo) bd caps) := by simp [World.cell?, hrbq]
            have y3 : wr.cell? ⟨wo.heap.size, 3, none⟩ = some (.slice pa r.parts.length pcap) := by simp [World.cell?, hrbq]
            have y4 : wr.cell? ⟨wo.heap.size, 4, none⟩ = some (.string ⟨r.glue.toArray⟩) := by simp [World.cell?, hrbq]
            have lrow : wo.heap.size < wr.heap.size := cell_lt y0
            obtain ⟨x0, x1, x2, x3⟩ := HCells.out wr hkWq
            have l0 := cell_lt x0
            have l3 := cell_lt x3
            simp only at l0 l3
            have hom : o ∈ r.opn f t := by rw [ho, ← HOs.out]; exact List.getElem_mem hql
            have hat := HRok.out.at1 f t o (by omega) hom
            have hst2 : (os.take (q + 1)).flatMap (opnTr g r t) = (os.take q).flatMap (opnTr g r t) ++ opnTr g r t o := by
              rw [List.take_succ_eq_append_getElem hql, List.flatMap_append, ← ho, List.flatMap_singleton]
            have hsq : Since m W0 wr := HSW.out.kp HR.out.leaves hokW hkWq
            have hGq := HR.out.good _ hokq
            have hcp : ∀ p, p <+: opnTr g r t o → (rowsTr g k f t j ++ (os.take q).flatMap (opnTr g r t) ++ p) <+: (rowsS g).flatMap (rowTrees (treesS g) g k f t) := fun p hp => by
              have h := come_prefix (q := q) (o := o) hjl HR1.out HK.out (by rw [← HOs.out]; exact hql) (by rw [ho]; congr 1) hp
              rw [← HOs.out] at h
              exact h
            have HOm := Lib.hid hom
            have HSt2 := Lib.hid hst2
            have HSq := Lib.hid hsq
            have HGq := Lib.hid hGq
            have HJq := Lib.hid hJq
            have HCp := Lib.hid hcp
            have HRbq := Lib.hid hrbq
            clear hom hst2 hsq hGq hJq hcp o0 o1 o2 p1 ho hoc hob hrbq x1 x2
            go_wp2_with fail
            obtain ⟨V3, hV3⟩ : ∃ V3, V3 = wr.alloc (.cells #[.int .i64 o.entry, .string ⟨o.word.toArray⟩, .int .i64 o.at] 127) := ⟨_, rfl⟩
            have hbV : Below wr.heap.size wr V3 := by rw [hV3]; exact (Below.refl _ _).alloc (Nat.le_refl _) _
            have hvb : V3.heap[wr.heap.size]? = some (.cells #[.int .i64 o.entry, .string ⟨o.word.toArray⟩, .int .i64 o.at] 127 (0, 0)) := by rw [hV3]; exact World.alloc_heap_new wr _
            have hrV : V3.heap[wo.heap.size]? = some (.cells #[.int .u8 r.rule, .int .u8 r.kind, .func (.func fo) bd caps, .slice pa r.parts.length pcap, .string ⟨r.glue.toArray⟩] 124 (0, 0)) := (hbV.block _ lrow).trans HRbq.out
            rw [← hV3]
            clear hV3 p0 p1' p2 y0 y1 y2 y3 y4 x0 x3
            have hmvV : Mv R wr V3 := Mv.of_below hokq hbV
            have hokV := hmvV.ok hokq
            have hsV : Since m W0 V3 := HSq.out.below hbV
            have hGV := HR.out.good _ hokV
            refine (parts_all HG.out r HRok.out (.func (.func fo) bd caps) _ HRow.out.parts o.at t hat.2 ht V3 hsV hGV).mono ?_
            rintro _ W4 ⟨rfl, hg4, hG4⟩
            have hmv4 : Mv R wr W4 := hmvV.trans (HR.out.mv hg4 (fun _ => hG4))
            have hok4 := hmv4.ok hokq
            have hk4 := hmv4.kp hokq
            have hs4 : Since m W0 W4 := hsV.grown hg4
            have ke : ∀ (a : Addr) (v : Value), V3.cell? a = some v → W4.cell? a = some v := fun a v hc => ((Since.refl (mapG_map hGV)).grown hg4).cell hc
            have p0 : W4.cell? ⟨wr.heap.size, 0, none⟩ = some (.int .i64 o.entry) := ke _ _ (by simp [World.cell?, hvb])
            have p1 : W4.cell? ⟨wr.heap.size, 1, none⟩ = some (.string ⟨o.word.toArray⟩) := ke _ _ (by simp [World.cell?, hvb])
            have p2 : W4.cell? ⟨wr.heap.size, 2, none⟩ = some (.int .i64 o.at) := ke _ _ (by simp [World.cell?, hvb])
            have y0 : W4.cell? ⟨wo.heap.size, 0, none⟩ = some (.int .u8 r.rule) := ke _ _ (by simp [World.cell?, hrV])
            have y1 : W4.cell? ⟨wo.heap.size, 1, none⟩ = some (.int .u8 r.kind) := ke _ _ (by simp [World.cell?, hrV])
            have y2 : W4.cell? ⟨wo.heap.size, 2, none⟩ = some (.func (.func fo) bd caps) := ke _ _ (by simp [World.cell?, hrV])
            have y3 : W4.cell? ⟨wo.heap.size, 3, none⟩ = some (.slice pa r.parts.length pcap) := ke _ _ (by simp [World.cell?, hrV])
            have y4 : W4.cell? ⟨wo.heap.size, 4, none⟩ = some (.string ⟨r.glue.toArray⟩) := ke _ _ (by simp [World.cell?, hrV])
            obtain ⟨x0, x1, x2, x3⟩ := HCells.out W4 (hkWq.trans hk4)
            obtain ⟨c, hc⟩ : ∃ c, c = partsS g r o.at t := ⟨_, rfl⟩
            rw [← hc]
            obtain ⟨dn, hdn⟩ : ∃ dn, dn = rowsTr g k f t j ++ (os.take q).flatMap (opnTr g r t) := ⟨_, rfl⟩
            have HC4 := Lib.hid hc
            have HJ4 := Lib.hid (show J dn W4 by rw [hdn]; exact (HJ.out _).mv hmv4 hokq HJq.out)
            have HDn := Lib.hid hdn
            have HMv4 := Lib.hid hmv4
            have HS4 := Lib.hid hs4
            clear hc hdn hmv4 hs4 ke hg4 hG4 hvb hrV hbV hmvV hsV hGV
            by_cases hpos : 0 < c
            · have hp1 : decide ((0 : Int) < (c : Int)) = true := by simpa using hpos
              have hp2 : decide (0 < c) = true := by simpa using hpos
              have hop : opnTr g r t o = fillS g r o t := by unfold opnTr; rw [← HC4.out, if_pos hpos]
              have HOp' := Lib.hid hop
              clear hop hpos
              go_wp2_with fail
              refine (fill_box gb r (.func (.func fo) bd caps) fo bd caps rfl pa r.parts.length pcap o t W4).mono ?_
              rintro _ W5 ⟨rfl, hb5, hz5, hBx⟩
              have hmv5 : Mv R W4 W5 := Mv.of_below hok4 hb5
              have hok5 := hmv5.ok hok4
              have hk45 := hmv5.kp hok4
              have hkW5 := (hkWq.trans hk4).trans hk45
              have fr5 : ∀ e, W4.heap.size ≤ e → e < W5.heap.size → R.sf W5 e := fun e h1 h2 => R.fresh hok4 hb5 h1 h2
              have hs5 : Since m W0 W5 := HS4.out.below hb5
              have hsz5 := hkW5.size
              have hsf : FillSf R W4.heap.size W5 := ⟨fr5 _ (by omega) (by omega), fr5 _ (by omega) (by omega), fr5 _ (by omega) (by omega), fr5 _ (by omega) (by omega), fr5 _ (by omega) (by omega)⟩
              have hseqF := fill_seq HG.out HR.out hs5 hok5 r HRok.out (.func (.func fo) bd caps) fo bd caps rfl pa pcap HRow.out.parts f o t W4.heap.size (by omega) HOm.out ht HT.out hlt hBx hsf
              have hj5 : J dn W5 := (HJ.out _).mv hmv5 hok4 HJ4.out
              have hpass := pass_any 123 _ (enters_of Tryz.func123 (by kernel_rfl) rfl) hseqF hok5 l (by omega) (fun p => J (dn ++ p)) (fun p => Jx (dn ++ p)) (fun p => (HJ.out _).mono hsz5) (fun p => (HJx.out _).mono hsz5)
                (fun p2 vs y W1 hj hk1 hok1 hta hp2 => by
                  have h := HY.out (dn ++ p2) vs y W1 hj (hkW5.trans hk1) hok1 hta (by rw [List.append_assoc, HDn.out]; exact HCp.out _ (by rw [HOp'.out]; exact hp2))
                  rw [List.append_assoc] at h
                  exact h) (by simpa using hj5)
              have HPass := Lib.hid hpass
              have HBx := Lib.hid hBx
              have HZ5 := Lib.hid hz5
              clear hpass hseqF hsf fr5 hs5 hj5 hb5 hBx hz5 p0 p1 p2 y0 y1 y2 y3 y4 x0 x1 x2 x3 hmv5
              go_wp2_with fail
              refine HPass.out.mono ?_
              rintro _ V (⟨rfl, hJ6, hk9⟩ | ⟨rfl, p, hp, hJ6, hok6', hk9⟩)
              · have HJ6 := Lib.hid (show J (rowsTr g k f t j ++ (os.take (q + 1)).flatMap (opnTr g r t)) V by rw [HSt2.out, ← List.append_assoc, ← HDn.out, HOp'.out]; exact hJ6)
                clear hJ6
                go_wp2
                go_roundw
                case rel => exact ⟨q + 1, by omega, by go_num, HJ6.out, ((hkq.trans hk4).trans hk45).trans hk9⟩
                case measure => simp [intOf]; omega
              · have HJ6 := Lib.hid hJ6
                have HP := Lib.hid hp
                clear hJ6 hp
                go_wp2
                refine bodyPost_ret (results_none rfl _ _ _) rfl ?_
                exact ⟨⟨_, rfl⟩, .inr ⟨dn ++ p, by rw [HDn.out]; exact HCp.out _ (by rw [HOp'.out]; exact HP.out), HJ6.out, hok6', (hkW5.from _).trans hk9⟩⟩
            · have hp1 : decide ((0 : Int) < (c : Int)) = false := by simpa using hpos
              have hp2 : decide (0 < c) = false := by simpa using hpos
              have hop : opnTr g r t o = [] := by unfold opnTr; rw [← HC4.out, if_neg hpos]
              have HOp' := Lib.hid hop
              clear hop hpos
              go_wp2
              go_roundw
              case rel => exact ⟨q + 1, by omega, by go_num, by rw [HSt2.out, HOp'.out, List.append_nil, ← HDn.out]; exact HJ4.out, hkq.trans hk4⟩
              case measure => simp [intOf]; omega
          · obtain rfl : q = os.length := by omega
            have hfin : rowsTr g k f t (j + 1) = rowsTr g k f t j ++ (os.take os.length).flatMap (opnTr g r t) := by
              rw [rowsTr_step (by exact hjl), ← HR1.out, rowTrees_eq HK.out, ← HOs.out, List.take_length]
            have HFin := Lib.hid hfin
            have HJq := Lib.hid hJq
            clear hfin hJq
            go_wp2
            go_roundw
            case rel => exact ⟨j + 1, by omega, by go_num, by rw [HFin.out]; exact HJq.out, hkWq⟩
            case measure => simp [intOf]; omega
      · have hk2 : ((r.kind : Int) != (k : Int)) = true := by simp; omega
        have hk3 : ((r.kind : Int) == (k : Int)) = false := by simp; omega
        have HK := Lib.hid hk
        clear hk
        go_wp2
        go_roundw
        case rel =>
          have hmv2 : ∀ o, Mv R wr (wr.alloc o) := fun o => Mv.of_below hokr ((Below.refl _ _).alloc (Nat.le_refl _) _)
          refine ⟨j + 1, by omega, by go_num, ?_, hkr.trans ((hmv2 _).kp hokr)⟩
          rw [rowsTr_step (by exact hjl), ← HR1.out]
          unfold rowTrees
          rw [if_neg HK.out, List.append_nil]
          exact (HJ.out _).mv (hmv2 _) hokr HJr.out
        case measure => simp [intOf]; omega
    · obtain rfl : j = 24 := by omega
      clear hj
      go_wp2
      go_end0
      exact ⟨⟨_, rfl⟩, .inl ⟨hJr, hkr⟩⟩

theorem trees_all {m gb : Nat} {g : Gr} {ended : Bool} {W0 : World} (hg : Gram m gb g ended W0) : ∀ (d k f t : Nat), t - f ≤ d → t ≤ g.toks.length → TreesOk m gb g W0 k f t := by
  intro d
  induction d with
  | zero => intro k f t h ht; exact trees_none hg k f t ht (cntS_zero g (by omega))
  | succ d ih =>
    intro k f t h ht
    by_cases h0 : cntS g k f t = 0
    · exact trees_none hg k f t ht h0
    · by_cases hlt : f < t
      · exact trees_step hg k f t hlt ht (by omega) (fun k f' t' _ _ h3 h4 => ih k f' t' (by omega) (by omega))
      · exact absurd (cntS_zero g (by omega)) h0
end Go.Proofs.YthmnffgjckpkiaaGreatDoor
