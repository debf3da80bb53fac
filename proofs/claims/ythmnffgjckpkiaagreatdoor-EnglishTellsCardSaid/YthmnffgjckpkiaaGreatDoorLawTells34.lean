/-
  The walk of 'EnglishTells'.
-/
import Derived.Test.YthmnffgjckpkiaaGreatDoorLawTexts34
import Derived.Test.YthmnffgjckpkiaaGreatDoorSH
import Derived.Test.YthmnffgjckpkiaaGreatDoorSA
import Derived.Test.YthmnffgjckpkiaaGreatDoorSB
namespace Go.Proofs.YthmnffgjckpkiaaGreatDoor
open Go Go.RowKit Go.Shelf

/-- The parses of two rows from a place on: they are the same. -/
def PairT (W : World) (g1 g2 : Nat) (ts : List Tr) (f : Nat) : Prop :=
  ∀ j (hj : j < ts.length), f ≤ j → ∃ p1 p2 : TV, TreeV (fun _ => True) W p1.val ts[j] ∧ TreeV (fun _ => True) W p2.val ts[j] ∧
    (W.cell? ⟨g1, j * 4, none⟩ = some (.int .u8 p1.r) ∧ W.cell? ⟨g1, j * 4 + 1, none⟩ = some (.int .i64 p1.e) ∧ W.cell? ⟨g1, j * 4 + 2, none⟩ = some (.string p1.w) ∧ W.cell? ⟨g1, j * 4 + 3, none⟩ = some (.slice p1.a p1.n p1.c)) ∧
    (W.cell? ⟨g2, j * 4, none⟩ = some (.int .u8 p2.r) ∧ W.cell? ⟨g2, j * 4 + 1, none⟩ = some (.int .i64 p2.e) ∧ W.cell? ⟨g2, j * 4 + 2, none⟩ = some (.string p2.w) ∧ W.cell? ⟨g2, j * 4 + 3, none⟩ = some (.slice p2.a p2.n p2.c))
theorem PairT.below {W X : World} {g1 g2 : Nat} {ts : List Tr} {f : Nat} (h : PairT W g1 g2 ts f) (hb : Below W.heap.size W X) : PairT X g1 g2 ts f := fun j hj hf => by
  obtain ⟨p1, p2, h1, h2, ⟨a0, a1, a2, a3⟩, ⟨b0, b1, b2, b3⟩⟩ := h j hj hf
  exact ⟨p1, p2, treeV_below h1 hb, treeV_below h2 hb, ⟨cell_kept' hb a0, cell_kept' hb a1, cell_kept' hb a2, cell_kept' hb a3⟩, ⟨cell_kept' hb b0, cell_kept' hb b1, cell_kept' hb b2, cell_kept' hb b3⟩⟩
theorem forG_block {B0 k : Nat} {a : Option Addr} {c : Nat} {ts : List Tr} {W : World} (h : ForG B0 (.slice a k c) ts k W) (hk : 0 < k) : ∃ g, a = some ⟨g, 0, none⟩ := by
  obtain ⟨qs, L, H, _, hown, _⟩ := h
  rcases hown.2 with ⟨_, h0⟩ | ⟨g, _, _, he, _⟩
  · omega
  · injection he with he _ _; exact ⟨g, he⟩
/-- A parse in a row of the reference, and where it lies. -/
theorem TreesQ.get2 {C B : Nat} {W : World} {a : Option Addr} {n c : Nat} {ts : List Tr} (h : TreesQ C B W (.slice a n c) ts) {j : Nat} (hj : j < ts.length) :
    ∃ g q, a = some ⟨g, 0, none⟩ ∧ B ≤ g ∧ TreeV (fun b => C ≤ b) W (TV.val q) ts[j] ∧ W.cell? ⟨g, j * 4, none⟩ = some (.int .u8 q.r) ∧ W.cell? ⟨g, j * 4 + 1, none⟩ = some (.int .i64 q.e) ∧ W.cell? ⟨g, j * 4 + 2, none⟩ = some (.string q.w) ∧ W.cell? ⟨g, j * 4 + 3, none⟩ = some (.slice q.a q.n q.c) := by
  obtain ⟨qs, h1, h2, h3⟩ := h
  have hjq : j < qs.length := by omega
  obtain ⟨g, cap, he, x0, x1, x2, x3, hx, c0, c1, c2, c3⟩ := h2.cellsAt hjq
  injection he with he _ _
  unfold TV.val at hx
  simp only [Value.agg.injEq, Array.mk.injEq, List.cons.injEq, and_true] at hx
  obtain ⟨rfl, rfl, rfl, rfl⟩ := hx
  subst he
  exact ⟨g, qs[j], rfl, (World.ownsRow.lt h2 g rfl).1, treeV_weak (h3 j hjq hj).1 (fun _ _ h => h.1), c0, c1, c2, c3⟩
/-- The first of the parses that Parses returns, and what is left when it is overwritten. -/
theorem over_left {B0 n : Nat} {g1 c1 : Nat} {ts : List Tr} {WB : World} (h : ForG B0 (.slice (some ⟨g1, 0, none⟩) n c1) ts n WB) (hn : n = ts.length) (h0 : 0 < ts.length) :
    ∃ (vs : Nat → Value) (L H : Nat → Nat), (B0 ≤ L 0 ∧ H 0 ≤ WB.heap.size ∧ B0 ≤ g1 ∧ g1 < WB.heap.size) ∧ ∀ WD, Below WB.heap.size WB WD →
      RowO WD [ts[0]] vs L H (L 0) (H 0) g1 0 0 ∧ ∀ WE, Keeps (L 0) (H 0) g1 0 4 WD WE → ∀ j (hj : j < ts.length), 1 ≤ j → ∃ p : TV, TreeV (fun _ => True) WE p.val ts[j] ∧ WE.cell? ⟨g1, j * 4, none⟩ = some (.int .u8 p.r) ∧ WE.cell? ⟨g1, j * 4 + 1, none⟩ = some (.int .i64 p.e) ∧ WE.cell? ⟨g1, j * 4 + 2, none⟩ = some (.string p.w) ∧ WE.cell? ⟨g1, j * 4 + 3, none⟩ = some (.slice p.a p.n p.c) := by
  obtain ⟨qs, L, H, hk, hown, ht, hin, hdis, hrow⟩ := h
  have hq0 : 0 < qs.length := by omega
  have hg := hrow g1 rfl
  have hlt := World.ownsRow.lt hown g1 rfl
  refine ⟨fun j => match qs[j]? with | some q => q.val | none => .agg #[], L, H, ⟨(hin 0 (by omega)).1, (hin 0 (by omega)).2, hlt.1, hlt.2⟩, fun WD hb => ?_⟩
  have hblk : ∃ cs T, WD.heap[g1]? = some (.cells cs T (0, 0)) := by
    rcases hown.2 with ⟨he, _⟩ | ⟨g, _, cur, he, _, hc, _⟩
    · cases he
    · injection he with he _ _
      injection he with he
      injection he with he
      subst he
      exact ⟨cur, _, (hb.block _ hlt.2).trans hc⟩
  have hcell : ∀ j, j < n → CellsAt WD g1 (j * 4) (match qs[j]? with | some q => q.val | none => .agg #[]) := fun j hj => by
    have hjq : j < qs.length := by omega
    rw [List.getElem?_eq_getElem hjq]
    exact (owns_cells hown j hjq).kept (hb.block _ hlt.2)
  have htree : ∀ j (hj : j < n), TreeI WD (match qs[j]? with | some q => q.val | none => .agg #[]) (ts[j]'(by omega)) (L j) (H j) := fun j hj => by
    have hjq : j < qs.length := by omega
    rw [List.getElem?_eq_getElem hjq]
    exact (ht j hjq (by omega)).stays hb
  refine ⟨⟨hblk, fun j _ hj => ?_, fun j hj _ => ?_, fun j hj => ?_, fun j hj => ?_, fun i j hij hj => ?_⟩, fun WE hk4 j hj hj1 => ?_⟩
  · obtain rfl : j = 0 := by simp at hj; omega
    have := hcell 0 (by omega)
    simpa using this
  · obtain rfl : j = 0 := by simp at hj; omega
    exact htree 0 (by omega)
  · obtain rfl : j = 0 := by simp at hj; omega
    exact hg.2 0 (by omega)
  · obtain rfl : j = 0 := by simp at hj; omega
    exact ⟨Nat.le_refl _, Nat.le_refl _⟩
  · simp at hj; omega
  · have hjn : j < n := by omega
    have hjq : j < qs.length := by omega
    obtain ⟨cs, T, hcs⟩ := hblk
    obtain ⟨cs', hcs', hsame⟩ := hk4.row cs T hcs
    have hc := cellsAt_row (hcell j hjn) hcs hcs' (fun i h1 h2 => hsame i (by omega))
    have htj := htree j hjn
    have hmv := htj.move (W' := WE) (fun c c1 c2 ⟨_, _, hx⟩ => hk4.same c (cell_lt hx) (by have := hg.2 j hjn; omega) (.inr (by have := hdis 0 j (by omega) hjn; omega)))
    rw [List.getElem?_eq_getElem hjq] at hc hmv
    obtain ⟨x0, x1, x2, x3, hx, c0, c1, c2, c3⟩ := hc
    unfold TV.val at hx
    simp only [Value.agg.injEq, Array.mk.injEq, List.cons.injEq, and_true] at hx
    obtain ⟨rfl, rfl, rfl, rfl⟩ := hx
    exact ⟨qs[j], hmv.treeV.move (fun _ _ _ => ⟨trivial, rfl⟩), c0, c1, c2, c3⟩
/-- Behind the overwriting: what was there before the parses, and what came behind them. -/
theorem keeps_below {B0 L0 H0 g1 o e : Nat} {WA WD WE : World} (h : Keeps L0 H0 g1 o e WD WE) (hb : Below WA.heap.size WA WD) (hL : WA.heap.size ≤ L0) (hg : WA.heap.size ≤ g1) (_ : B0 = B0) : Below WA.heap.size WA WE :=
  ⟨h.os.trans hb.os, h.tape.trans hb.tape, h.output.trans hb.output, Nat.le_trans hb.size h.size, fun b hlt => (h.same b (Nat.lt_of_lt_of_le hlt hb.size) (by omega) (.inl (by omega))).trans (hb.block b hlt)⟩
theorem forG_cap {B0 n : Nat} {a : Option Addr} {c : Nat} {ts : List Tr} {W : World} (h : ForG B0 (.slice a n c) ts n W) : n ≤ c := by
  obtain ⟨qs, L, H, _, hown, _⟩ := h
  rcases hown.2 with ⟨he, h0⟩ | ⟨g, _, _, he, _, _, hc, _⟩
  · omega
  · injection he with _ _ he
    omega
set_option maxRecDepth 100000 in
set_option maxHeartbeats 16000000 in
theorem tells_any (W0 w : World) (ht : Tabs W0 w) (lv tv : Value) (l : List Ent) (hl : EntSlice w lv l) (h0 : ∀ n cap, lv = .slice none n cap → lv = .slice none 0 0) (hln : l.length ≤ 103) (toks : List (List UInt8)) (hts : StrSlice w tv toks) (h1 : ∀ n cap, tv = .slice none n cap → tv = .slice none 0 0) (htl : toks.length ≤ 1000) :
    Calls Tryz.prog 21 #[lv, tv] w fun e w' => e = .returned (.bool true) ∧ Below w.heap.size w w' := by
  have HL := Lib.hid hl
  have HT := Lib.hid ht
  have H0 := Lib.hid h0
  have H1 := Lib.hid h1
  have HLn := Lib.hid hln
  have HTs := Lib.hid hts
  have HTl := Lib.hid htl
  have HLa := Lib.hid (show EntSlice (w.alloc (.cells #[] 63)) lv l from hl.below ((Below.refl _ _).alloc (Nat.le_refl _) _))
  clear hl ht h0 h1 hln hts htl
  go_enter Tryz.func21, Tryz.ntmps21
  go_wp2_with (first
    | (at_builtin; refine wpList_append_ents rfl (.tmp 18) (.tmp 19) rfl w.heap.size (.slice (some ⟨w.heap.size, 0, none⟩) 0 0) [] rfl (ownEnts_empty (World.alloc_heap_new _ _) (Nat.le_refl _)) lv l rfl HLa.out H0.out (by have := HLn.out; simp; omega) (by simp) ?_; intro v1 w1 ho1 hg1 hat1; have HO1 := Lib.hid ho1; have HG1 := Lib.hid hg1; clear ho1 hg1 hat1)
    | fail)
  have hb1 : Below w.heap.size w w1 := ((Below.refl w.heap.size w).alloc (Nat.le_refl _) _).grown HG1.out (by simp) (fun k hk => by simp [Value.ownBlock] at hk; omega)
  have HB1 := Lib.hid hb1
  clear hb1
  refine (CopyTexts_any w1 tv toks (HTs.out.below HB1.out) (by have := HTl.out; omega) H1.out).mono ?_
  rintro _ w2 ⟨v2, rfl, hown2, hb2⟩
  have HT2 := Lib.hid (strSlice_of_owns hown2)
  have hlx : EntSlice w1 v1 l := by
    have h := HO1.out
    rw [List.nil_append] at h
    exact entSlice_of_owns h HL.out.2
  have HL2 := Lib.hid (hlx.below hb2)
  have HB2 := Lib.hid (HB1.out.trans (hb2.mono HB1.out.size))
  clear hown2 hlx hb2 HO1 HG1
  go_wp2_with fail
  refine (Given_any w2 lv l (HL.out.below HB2.out) (by have := HLn.out; omega)).mono ?_
  rintro _ w3 ⟨vr, rfl, hor, hb3⟩
  have HR3 := Lib.hid (entSlice_of_rowR hor HL.out.2)
  have HT3 := Lib.hid (HT2.out.below hb3)
  have HL3 := Lib.hid (HL2.out.below hb3)
  have HB3 := Lib.hid (HB2.out.trans (hb3.mono HB2.out.size))
  clear hor hb3 HT2 HL2
  obtain ⟨C, hC⟩ : ∃ C, C = countS l toks := ⟨_, rfl⟩
  have hcall := Count_any W0 w3 (HT.out.next HB3.out) v1 v2 l HL3.out toks HT3.out
  have hcall2 := fun W (hW : Below w3.heap.size w3 W) => rCount_any W vr tv l (HR3.out.below hW) toks (HTs.out.below (HB3.out.trans (hW.mono HB3.out.size)))
  rw [← hC] at hcall hcall2
  have HCall := Lib.hid hcall
  have HCall2 := Lib.hid hcall2
  obtain ⟨ct, ce⟩ := C
  clear hcall hcall2 hC
  go_wp2_with fail
  refine HCall.out.mono ?_
  rintro _ w4 ⟨rfl, hb4⟩
  have HB34 := Lib.hid hb4
  clear hb4 HCall
  go_wp2_with fail
  refine (HCall2.out w4 HB34.out).mono ?_
  rintro _ w5 ⟨rfl, hb5⟩
  have HB35 := Lib.hid (HB34.out.trans (hb5.mono HB34.out.size))
  clear hb5 HCall2 HB34
  have HB5 := Lib.hid (HB3.out.trans (HB35.out.mono HB3.out.size))
  have HL6 := Lib.hid (HL3.out.below HB35.out)
  have HT6 := Lib.hid (HT3.out.below HB35.out)
  have HR6 := Lib.hid (HR3.out.below HB35.out)
  have HLv6 := Lib.hid (HL.out.below HB5.out)
  have HTv6 := Lib.hid (HTs.out.below HB5.out)
  have HB6 : Go.RowKit.Hid (Below w.heap.size w w5) := HB5
  have HTab := Lib.hid (HT.out.next HB5.out)
  clear HB35 HB3 HL3 HT3 HR3 HB5
  obtain ⟨P, hP⟩ : ∃ P, P = parsesS l toks := ⟨_, rfl⟩
  have hcall := Parses_any W0 w5 HTab.out v1 v2 l HL6.out toks HT6.out
  have hcall2 := fun W (hW : Below w5.heap.size w5 W) => rParses_any W vr tv l (HR6.out.below hW) toks (HTv6.out.below hW)
  rw [← hP] at hcall hcall2
  have hsl : ∀ x ∈ P.1, Slim x := fun x hx => parses_slim (hP ▸ hx)
  have h64 : P.1.length ≤ 64 := by rw [hP]; exact parses_len l toks
  have HCall := Lib.hid hcall
  have HCall2 := Lib.hid hcall2
  have HSl := Lib.hid hsl
  obtain ⟨ts, pe⟩ := P
  simp only at h64
  clear hcall hcall2 hP hsl
  go_wp2_with fail
  refine HCall.out.mono ?_
  rintro _ w6 ⟨rv, rfl, hb6, hfor⟩
  simp only at hfor
  obtain ⟨va, vc, rfl⟩ : ∃ a c, rv = .slice a ts.length c := by obtain ⟨_, _, _, _, hown, _⟩ := hfor; exact owns_form hown
  have HFo := Lib.hid hfor
  have HB56 := Lib.hid hb6
  clear hb6 hfor HCall
  go_wp2_with fail
  refine (HCall2.out w6 HB56.out).mono ?_
  rintro _ w7 ⟨rv2, rfl, htr, hb7⟩
  simp only at htr
  obtain ⟨ua, uc, rfl⟩ := htr.form
  have HTr := Lib.hid htr
  have HB67 := Lib.hid hb7
  have HB57 := Lib.hid (HB56.out.trans (hb7.mono HB56.out.size))
  clear htr hb7 HCall2
  obtain ⟨n, hn⟩ : ∃ n, n = ts.length := ⟨_, rfl⟩
  rw [← hn] at HFo HTr h64 ⊢
  have HN := Lib.hid hn
  have e1 : ((ct : Int) != (ct : Int)) = false := by simp
  have e2 : ((ce : Int) != ce) = false := by simp
  have e3 : ((pe : Int) != pe) = false := by simp
  have e4 : ((n : Int) != (n : Int)) = false := by simp
  clear hn
  have hpair : 0 < n → ∃ g1 g2, va = some ⟨g1, 0, none⟩ ∧ ua = some ⟨g2, 0, none⟩ ∧ PairT w7 g1 g2 ts 0 := fun hpos => by
    obtain ⟨g1, rfl⟩ := forG_block HFo.out hpos
    obtain ⟨g2, _, hue, _⟩ := HTr.out.get2 (j := 0) (by rw [← HN.out]; exact hpos)
    subst hue
    refine ⟨g1, g2, rfl, rfl, fun j hj _ => ?_⟩
    obtain ⟨g1', p1, h1, ht1, a0, a1, a2, a3⟩ := forG_get (HFo.out.below HB67.out) (j := j) (by rw [HN.out]; exact hj) hj
    obtain ⟨g2', p2, h2, _, ht2, b0, b1, b2, b3⟩ := HTr.out.get2 hj
    injection h1 with h1
    injection h1 with h1
    injection h2 with h2
    injection h2 with h2
    subst h1 h2
    exact ⟨p1, p2, ht1, treeV_weak ht2 (fun _ _ _ => trivial), ⟨a0, a1, a2, a3⟩, ⟨b0, b1, b2, b3⟩⟩
  by_cases hn0 : n = 0
  · subst hn0
    clear hpair
    go_wp2
    go_loopw [16] (fun iv wr => iv = .int .i64 ((0 : Nat) : Int) ∧ Below w7.heap.size w7 wr) (fun _ _ => 0)
    case atStart => exact ⟨rfl, Below.refl _ _⟩
    case round =>
      obtain ⟨rfl, hbr⟩ := hrel
      have HBr := Lib.hid hbr
      clear hbr
      have HBE := Lib.hid (HB57.out.trans (HBr.out.mono HB57.out.size))
      have CY : Go.RowKit.Hid (∀ W, Below wr.heap.size wr W → Calls Tryz.prog 46 #[v1, lv] W fun r W' => r = .returned (.bool true) ∧ Below wr.heap.size wr W') := Lib.hid (fun W hW => (Same_eq W v1 lv l (HL6.out.below (HBE.out.trans (hW.mono HBE.out.size))) (HLv6.out.below (HBE.out.trans (hW.mono HBE.out.size)))).mono fun r W' ⟨h1, h2⟩ => ⟨h1, hW.trans (h2.mono hW.size)⟩)
      have CZ : Go.RowKit.Hid (∀ W, Below wr.heap.size wr W → Calls Tryz.prog 32 #[v2, tv] W fun r W' => r = .returned (.bool true) ∧ Below wr.heap.size wr W') := Lib.hid (fun W hW => (SameTexts_any W v2 tv toks toks (HT6.out.below (HBE.out.trans (hW.mono HBE.out.size))) (HTv6.out.below (HBE.out.trans (hW.mono HBE.out.size))) (by have := HTl.out; omega)).mono fun r W' ⟨h1, h2⟩ => ⟨by rw [h1]; simp, hW.trans (h2.mono hW.size)⟩)
      go_wp2_with fail
      refine (CY.out _ (Below.refl _ _)).mono ?_
      rintro _ X7 ⟨rfl, hX7⟩
      go_wp2_with fail
      refine (CZ.out _ hX7).mono ?_
      rintro _ X8 ⟨rfl, hX8⟩
      have HX8 := Lib.hid (HB6.out.trans ((HBE.out.trans (hX8.mono HBE.out.size)).mono HB6.out.size))
      clear hX7 hX8
      go_wp2
      go_ret
      exact ⟨by first | rfl | simp, HX8.out⟩
  · have hpos : 0 < n := by omega
    obtain ⟨g1, g2, rfl, rfl, hpr⟩ := hpair hpos
    have HPr := Lib.hid hpr
    clear hpair hpr hn0
    go_wp2
    go_loopw [16] (fun iv wr => ∃ i : Nat, 0 ≤ i ∧ i ≤ n ∧ iv = .int .i64 i ∧ Below w7.heap.size w7 wr) (fun iv _ => n - (intOf iv).toNat)
    case atStart => exact ⟨0, Nat.le_refl _, by omega, rfl, Below.refl _ _⟩
    case round =>
      obtain ⟨i, hi0, hi, rfl, hbr⟩ := hrel
      have HBr := Lib.hid hbr
      clear hbr
      by_cases hlt : i < n
      · have hd : decide ((i : Int) < (n : Int)) = true := decide_eq_true (by omega)
        have hd2 : decide (i < n) = true := decide_eq_true hlt
        have his : i < ts.length := by rw [← HN.out]; exact hlt
        have hsl := HSl.out ts[i] (List.getElem_mem his)
        obtain ⟨p1, p2, ht1, ht2, ⟨a0, a1, a2, a3⟩, ⟨c0, c1, c2, c3⟩⟩ := HPr.out i his hi0
        obtain ⟨t, htt⟩ : ∃ t, t = ts[i] := ⟨_, rfl⟩
        rw [← htt] at hsl ht1 ht2
        have q0 := cell_kept' HBr.out a0
        have q1 := cell_kept' HBr.out a1
        have q2 := cell_kept' HBr.out a2
        have q3 := cell_kept' HBr.out a3
        have k0 := cell_kept' HBr.out c0
        have k1 := cell_kept' HBr.out c1
        have k2 := cell_kept' HBr.out c2
        have k3 := cell_kept' HBr.out c3
        have hv1 := treeV_below ht1 HBr.out
        have hv2 := treeV_below ht2 HBr.out
        have CT : Go.RowKit.Hid (∀ W, Below wr.heap.size wr W → Calls Tryz.prog 19 #[.agg #[.int .u8 p2.r, .int .i64 p2.e, .string p2.w, .slice p2.a p2.n p2.c]] W fun r W' => ∃ p : TV, r = .returned (.agg #[.int .u8 p.r, .int .i64 p.e, .string p.w, .slice p.a p.n p.c]) ∧ TreeV (fun _ => True) W' p.val t ∧ Below wr.heap.size wr W') :=
          Lib.hid (fun W hW => (Taken34_any t hsl W p2.val (treeV_below hv2 hW)).mono fun r W' ⟨v', h1, h2, h3, p, h4, _⟩ => ⟨p, by rw [h1, h4]; rfl, h4 ▸ h2.treeV.move (fun b _ _ => ⟨trivial, rfl⟩), hW.trans (h3.mono hW.size)⟩)
        have CS : Go.RowKit.Hid (∀ (W : World) (p : TV), Below wr.heap.size wr W → TreeV (fun _ => True) W p.val t → Calls Tryz.prog 18 #[.agg #[.int .u8 p1.r, .int .i64 p1.e, .string p1.w, .slice p1.a p1.n p1.c], .agg #[.int .u8 p.r, .int .i64 p.e, .string p.w, .slice p.a p.n p.c]] W fun r W' => r = .returned (.bool true) ∧ Below wr.heap.size wr W') :=
          Lib.hid (fun W p hW hp => (Same34_any t hsl t W p1.val p.val (treeV_below hv1 hW) hp).mono fun r W' ⟨h1, h2⟩ => ⟨by rw [h1, eqT_self], hW.trans (h2.mono hW.size)⟩)
        have hdr : Below wr.heap.size wr wr.drew := (Below.refl _ _).drew
        have yi : IntKind.i64.wrap ((i : Int) + 1) = ((i + 1 : Nat) : Int) := by rw [show (i : Int) + 1 = ((i + 1 : Nat) : Int) by omega]; exact IntWalk.i64_in _ (by omega)
        have b1 : (0 : Int) ≤ (i : Int) := by omega
        have b2 : (i : Int) < (n : Int) := by omega
        clear hsl ht1 ht2 htt a0 a1 a2 a3 c0 c1 c2 c3 hv1 hv2 his
        go_wp2_with fail
        go_region_held3 (fun w' => (w'.cell? ⟨g1, i * 4, none⟩ = some (.int .u8 p1.r) ∧ w'.cell? ⟨g1, i * 4 + 1, none⟩ = some (.int .i64 p1.e) ∧ w'.cell? ⟨g1, i * 4 + 2, none⟩ = some (.string p1.w) ∧ w'.cell? ⟨g1, i * 4 + 3, none⟩ = some (.slice p1.a p1.n p1.c)) ∧ (w'.cell? ⟨g2, i * 4, none⟩ = some (.int .u8 p2.r) ∧ w'.cell? ⟨g2, i * 4 + 1, none⟩ = some (.int .i64 p2.e) ∧ w'.cell? ⟨g2, i * 4 + 2, none⟩ = some (.string p2.w) ∧ w'.cell? ⟨g2, i * 4 + 3, none⟩ = some (.slice p2.a p2.n p2.c)))
          (first | go_keep | exact ⟨⟨cell_kept' (by assumption) q0, cell_kept' (by assumption) q1, cell_kept' (by assumption) q2, cell_kept' (by assumption) q3⟩, ⟨cell_kept' (by assumption) k0, cell_kept' (by assumption) k1, cell_kept' (by assumption) k2, cell_kept' (by assumption) k3⟩⟩)
          (first
            | (go_at_call 19; refine (CT.out _ (by assumption)).mono ?_; rintro r X1 ⟨p4, rfl, hp4, hX1⟩)
            | (go_at_call 18; refine (CS.out _ _ (by assumption) (by assumption)).mono ?_; rintro r X2 ⟨rfl, hX2⟩))
        have HX2 := Lib.hid (HBr.out.trans (hX2.mono HBr.out.size))
        clear hX1 hX2 hp4 q0 q1 q2 q3 k0 k1 k2 k3
        go_wp2
        go_roundw
        case rel => first | exact ⟨i + 1, by omega, by omega, by go_num, HX2.out⟩ | ((repeat apply Exists.intro); exact ⟨⟨i + 1, by omega, by omega, by go_num, HX2.out⟩, rfl⟩)
        case measure => simp [intOf]; omega
      · have hd : decide ((i : Int) < (n : Int)) = false := decide_eq_false (by omega)
        have hd2 : decide (i < n) = false := decide_eq_false hlt
        clear hlt
        by_cases h1n : 1 < n
        · have d1 : decide ((1 : Int) < (n : Int)) = true := decide_eq_true (by omega)
          have d2 : decide (1 < n) = true := decide_eq_true h1n
          obtain ⟨vs, L, H, ⟨o1, o2, o3, o4⟩, hov⟩ := over_left HFo.out HN.out (by rw [← HN.out]; exact hpos)
          have hbd : Below w6.heap.size w6 wr := HB67.out.trans (HBr.out.mono HB67.out.size)
          obtain ⟨hro, hleft⟩ := hov wr hbd
          have hpd := HPr.out.below HBr.out
          have hts0 : Slim ts[0] := HSl.out _ (List.getElem_mem (by rw [← HN.out]; exact hpos))
          have hover := over_any (sizesT [ts[0]'(by rw [← HN.out]; exact hpos)]) [ts[0]'(by rw [← HN.out]; exact hpos)] (Nat.le_refl _) (by simp) (fun t ht => by rw [List.mem_singleton.1 ht]; exact hts0) wr (some ⟨g1, 0, none⟩) vc g1 0 (L 0) (H 0) vs L H (fun _ => ⟨rfl, hro⟩)
          have HOver := Lib.hid hover
          have HLeft := Lib.hid hleft
          have HO := Lib.hid (And.intro o1 (And.intro o2 (And.intro o3 o4)))
          have HPd := Lib.hid hpd
          have HBd := Lib.hid (HB57.out.trans (HBr.out.mono HB57.out.size))
          have HBd6 := Lib.hid hbd
          have z1 : (1 : Int) ≤ (vc : Int) := by have := forG_cap HFo.out; omega
          have z2 : 1 ≤ vc := by omega
          clear hov hro hleft hpd hts0 hover o1 o2 o3 o4 hbd
          go_wp2_with fail
          refine HOver.out.mono ?_
          rintro _ w9 ⟨⟨rv9, rfl⟩, _, hk9⟩
          have hk := hk9 (by simp)
          have hbe := keeps_below (B0 := 0) hk HBd.out HO.out.1 HO.out.2.2.1 rfl
          have hpe : PairT w9 g1 g2 ts 1 := fun j hj hj1 => by
            obtain ⟨p, q1, q2, q3, q4, q5⟩ := HLeft.out w9 hk j hj hj1
            obtain ⟨g2', p2, h2, hg2, ht2, b0, b1, b2, b3⟩ := HTr.out.get2 hj
            injection h2 with h2
            injection h2 with h2
            subst h2
            have hx : ∀ b, w6.heap.size ≤ b → b < w7.heap.size → w9.heap[b]? = w7.heap[b]? := fun b h1 h2 => by
              refine (hk.same b (Nat.lt_of_lt_of_le h2 HBr.out.size) (by have := HO.out.2.2.2; omega) (.inr (by have := HO.out.2.1; omega))).trans (HBr.out.block b h2)
            have hc : ∀ {k : Nat} {v : Value}, w7.cell? ⟨g2, k, none⟩ = some v → w9.cell? ⟨g2, k, none⟩ = some v := fun {k v} h => (World.cell?_of_block (a := ⟨g2, k, none⟩) (hx g2 hg2 (cell_lt h))).trans h
            exact ⟨p, p2, q1, ht2.move (fun b hb ⟨_, _, hc⟩ => ⟨trivial, hx b hb (cell_lt hc)⟩), ⟨q2, q3, q4, q5⟩, ⟨hc b0, hc b1, hc b2, hc b3⟩⟩
          have HPe := Lib.hid hpe
          have HB9 := Lib.hid hbe
          clear hk9 hk hbe hpe
          go_wp2
          go_loopw [17] (fun iv wr => ∃ i : Nat, 1 ≤ i ∧ i ≤ n ∧ iv = .int .i64 i ∧ Below w9.heap.size w9 wr) (fun iv _ => n - (intOf iv).toNat)
          case atStart => exact ⟨1, Nat.le_refl _, by omega, rfl, Below.refl _ _⟩
          case round =>
            obtain ⟨i, hi0, hi, rfl, hbr⟩ := hrel
            have HBr := Lib.hid hbr
            clear hbr
            by_cases hlt : i < n
            · have hd : decide ((i : Int) < (n : Int)) = true := decide_eq_true (by omega)
              have hd2 : decide (i < n) = true := decide_eq_true hlt
              have his : i < ts.length := by rw [← HN.out]; exact hlt
              have hsl := HSl.out ts[i] (List.getElem_mem his)
              obtain ⟨p1, p2, ht1, ht2, ⟨a0, a1, a2, a3⟩, ⟨c0, c1, c2, c3⟩⟩ := HPe.out i his hi0
              obtain ⟨t, htt⟩ : ∃ t, t = ts[i] := ⟨_, rfl⟩
              rw [← htt] at hsl ht1 ht2
              have q0 := cell_kept' HBr.out a0
              have q1 := cell_kept' HBr.out a1
              have q2 := cell_kept' HBr.out a2
              have q3 := cell_kept' HBr.out a3
              have k0 := cell_kept' HBr.out c0
              have k1 := cell_kept' HBr.out c1
              have k2 := cell_kept' HBr.out c2
              have k3 := cell_kept' HBr.out c3
              have hv1 := treeV_below ht1 HBr.out
              have hv2 := treeV_below ht2 HBr.out
              have CT : Go.RowKit.Hid (∀ W, Below wr.heap.size wr W → Calls Tryz.prog 19 #[.agg #[.int .u8 p2.r, .int .i64 p2.e, .string p2.w, .slice p2.a p2.n p2.c]] W fun r W' => ∃ p : TV, r = .returned (.agg #[.int .u8 p.r, .int .i64 p.e, .string p.w, .slice p.a p.n p.c]) ∧ TreeV (fun _ => True) W' p.val t ∧ Below wr.heap.size wr W') :=
                Lib.hid (fun W hW => (Taken34_any t hsl W p2.val (treeV_below hv2 hW)).mono fun r W' ⟨v', h1, h2, h3, p, h4, _⟩ => ⟨p, by rw [h1, h4]; rfl, h4 ▸ h2.treeV.move (fun b _ _ => ⟨trivial, rfl⟩), hW.trans (h3.mono hW.size)⟩)
              have CS : Go.RowKit.Hid (∀ (W : World) (p : TV), Below wr.heap.size wr W → TreeV (fun _ => True) W p.val t → Calls Tryz.prog 18 #[.agg #[.int .u8 p1.r, .int .i64 p1.e, .string p1.w, .slice p1.a p1.n p1.c], .agg #[.int .u8 p.r, .int .i64 p.e, .string p.w, .slice p.a p.n p.c]] W fun r W' => r = .returned (.bool true) ∧ Below wr.heap.size wr W') :=
                Lib.hid (fun W p hW hp => (Same34_any t hsl t W p1.val p.val (treeV_below hv1 hW) hp).mono fun r W' ⟨h1, h2⟩ => ⟨by rw [h1, eqT_self], hW.trans (h2.mono hW.size)⟩)
              have hdr : Below wr.heap.size wr wr.drew := (Below.refl _ _).drew
              have yi : IntKind.i64.wrap ((i : Int) + 1) = ((i + 1 : Nat) : Int) := by rw [show (i : Int) + 1 = ((i + 1 : Nat) : Int) by omega]; exact IntWalk.i64_in _ (by omega)
              have b1 : (0 : Int) ≤ (i : Int) := by omega
              have b2 : (i : Int) < (n : Int) := by omega
              clear hsl ht1 ht2 htt a0 a1 a2 a3 c0 c1 c2 c3 hv1 hv2 his
              go_wp2_with fail
              go_region_held3 (fun w' => (w'.cell? ⟨g1, i * 4, none⟩ = some (.int .u8 p1.r) ∧ w'.cell? ⟨g1, i * 4 + 1, none⟩ = some (.int .i64 p1.e) ∧ w'.cell? ⟨g1, i * 4 + 2, none⟩ = some (.string p1.w) ∧ w'.cell? ⟨g1, i * 4 + 3, none⟩ = some (.slice p1.a p1.n p1.c)) ∧ (w'.cell? ⟨g2, i * 4, none⟩ = some (.int .u8 p2.r) ∧ w'.cell? ⟨g2, i * 4 + 1, none⟩ = some (.int .i64 p2.e) ∧ w'.cell? ⟨g2, i * 4 + 2, none⟩ = some (.string p2.w) ∧ w'.cell? ⟨g2, i * 4 + 3, none⟩ = some (.slice p2.a p2.n p2.c)))
                (first | go_keep | exact ⟨⟨cell_kept' (by assumption) q0, cell_kept' (by assumption) q1, cell_kept' (by assumption) q2, cell_kept' (by assumption) q3⟩, ⟨cell_kept' (by assumption) k0, cell_kept' (by assumption) k1, cell_kept' (by assumption) k2, cell_kept' (by assumption) k3⟩⟩)
                (first
                  | (go_at_call 19; refine (CT.out _ (by assumption)).mono ?_; rintro r X1 ⟨p4, rfl, hp4, hX1⟩)
                  | (go_at_call 18; refine (CS.out _ _ (by assumption) (by assumption)).mono ?_; rintro r X2 ⟨rfl, hX2⟩))
              have HX2 := Lib.hid (HBr.out.trans (hX2.mono HBr.out.size))
              clear hX1 hX2 hp4 q0 q1 q2 q3 k0 k1 k2 k3
              go_wp2
              go_roundw
              case rel => first | exact ⟨i + 1, by omega, by omega, by go_num, HX2.out⟩ | ((repeat apply Exists.intro); exact ⟨⟨i + 1, by omega, by omega, by go_num, HX2.out⟩, rfl⟩)
              case measure => simp [intOf]; omega
            · have hd : decide ((i : Int) < (n : Int)) = false := decide_eq_false (by omega)
              have hd2 : decide (i < n) = false := decide_eq_false hlt
              clear hlt
              have HBE := Lib.hid (HB9.out.trans (HBr.out.mono HB9.out.size))
              have CY : Go.RowKit.Hid (∀ W, Below wr.heap.size wr W → Calls Tryz.prog 46 #[v1, lv] W fun r W' => r = .returned (.bool true) ∧ Below wr.heap.size wr W') := Lib.hid (fun W hW => (Same_eq W v1 lv l (HL6.out.below (HBE.out.trans (hW.mono HBE.out.size))) (HLv6.out.below (HBE.out.trans (hW.mono HBE.out.size)))).mono fun r W' ⟨h1, h2⟩ => ⟨h1, hW.trans (h2.mono hW.size)⟩)
              have CZ : Go.RowKit.Hid (∀ W, Below wr.heap.size wr W → Calls Tryz.prog 32 #[v2, tv] W fun r W' => r = .returned (.bool true) ∧ Below wr.heap.size wr W') := Lib.hid (fun W hW => (SameTexts_any W v2 tv toks toks (HT6.out.below (HBE.out.trans (hW.mono HBE.out.size))) (HTv6.out.below (HBE.out.trans (hW.mono HBE.out.size))) (by have := HTl.out; omega)).mono fun r W' ⟨h1, h2⟩ => ⟨by rw [h1]; simp, hW.trans (h2.mono hW.size)⟩)
              go_wp2_with fail
              refine (CY.out _ (Below.refl _ _)).mono ?_
              rintro _ X7 ⟨rfl, hX7⟩
              go_wp2_with fail
              refine (CZ.out _ hX7).mono ?_
              rintro _ X8 ⟨rfl, hX8⟩
              have HX8 := Lib.hid (HB6.out.trans ((HBE.out.trans (hX8.mono HBE.out.size)).mono HB6.out.size))
              clear hX7 hX8
              go_wp2
              go_ret
              exact ⟨by first | rfl | simp, HX8.out⟩
        · have d1 : decide ((1 : Int) < (n : Int)) = false := decide_eq_false (by omega)
          have d2 : decide (1 < n) = false := decide_eq_false h1n
          have HBE := Lib.hid (HB57.out.trans (HBr.out.mono HB57.out.size))
          have CY : Go.RowKit.Hid (∀ W, Below wr.heap.size wr W → Calls Tryz.prog 46 #[v1, lv] W fun r W' => r = .returned (.bool true) ∧ Below wr.heap.size wr W') := Lib.hid (fun W hW => (Same_eq W v1 lv l (HL6.out.below (HBE.out.trans (hW.mono HBE.out.size))) (HLv6.out.below (HBE.out.trans (hW.mono HBE.out.size)))).mono fun r W' ⟨h1, h2⟩ => ⟨h1, hW.trans (h2.mono hW.size)⟩)
          have CZ : Go.RowKit.Hid (∀ W, Below wr.heap.size wr W → Calls Tryz.prog 32 #[v2, tv] W fun r W' => r = .returned (.bool true) ∧ Below wr.heap.size wr W') := Lib.hid (fun W hW => (SameTexts_any W v2 tv toks toks (HT6.out.below (HBE.out.trans (hW.mono HBE.out.size))) (HTv6.out.below (HBE.out.trans (hW.mono HBE.out.size))) (by have := HTl.out; omega)).mono fun r W' ⟨h1, h2⟩ => ⟨by rw [h1]; simp, hW.trans (h2.mono hW.size)⟩)
          go_wp2_with fail
          refine (CY.out _ (Below.refl _ _)).mono ?_
          rintro _ X7 ⟨rfl, hX7⟩
          go_wp2_with fail
          refine (CZ.out _ hX7).mono ?_
          rintro _ X8 ⟨rfl, hX8⟩
          have HX8 := Lib.hid (HB6.out.trans ((HBE.out.trans (hX8.mono HBE.out.size)).mono HB6.out.size))
          clear hX7 hX8
          go_wp2
          go_ret
          exact ⟨by first | rfl | simp, HX8.out⟩
set_option maxRecDepth 100000 in
set_option maxHeartbeats 4000000 in
theorem EnglishTells_any (W0 w : World) (ht : Tabs W0 w) (lv tv : Value) (l : List Ent) (hl : EntSlice w lv l) (h0 : ∀ n cap, lv = .slice none n cap → lv = .slice none 0 0) (toks : List (List UInt8)) (hts : StrSlice w tv toks) (h1 : ∀ n cap, tv = .slice none n cap → tv = .slice none 0 0) :
    Calls Tryz.prog 4 #[lv, tv] w fun e w' => e = .returned (.bool true) ∧ Below w.heap.size w w' := by
  obtain ⟨b1, hb1e⟩ : ∃ b, b = smallL l := ⟨_, rfl⟩
  have hS := Small_any w _ l hl
  rw [← hb1e] at hS
  obtain ⟨b2, hb2e⟩ : ∃ b, b = shortS toks := ⟨_, rfl⟩
  have hSh := Short34_any w _ toks hts
  rw [← hb2e] at hSh
  have HS := Lib.hid hS
  have HSh := Lib.hid hSh
  have HSe := Lib.hid hb1e
  have HShe := Lib.hid hb2e
  have HL := Lib.hid hl
  have HT := Lib.hid ht
  have H0 := Lib.hid h0
  have H1 := Lib.hid h1
  have HTs := Lib.hid hts
  clear hl ht h0 h1 hts hS hSh hb1e hb2e
  go_enter Tryz.func4, Tryz.ntmps4
  go_wp2_with fail
  refine HS.out.mono ?_
  rintro _ w2' ⟨rfl, h2⟩
  rw [← h2]
  clear h2 w2' HS
  cases b1
  · go_wp2_with fail
    refine (awake34_any W0 w HT.out).mono ?_
    rintro _ w5 ⟨rfl, hb5⟩
    go_wp2
    go_ret
    exact ⟨by first | rfl | simp, hb5⟩
  go_wp2_with fail
  refine HSh.out.mono ?_
  rintro _ w2' ⟨rfl, h2⟩
  rw [← h2]
  clear h2 w2' HSh
  cases b2
  · go_wp2_with fail
    refine (awake34_any W0 w HT.out).mono ?_
    rintro _ w5 ⟨rfl, hb5⟩
    go_wp2
    go_ret
    exact ⟨by first | rfl | simp, hb5⟩
  have hcall := tells_any W0 w HT.out lv tv l HL.out H0.out (smallL_len HSe.out.symm) toks HTs.out H1.out (by
    have h := HShe.out.symm
    unfold shortS at h
    simp only [Bool.and_eq_true, decide_eq_true_eq] at h
    omega)
  have HCall := Lib.hid hcall
  clear hcall
  go_wp2_with fail
  refine HCall.out.mono ?_
  rintro _ w3 ⟨rfl, hb3⟩
  have HB3 := Lib.hid hb3
  clear hb3
  go_wp2_with fail
  refine (awake34_any W0 w3 (HT.out.next HB3.out)).mono ?_
  rintro _ w5 ⟨rfl, hb5⟩
  have HB5 := Lib.hid (HB3.out.trans (hb5.mono HB3.out.size))
  clear hb5
  go_wp2
  go_ret
  exact ⟨by first | rfl | simp, HB5.out⟩
end Go.Proofs.YthmnffgjckpkiaaGreatDoor
