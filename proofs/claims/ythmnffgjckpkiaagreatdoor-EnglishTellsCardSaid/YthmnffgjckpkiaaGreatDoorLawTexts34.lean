/-
  The walk of 'EnglishTexts'.
-/
import Derived.Test.YthmnffgjckpkiaaGreatDoorRCount
import Derived.Test.YthmnffgjckpkiaaGreatDoorSG
import Derived.Test.YthmnffgjckpkiaaGreatDoorSA
import Derived.Test.YthmnffgjckpkiaaGreatDoorSB
import Derived.Test.YthmnffgjckpkiaaGreatDoorGEngI
namespace Go.Proofs.YthmnffgjckpkiaaGreatDoor
open Go Go.RowKit Go.Shelf

theorem sentence_slim {l : List Ent} {s : List UInt8} {x : Tr} (h : x ∈ (sentenceS l s).1) : Slim x := by
  unfold sentenceS at h
  split at h
  · cases h
  · split at h
    · cases h
    · exact parses_slim h
/-- The small lexicons' length. -/
theorem smallL_len {l : List Ent} (h : smallL l = true) : l.length ≤ 103 := by
  unfold smallL at h
  simp only [Bool.and_eq_true, decide_eq_true_eq] at h
  exact h.1
theorem sentence_len (l : List Ent) (s : List UInt8) : (sentenceS l s).1.length ≤ 64 := by
  unfold sentenceS
  split
  · simp
  · split
    · simp
    · exact parses_len l _
set_option maxRecDepth 100000 in
set_option maxHeartbeats 16000000 in
theorem EnglishTexts_any (W0 w : World) (ht : Tabs W0 w) (lv : Value) (l : List Ent) (hl : EntSlice w lv l) (s : ByteArray) :
    Calls Tryz.prog 3 #[lv, .string s] w fun e w' => e = .returned (.bool true) ∧ Below w.heap.size w w' := by
  have HL := Lib.hid hl
  have HT := Lib.hid ht
  obtain ⟨b1, hb1e⟩ : ∃ b, b = smallL l := ⟨_, rfl⟩
  have hS := Small_any w _ l hl
  rw [← hb1e] at hS
  have HS := Lib.hid hS
  have HSe := Lib.hid hb1e
  clear hl ht hS hb1e
  go_enter Tryz.func3, Tryz.ntmps3
  go_wp2_with fail
  refine HS.out.mono ?_
  rintro _ w2' ⟨rfl, h2⟩
  rw [← h2]
  clear h2 w2' HS
  cases b1
  · go_wp2_with fail
    refine (awake34_any W0 w HT.out).mono ?_
    rintro _ w5 ⟨rfl, hb5⟩
    go_wp2
    go_ret
    exact ⟨rfl, hb5⟩
  by_cases h300 : 300 < s.size
  · have d1 : decide ((300 : Int) < (s.size : Int)) = true := decide_eq_true (by omega)
    have d2 : decide (300 < s.size) = true := decide_eq_true h300
    clear h300
    go_wp2_with fail
    refine (awake34_any W0 w HT.out).mono ?_
    rintro _ w5 ⟨rfl, hb5⟩
    go_wp2
    go_ret
    exact ⟨rfl, hb5⟩
  have d1 : decide ((300 : Int) < (s.size : Int)) = false := decide_eq_false (by omega)
  have d2 : decide (300 < s.size) = false := decide_eq_false h300
  have hcall := Sentence_any W0 w HT.out lv l HL.out s (by omega)
  have hcall2 := fun W v (hv : EntSlice W v l) => rSentence_any W v l hv s (by omega)
  obtain ⟨X, hX⟩ : ∃ X, X = sentenceS l s.data.toList := ⟨_, rfl⟩
  rw [← hX] at hcall hcall2
  have hsl : ∀ x ∈ X.1, Slim x := fun x hx => sentence_slim (hX ▸ hx)
  have h64 : X.1.length ≤ 64 := by rw [hX]; exact sentence_len _ _
  have HCall := Lib.hid hcall
  have HCall2 := Lib.hid hcall2
  have HSl := Lib.hid hsl
  obtain ⟨ts, k, e⟩ := X
  simp only at h64
  clear hcall hcall2 hX hsl h300
  go_wp2_with fail
  refine HCall.out.mono ?_
  rintro _ w3 ⟨rv, rfl, hb3, hfor⟩
  obtain ⟨va, vc, rfl⟩ : ∃ a c, rv = .slice a ts.length c := by obtain ⟨_, _, _, _, hown, _⟩ := hfor; exact owns_form hown
  have HFo := Lib.hid hfor
  have HB3 := Lib.hid hb3
  clear hb3 hfor HCall
  have hcall := Given_any w3 lv l (HL.out.below HB3.out) (by have := smallL_len HSe.out.symm; omega)
  have HCall := Lib.hid hcall
  clear hcall
  go_wp2_with fail
  refine HCall.out.mono ?_
  rintro _ w4 ⟨gv, rfl, hgv, hb4⟩
  have HGv := Lib.hid (entSlice_of_rowR hgv HL.out.2)
  have HB4 := Lib.hid (HB3.out.trans (hb4.mono HB3.out.size))
  have HFo4 := Lib.hid (HFo.out.below hb4)
  clear hgv hb4 HCall HFo
  go_wp2_with fail
  refine (HCall2.out w4 gv HGv.out).mono ?_
  rintro _ w5 ⟨rv2, rfl, htr, hb5⟩
  simp only at htr
  obtain ⟨ua, uc, rfl⟩ := htr.form
  have HTr := Lib.hid htr
  have HB5 := Lib.hid (HB4.out.trans (hb5.mono HB4.out.size))
  have HFo5 := Lib.hid (HFo4.out.below hb5)
  clear htr hb5 HCall2 HFo4
  obtain ⟨n, hn⟩ : ∃ n, n = ts.length := ⟨_, rfl⟩
  rw [← hn] at HFo5 HTr h64 ⊢
  have HN := Lib.hid hn
  have e1 : ((k : Int) != k) = false := by simp
  have e2 : ((e : Int) != e) = false := by simp
  have e3 : ((n : Int) != (n : Int)) = false := by simp
  clear hn
  go_wp2
  go_loopw [11] (fun iv wr => ∃ i : Nat, i ≤ n ∧ iv = .int .i64 i ∧ Below w5.heap.size w5 wr) (fun iv _ => n - (intOf iv).toNat)
  case atStart => exact ⟨0, Nat.zero_le _, rfl, Below.refl _ _⟩
  case round =>
    obtain ⟨i, hi, rfl, hbr⟩ := hrel
    have HBr := Lib.hid hbr
    clear hbr
    by_cases hlt : i < n
    · have hd : decide ((i : Int) < (n : Int)) = true := decide_eq_true (by omega)
      have hd2 : decide (i < n) = true := decide_eq_true hlt
      have his : i < ts.length := by rw [← HN.out]; exact hlt
      have hsl := HSl.out ts[i] (List.getElem_mem his)
      obtain ⟨g1, p1, rfl, ht1, a0, a1, a2, a3⟩ := forG_get HFo5.out hlt his
      obtain ⟨g2, p2, rfl, ht2, c0, c1, c2, c3⟩ := HTr.out.get his
      obtain ⟨t, htt⟩ : ∃ t, t = ts[i] := ⟨_, rfl⟩
      rw [← htt] at hsl ht1 ht2
      have q0 := cell_kept' HBr.out a0
      have q1 := cell_kept' HBr.out a1
      have q2 := cell_kept' HBr.out a2
      have q3 := cell_kept' HBr.out a3
      have k0 := cell_kept' HBr.out c0
      have k1 := cell_kept' HBr.out c1
      have k2 := cell_kept' HBr.out c2
      have k3 := cell_kept' HBr.out c3
      have hv1 := treeV_below ht1 HBr.out
      have hv2 := treeV_below ht2 HBr.out
      have CT : Go.RowKit.Hid (∀ W, Below wr.heap.size wr W → Calls Tryz.prog 19 #[.agg #[.int .u8 p2.r, .int .i64 p2.e, .string p2.w, .slice p2.a p2.n p2.c]] W fun r W' => ∃ p : TV, r = .returned (.agg #[.int .u8 p.r, .int .i64 p.e, .string p.w, .slice p.a p.n p.c]) ∧ TreeV (fun _ => True) W' p.val t ∧ Below wr.heap.size wr W') :=
        Lib.hid (fun W hW => (Taken34_any t hsl W p2.val (treeV_below hv2 hW)).mono fun r W' ⟨v', h1, h2, h3, p, h4, _⟩ => ⟨p, by rw [h1, h4]; rfl, h4 ▸ h2.treeV.move (fun b _ _ => ⟨trivial, rfl⟩), hW.trans (h3.mono hW.size)⟩)
      have CS : Go.RowKit.Hid (∀ (W : World) (p : TV), Below wr.heap.size wr W → TreeV (fun _ => True) W p.val t → Calls Tryz.prog 18 #[.agg #[.int .u8 p1.r, .int .i64 p1.e, .string p1.w, .slice p1.a p1.n p1.c], .agg #[.int .u8 p.r, .int .i64 p.e, .string p.w, .slice p.a p.n p.c]] W fun r W' => r = .returned (.bool true) ∧ Below wr.heap.size wr W') :=
        Lib.hid (fun W p hW hp => (Same34_any t hsl t W p1.val p.val (treeV_below hv1 hW) hp).mono fun r W' ⟨h1, h2⟩ => ⟨by rw [h1, eqT_self], hW.trans (h2.mono hW.size)⟩)
      have hdr : Below wr.heap.size wr wr.drew := (Below.refl _ _).drew
      have yi : IntKind.i64.wrap ((i : Int) + 1) = ((i + 1 : Nat) : Int) := by rw [show (i : Int) + 1 = ((i + 1 : Nat) : Int) by omega]; exact IntWalk.i64_in _ (by omega)
      have b1 : (0 : Int) ≤ (i : Int) := by omega
      have b2 : (i : Int) < (n : Int) := by omega
      clear hsl ht1 ht2 htt a0 a1 a2 a3 c0 c1 c2 c3 hv1 hv2 his
      go_wp2_with fail
      go_region_held3 (fun w' => (w'.cell? ⟨g1, i * 4, none⟩ = some (.int .u8 p1.r) ∧ w'.cell? ⟨g1, i * 4 + 1, none⟩ = some (.int .i64 p1.e) ∧ w'.cell? ⟨g1, i * 4 + 2, none⟩ = some (.string p1.w) ∧ w'.cell? ⟨g1, i * 4 + 3, none⟩ = some (.slice p1.a p1.n p1.c)) ∧ (w'.cell? ⟨g2, i * 4, none⟩ = some (.int .u8 p2.r) ∧ w'.cell? ⟨g2, i * 4 + 1, none⟩ = some (.int .i64 p2.e) ∧ w'.cell? ⟨g2, i * 4 + 2, none⟩ = some (.string p2.w) ∧ w'.cell? ⟨g2, i * 4 + 3, none⟩ = some (.slice p2.a p2.n p2.c)))
        (first | go_keep | exact ⟨⟨cell_kept' (by assumption) q0, cell_kept' (by assumption) q1, cell_kept' (by assumption) q2, cell_kept' (by assumption) q3⟩, ⟨cell_kept' (by assumption) k0, cell_kept' (by assumption) k1, cell_kept' (by assumption) k2, cell_kept' (by assumption) k3⟩⟩)
        (first
          | (go_at_call 19; refine (CT.out _ (by assumption)).mono ?_; rintro r X1 ⟨p4, rfl, hp4, hX1⟩)
          | (go_at_call 18; refine (CS.out _ _ (by assumption) (by assumption)).mono ?_; rintro r X2 ⟨rfl, hX2⟩))
      have HX2 := Lib.hid (HBr.out.trans (hX2.mono HBr.out.size))
      clear hX1 hX2 hp4 q0 q1 q2 q3 k0 k1 k2 k3
      go_wp2
      go_roundw
      case rel => first | exact ⟨i + 1, by omega, by go_num, HX2.out⟩ | ((repeat apply Exists.intro); exact ⟨⟨i + 1, by omega, by go_num, HX2.out⟩, rfl⟩)
      case measure => simp [intOf]; omega
    · have hd : decide ((i : Int) < (n : Int)) = false := decide_eq_false (by omega)
      have hd2 : decide (i < n) = false := decide_eq_false hlt
      clear hlt
      have HB9 := Lib.hid (HB5.out.trans (HBr.out.mono HB5.out.size))
      go_wp2_with fail
      refine (awake34_any W0 wr (HT.out.next HB9.out)).mono ?_
      rintro _ w9 ⟨rfl, hb9⟩
      go_wp2
      go_ret
      exact ⟨rfl, HB9.out.trans (hb9.mono HB9.out.size)⟩
end Go.Proofs.YthmnffgjckpkiaaGreatDoor
