/-
  The iterator 'splits' of package english: where two parts can be parted.
-/
import Derived.Test.YthmnffgjckpkiaaGreatDoorEngG
import Derived.Test.YthmnffgjckpkiaaGreatDoorHeldIn
import Derived.Sort.QuietIn
import Derived.RangeFuncCalls
namespace Go.Proofs.YthmnffgjckpkiaaGreatDoor
open Go Go.RowKit Go.Shelf
attribute [local go_sem] Oper.semAt_some

/-- The places from k on. -/
def splitsFrom (g : Gr) (glue : List UInt8) (k t : Nat) : List (Nat × Nat) := ((List.range (t - k)).map (· + k)).filterMap (splitAt g glue)
theorem splitsFrom_end {g : Gr} {glue : List UInt8} {k t : Nat} (h : t ≤ k) : splitsFrom g glue k t = [] := by
  unfold splitsFrom; rw [Nat.sub_eq_zero_of_le h]; rfl
theorem splitsFrom_step {g : Gr} {glue : List UInt8} {k t : Nat} (h : k < t) : splitsFrom g glue k t = (splitAt g glue k).toList ++ splitsFrom g glue (k + 1) t := by
  unfold splitsFrom
  have h1 : (List.range (t - k)).map (· + k) = k :: (List.range (t - (k + 1))).map (· + (k + 1)) := by
    rw [show t - k = (t - (k + 1)) + 1 by omega, List.range_succ_eq_map]
    simp only [List.map_cons, List.map_map, Nat.zero_add]
    congr 1
    refine List.map_congr_left fun i _ => ?_
    simp only [Function.comp, Nat.succ_eq_add_one]; omega
  rw [h1, List.filterMap_cons]
  cases splitAt g glue k <;> simp

theorem splits_any (gb f t : Nat) (r : RowS) (fv pv : Value) (w : World) :
    Calls Tryz.prog 122 #[.pointer (some ⟨gb, 0, none⟩), rowV r fv pv, .int .i64 f, .int .i64 t] w fun e w' =>
      e = .returned (.func (.func 159) #[] #[.pointer (some ⟨w.heap.size + 1 + 1, 0, none⟩), .pointer (some ⟨w.heap.size + 1 + 1 + 1, 0, none⟩), .pointer (some ⟨w.heap.size + 1, 0, none⟩), .pointer (some ⟨w.heap.size, 0, none⟩)]) ∧
      (((w.alloc (.cells #[.pointer (some ⟨gb, 0, none⟩)] 77)).alloc (.cells #[.int .u8 r.rule, .int .u8 r.kind, fv, pv, strVal r.glue] 124)).alloc (.cells #[.int .i64 f] 3)).alloc (.cells #[.int .i64 t] 3) = w' := by
  unfold rowV
  go_enter Tryz.func122, Tryz.ntmps122
  go_wp2
  go_ret
  exact ⟨rfl, rfl⟩

set_option maxRecDepth 100000 in
set_option maxHeartbeats 4000000 in
theorem splits_seq {m gb : Nat} {g : Gr} {ended : Bool} {W0 : World} (hg : Gram m gb g ended W0) {R : Rg} (hR : Leaves R m W0) {w : World} (hs : Since m W0 w) (hok : R.ok w)
    (f t : Nat) (hf : f ≤ t) (ht : t ≤ g.toks.length) (glue : List UInt8) (bf bt br bg : Nat)
    (cf : w.cell? ⟨bf, 0, none⟩ = some (.int .i64 f)) (ct : w.cell? ⟨bt, 0, none⟩ = some (.int .i64 t)) (cr : w.cell? ⟨br, 4, none⟩ = some (strVal glue)) (cg : w.cell? ⟨bg, 0, none⟩ = some (.pointer (some ⟨gb, 0, none⟩)))
    (sf : R.sf w bf) (st : R.sf w bt) (sr : R.sf w br) (sg : R.sf w bg) :
    SeqM R Tryz.prog 159 #[.pointer (some ⟨bf, 0, none⟩), .pointer (some ⟨bt, 0, none⟩), .pointer (some ⟨br, 0, none⟩), .pointer (some ⟨bg, 0, none⟩)] (splitsS g glue f t) (fun _ vs x => vs = #[.int .i64 x.1, .int .i64 x.2]) w := by
  intro l J Jx W hW hokW hl hJ hJx hY hJ0
  refine (callsIn_wide (n := 3)).1 ?_
  refine callsIn_of_wp Tryz.func159 rfl trivial ?_ rfl
  simp only [Tryz.ntmps159, List.size_toArray, List.length_cons, List.length_nil, Nat.reduceAdd, Nat.reduceSub, Array.replicate_succ, Array.replicate_zero, List.push_toArray, List.append_toArray, List.nil_append, List.cons_append]
  have hfw : ∀ f, Fence.wide.fn f := fun _ => trivial
  have hn24 := hg.few
  have cfW : W.cell? ⟨bf, 0, none⟩ = some (.int .i64 f) := (World.cell?_of_block (a := ⟨bf, 0, none⟩) (hW.same bf sf).2).trans cf
  have HY := Lib.hid hY
  have HJ := Lib.hid (And.intro hJ0 hJ)
  have HG := Lib.hid hg
  have HR := Lib.hid hR
  have HS := Lib.hid hs
  have HW := Lib.hid hW
  clear hY hJ hJ0 hJx hg hR hs hW
  gi_wp2
  gi_loopw [6, 7] (fun i _ wr => ∃ (k : Nat) (pre : List (Nat × Nat)), f + 1 ≤ k ∧ i = .int .i64 k ∧ pre ++ splitsFrom g glue k t = splitsS g glue f t ∧ J pre wr ∧ Kp R W wr)
    (fun i _ _ => t - (intOf i).toNat)
  case atStart => exact ⟨f + 1, [], Nat.le_refl _, by go_num, rfl, HJ.out.1, Kp.refl _⟩
  case round =>
    obtain ⟨k, pre, hk, rfl, hpre, hJk, hkp⟩ := hrel
    have hkw := HW.out.trans hkp
    have hokr := hkp.ok hokW
    have hsr := HS.out.kp HR.out hok hkw
    have c1 : wr.cell? ⟨bt, 0, none⟩ = some (.int .i64 t) := (World.cell?_of_block (a := ⟨bt, 0, none⟩) (hkw.same bt st).2).trans ct
    have c2 : wr.cell? ⟨br, 4, none⟩ = some (strVal glue) := (World.cell?_of_block (a := ⟨br, 4, none⟩) (hkw.same br sr).2).trans cr
    have c3 : wr.cell? ⟨bg, 0, none⟩ = some (.pointer (some ⟨gb, 0, none⟩)) := (World.cell?_of_block (a := ⟨bg, 0, none⟩) (hkw.same bg sg).2).trans cg
    have C2 := Lib.hid c2
    have HPre := Lib.hid hpre
    have HJk := Lib.hid hJk
    have HKp := Lib.hid hkp
    have HOkr := Lib.hid hokr
    have HSr := Lib.hid hsr
    clear hpre hJk hkp hokr hsr hkw c2
    by_cases hlt : k < t
    · have HSt := Lib.hid (splitsFrom_step (g := g) (glue := glue) hlt)
      have hkk : (k : Int) < (t : Int) := by omega
      by_cases hgl : glue = []
      · subst hgl
        have hsa : splitAt g [] k = some (k, k) := rfl
        have hpx : (pre ++ [(k, k)]) <+: splitsS g [] f t := ⟨splitsFrom g [] (k + 1) t, by rw [← HPre.out, HSt.out, hsa]; simp⟩
        obtain ⟨fn, tmps, assign, body, hy, hRd⟩ := yieldAt_any 2 (HY.out pre #[.int .i64 k, .int .i64 k] (k, k) wr HJk.out HKp.out HOkr.out rfl hpx)
        have c2 : wr.cell? ⟨br, 4, none⟩ = some (.string ⟨#[]⟩) := C2.out
        have HSa := Lib.hid hsa
        have HPx := Lib.hid hpx
        clear hsa hpx
        gi_wp2
        refine hRd.mono ?_
        rintro e W3 (⟨rfl, hJ3, hk3⟩ | ⟨rfl, hJ3, hok3, hk3⟩)
        · gi_wp2
          go_roundw
          case rel => exact ⟨k + 1, pre ++ [(k, k)], by omega, by go_num, by rw [← HPre.out, HSt.out, HSa.out]; simp, hJ3, HKp.out.trans hk3⟩
          case measure => simp [intOf]; omega
        · gi_wp2
          refine bodyPost_ret (results_none rfl _ _ _) rfl ?_
          exact ⟨⟨_, rfl⟩, .inr ⟨_, HPx.out, hJ3, hok3, (HKp.out.from _).trans hk3⟩⟩
      · have hgl1 : glue.isEmpty = false := by simpa using hgl
        obtain ⟨a, cap, q0, q1, q2, q3⟩ := HG.out.tok HSr.out
        have hne : g.toks ≠ [] := fun e => by rw [e] at ht; simp at ht; omega
        obtain ⟨tb, off, rfl, q4⟩ := q3.resolve_left hne
        have q5 := q4 k (by omega)
        obtain ⟨tk, htk⟩ : ∃ tk, tk = g.toks[k]'(by omega) := ⟨_, rfl⟩
        rw [← htk] at q5
        have c2 : wr.cell? ⟨br, 4, none⟩ = some (.string ⟨glue.toArray⟩) := C2.out
        have hgd : g.toks.getD k [] = tk := by rw [htk]; simp [List.getD, List.getElem?_eq_getElem (show k < g.toks.length by omega)]
        have e1 : (0 : Int) ≤ (k : Int) := by omega
        have e2 : (k : Int) < (g.toks.length : Int) := by omega
        have HGd := Lib.hid hgd
        have HTk := Lib.hid htk
        have HG1 := Lib.hid hgl
        clear hgd htk hgl q3 q4
        by_cases hq : tk = glue
        · have hsa : splitAt g glue k = some (k, k + 1) := by unfold splitAt; rw [if_neg HG1.out, if_pos (HGd.out.trans hq)]
          have hpx : (pre ++ [(k, k + 1)]) <+: splitsS g glue f t := ⟨splitsFrom g glue (k + 1) t, by rw [← HPre.out, HSt.out, hsa]; simp⟩
          have hq1 : ((⟨tk.toArray⟩ : ByteArray).toList == (⟨glue.toArray⟩ : ByteArray).toList) = true := by rw [hq]; simp
          have hq2 : (tk == glue) = true := by simpa using hq
          have HSa := Lib.hid hsa
          have HPx := Lib.hid hpx
          clear hsa hpx hq
          gi_wp2
          gi_quiet (fail)
          have hmv : Mv R wr (wr.drewN nq) := Mv.of_below HOkr.out ((Below.refl _ _).drewsN _)
          have hkn := HKp.out.trans (hmv.kp HOkr.out)
          obtain ⟨fn, tmps, assign, body, hy, hRd⟩ := yieldAt_any 2 (HY.out pre #[.int .i64 k, .int .i64 ((k + 1 : Nat) : Int)] (k, k + 1) (wr.drewN nq) (((HJ.out.2 _).mv hmv HOkr.out HJk.out)) hkn (hmv.ok HOkr.out) rfl HPx.out)
          have HKn := Lib.hid hkn
          clear hkn hmv
          rw [show ((k + 1 : Nat) : Int) = (k : Int) + 1 by omega] at hy
          gi_wp2
          refine hRd.mono ?_
          rintro e W3 (⟨rfl, hJ3, hk3⟩ | ⟨rfl, hJ3, hok3, hk3⟩)
          · gi_wp2
            go_roundw
            case rel => exact ⟨k + 1, pre ++ [(k, k + 1)], by omega, by go_num, by rw [← HPre.out, HSt.out, HSa.out]; simp, hJ3, HKn.out.trans hk3⟩
            case measure => simp [intOf]; omega
          · gi_wp2
            refine bodyPost_ret (results_none rfl _ _ _) rfl ?_
            exact ⟨⟨_, rfl⟩, .inr ⟨_, HPx.out, hJ3, hok3, (HKn.out.from _).trans hk3⟩⟩
        · have hsa : splitAt g glue k = none := by unfold splitAt; rw [if_neg HG1.out, if_neg (by rw [HGd.out]; exact hq)]
          have hq1 : ((⟨tk.toArray⟩ : ByteArray).toList == (⟨glue.toArray⟩ : ByteArray).toList) = false := by simpa [ByteArray.toList_eq] using hq
          have hq2 : (tk == glue) = false := by simpa using hq
          have HSa := Lib.hid hsa
          clear hsa hq
          gi_wp2
          gi_quiet (fail)
          gi_wp2
          go_roundw
          case rel =>
            have hmv : Mv R wr (wr.drewN nq) := Mv.of_below HOkr.out ((Below.refl _ _).drewsN _)
            exact ⟨k + 1, pre, by omega, by go_num, by rw [← HPre.out, HSt.out, HSa.out]; simp, ((HJ.out.2 _).mv hmv HOkr.out HJk.out), HKp.out.trans (hmv.kp HOkr.out)⟩
          case measure => simp [intOf]; omega
    · gi_wp2
      go_end0
      refine ⟨⟨_, rfl⟩, .inl ⟨?_, HKp.out⟩⟩
      have h := HPre.out
      rw [splitsFrom_end (by omega), List.append_nil] at h
      rw [← h]
      exact HJk.out
end Go.Proofs.YthmnffgjckpkiaaGreatDoor
