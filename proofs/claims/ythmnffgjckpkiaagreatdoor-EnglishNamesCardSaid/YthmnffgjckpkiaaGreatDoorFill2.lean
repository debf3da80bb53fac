/-
  The iterator 'fill' of package english at a row of two parts.
-/
import Derived.Test.YthmnffgjckpkiaaGreatDoorFill
namespace Go.Proofs.YthmnffgjckpkiaaGreatDoor
open Go Go.RowKit Go.Shelf
attribute [local go_sem] Oper.semAt_some

theorem pairs_box (gb : Nat) (r e : Int) (wd : ByteArray) (k1 i1 j1 k2 i2 j2 : Nat) (w : World) :
    Calls Tryz.prog 125 #[.pointer (some ⟨gb, 0, none⟩), .agg #[.int .u8 r, .int .i64 e, .string wd, .slice none 0 0], .agg #[.int .u8 k1, .int .i64 i1, .int .i64 j1], .agg #[.int .u8 k2, .int .i64 i2, .int .i64 j2]] w fun x w' =>
      x = .returned (.func (.func 160) #[] #[.pointer (some ⟨w.heap.size, 0, none⟩), .pointer (some ⟨w.heap.size + 1 + 1, 0, none⟩), .pointer (some ⟨w.heap.size + 1 + 1 + 1, 0, none⟩), .pointer (some ⟨w.heap.size + 1, 0, none⟩)]) ∧ Below w.heap.size w w' ∧ w'.heap.size = w.heap.size + 4 ∧
      w'.heap[w.heap.size]? = some (.cells #[.pointer (some ⟨gb, 0, none⟩)] 77 (0, 0)) ∧ w'.heap[w.heap.size + 1]? = some (.cells #[.int .u8 r, .int .i64 e, .string wd, .slice none 0 0] 36 (0, 0)) ∧
      w'.heap[w.heap.size + 1 + 1]? = some (.cells #[.int .u8 k1, .int .i64 i1, .int .i64 j1] 160 (0, 0)) ∧ w'.heap[w.heap.size + 1 + 1 + 1]? = some (.cells #[.int .u8 k2, .int .i64 i2, .int .i64 j2] 160 (0, 0)) := by
  go_enter Tryz.func125, Tryz.ntmps125
  go_wp2
  go_ret
  refine ⟨rfl, (((((Below.refl _ _).alloc (Nat.le_refl _) _).alloc (by simp) _).alloc (by simp; omega) _).alloc (by simp; omega) _), by simp, ?_, ?_, ?_, ?_⟩
  all_goals
    repeat rw [Below.heap_alloc _ _ _ (by first | (simp; done) | (simp; omega))]
    exact heap_at (by simp)

/-- What one place to part adds. -/
def splitTrees (g : Gr) (r : RowS) (o : Opn) (k1 k2 t : Nat) (s : Nat × Nat) : List Tr :=
  if 0 < cntS g k2 s.2 t then pairsS r.rule o.entry o.word (treesS g k1 o.at s.1) (treesS g k2 s.2 t) else []
theorem fillS_two {g : Gr} {r : RowS} {k1 k2 : Nat} (hr : r.parts = [k1, k2]) (o : Opn) (t : Nat) : fillS g r o t = (splitsS g r.glue o.at t).flatMap (splitTrees g r o k1 k2 t) := by
  unfold fillS fillF
  rw [hr]
  rfl
theorem flat_prefix {α β : Type} {F : α → List β} {xs pre : List α} {x : α} {p : List β} (h : (pre ++ [x]) <+: xs) (hp : p <+: F x) : (pre.flatMap F ++ p) <+: xs.flatMap F := by
  obtain ⟨z, rfl⟩ := h
  obtain ⟨q, hq⟩ := hp
  exact ⟨q ++ z.flatMap F, by simp [← hq]⟩

set_option maxRecDepth 100000 in
set_option maxHeartbeats 8000000 in
theorem fill_two {m gb : Nat} {g : Gr} {ended : Bool} {W0 : World} (hg : Gram m gb g ended W0) {R : Rg} (hR : Counts R m g W0) {w : World} (hs : Since m W0 w) (hok : R.ok w) (r : RowS) (k1 k2 : Nat) (hr : r.parts = [k1, k2]) (fv : Value) (fo : Nat) (bd caps : Array Value) (hfv : fv = .func (.func fo) bd caps) (pa : Option Addr) (pc : Nat) (hp : PartsAt W0 (.slice pa 2 pc) [k1, k2]) (o : Opn) (t b : Nat) (hat : o.at ≤ t) (ht : t ≤ g.toks.length)
    (hT : ∀ k f' t', o.at ≤ f' → f' < t' → t' ≤ t → t' - f' < t - o.at → TreesOk m gb g W0 k f' t') (hb : FillBox gb r fv (.slice pa 2 pc) o t b w) (hsf : FillSf R b w) : SeqM R Tryz.prog 123 (fillLb b) (fillS g r o t) (TreeA R) w := by
  intro l J Jx W hW hokW hl hJ hJx hY hJ0
  subst hfv
  have hbW := hb.kp hsf hW
  have hsW := hsf.kp hW
  have hsinW := hs.kp hR.leaves hok hW
  have hfs := fillS_two (g := g) hr o t
  obtain ⟨pa', pc', hpe, hpb⟩ := hp
  obtain ⟨pb, hpa, hpc⟩ := hpb.resolve_left (by simp)
  simp only [Value.slice.injEq] at hpe
  obtain ⟨he1, -, he2⟩ := hpe
  subst he1 he2 hpa
  have hp0 := hpc 0 (by simp)
  have hp1 := hpc 1 (by simp)
  simp only [List.getElem_cons_zero, List.getElem_cons_succ] at hp0 hp1
  obtain ⟨W2, hW2⟩ : ∃ W2, W2 = W.alloc (.cells #[.func (.yield l) #[] #[]] 53) := ⟨_, rfl⟩
  have hb2 : Below W.heap.size W W2 := by rw [hW2]; exact (Below.refl _ _).alloc (Nat.le_refl _) _
  have hz2 : W2.heap.size = W.heap.size + 1 := by rw [hW2]; simp
  have xy : Boxed W2 W.heap.size 53 (.func (.yield l) #[] #[]) := by rw [hW2]; exact Boxed.new _ _ _
  have hb2W := hbW.below hb2
  have c2 := hbW.cells.p
  have l1 := R.lt hsW.s1
  have l0 := R.lt hsW.s0
  have l2 := R.lt hsW.s2
  have l3 := R.lt hsW.s3
  have hrow : W.cell? ⟨b + 1, 0, none⟩ = some (.int .u8 r.rule) ∧ W.cell? ⟨b + 1, 1, none⟩ = some (.int .u8 r.kind) ∧ W.cell? ⟨b + 1, 2, none⟩ = some (.func (.func fo) bd caps) ∧ W.cell? ⟨b + 1, 4, none⟩ = some (.string ⟨r.glue.toArray⟩) := by simp [World.cell?, hbW.c1]
  obtain ⟨q0, q1, q2, q4⟩ := hrow
  have q5 := hbW.cells.g
  have q6 := hbW.cells.at_
  have q7 := hbW.cells.t
  rw [hfs] at hY ⊢
  have HY := Lib.hid hY
  have HJ := Lib.hid hJ
  have HJx := Lib.hid hJx
  have HJ0 := Lib.hid hJ0
  have HT := Lib.hid hT
  have HR := Lib.hid hR
  have HG := Lib.hid hg
  have HSW := Lib.hid hsW
  have HBW := Lib.hid hbW
  have HS := Lib.hid hsinW
  have HXY := Lib.hid xy
  have HW2 := Lib.hid hW2
  have HZ2 := Lib.hid hz2
  have HB2 := Lib.hid hb2
  have HP0 := Lib.hid hp0
  have HP1 := Lib.hid hp1
  have hm0 := R.mlt hokW
  clear hY hJ hJx hJ0 hbW hsW hb hsf hW2 hW hT hR hs hsinW hpc hpb hp0 hp1 xy hb2W hfs hb2 hg hz2
  refine (callsIn_wide (n := 3)).1 ?_
  refine callsIn_of_wp_marks Tryz.func123 rfl trivial ?_ rfl
  unfold fillLb
  simp only [Tryz.ntmps123, List.size_toArray, List.length_cons, List.length_nil, Nat.reduceAdd, Nat.reduceSub, Array.replicate_succ, Array.replicate_zero, List.push_toArray, List.append_toArray, List.nil_append, List.cons_append]
  have hfw : ∀ f, Fence.wide.fn f := fun _ => trivial
  gi_wp2_with fail
  rw [← HW2.out]
  clear c2 l1 l0 l2 l3 q0 q1 q2 q4 q5 q6 q7
  refine (callsIn_wide.2 (splits_any gb o.at t r (.func (.func fo) bd caps) (.slice (some ⟨pb, 0, none⟩) 2 pc) W2)).mono ?_
  rintro _ W6 ⟨rfl, hw6⟩
  have hb6 := box4_is W2 gb r (.func (.func fo) bd caps) (.slice (some ⟨pb, 0, none⟩) 2 pc) o.at t
  unfold box4 at hb6
  rw [hw6] at hb6
  clear hw6
  have hbW6 : Below W.heap.size W W6 := HB2.out.trans (hb6.below.mono HB2.out.size)
  have hz6 : W6.heap.size = W.heap.size + 5 := by have := hb6.size; have := HZ2.out; omega
  have hmv6 : Mv R W W6 := Mv.of_below hokW hbW6
  have hk6 := hmv6.kp hokW
  have hok6 := hmv6.ok hokW
  have fr : ∀ c, W.heap.size ≤ c → c < W6.heap.size → R.sf W6 c := fun c h1 h2 => R.fresh hokW hbW6 h1 h2
  have hxy6 : Boxed W6 W.heap.size 53 (.func (.yield l) #[] #[]) := (hb6.below.block _ HXY.out.lt).trans HXY.out
  have sy6 := fr W.heap.size (Nat.le_refl _) (by omega)
  have hz2 := HZ2.out
  have hseq := splits_seq HG.out HR.out.leaves (HS.out.below hbW6) hok6 o.at t hat ht r.glue (W2.heap.size + 1 + 1) (W2.heap.size + 1 + 1 + 1) (W2.heap.size + 1) W2.heap.size hb6.lo hb6.hi hb6.row4 hb6.ptr (fr _ (by omega) (by omega)) (fr _ (by omega) (by omega)) (fr _ (by omega) (by omega)) (fr _ (by omega) (by omega))
  have hBx6 := HBW.out.below hbW6
  have hF6 := HSW.out.kp hk6
  have HSeq := Lib.hid hseq
  have HBW6 := Lib.hid hbW6
  have HXY6 := Lib.hid hxy6
  have HBx6 := Lib.hid hBx6
  have HF6 := Lib.hid hF6
  clear hseq hbW6 hxy6 fr hb6 hBx6 hF6 hz2
  gi_wp2
  refine wpIn_range_M rfl (enters_of Tryz.func159 (by kernel_rfl) rfl) HSeq.out hok6 (fun _ _ _ h => by rw [h]; rfl)
    (fun pre X => J (pre.flatMap (splitTrees g r o k1 k2 t)) X) (fun c pre X => c = .ret ∧ (∃ p, p <+: (splitsS g r.glue o.at t).flatMap (splitTrees g r o k1 k2 t) ∧ Jx p X) ∧ KpFrom R (l + 1) W X) (fun s => (HJ.out _).mono HBW6.out.size) ?hIx ((HJ.out []).mv hmv6 hokW HJ0.out) ?round ?done ?stop
  case hIx =>
    rintro c pre X Y row hg hr hokX ⟨h1, ⟨p, hp, h2⟩, h3⟩
    exact ⟨h1, ⟨p, hp, (HJx.out p).mono HBW6.out.size X Y row hg hr hokX h2⟩, kpFrom_abides HBW6.out.size X Y row hg hr hokX h3⟩
  case done =>
    intro D X hD hjX hkX hokX hd _
    gi_wp2
    refine ⟨by simp, .inl ⟨_, _, rfl, run_takeDeferred hd, ?_⟩⟩
    refine ⟨_, results_none rfl _ _ _, ⟨_, rfl⟩, .inl ⟨?_, kp_put _ (hk6.trans hkX) hokX (by have := HBW6.out.size; omega) (by omega) hd rfl⟩⟩
    exact abides_put (HJ.out _) _ hokX hjX (by have := HBW6.out.size; omega) (by omega) hd rfl
  case stop =>
    rintro D c pre X hD hpre ⟨rfl, ⟨p, hp, h2⟩, h3⟩ _ hokX hd
    gi_wp2
    refine ⟨by simp, .inl ⟨_, _, rfl, run_takeDeferred hd, ?_⟩⟩
    refine ⟨_, results_none rfl _ _ _, ⟨_, rfl⟩, .inr ⟨p, hp, abides_put (HJx.out _) _ hokX h2 (by have := HBW6.out.size; omega) (by omega) hd rfl, ok_put hokX (by omega) hd rfl, kpFrom_put _ h3 hokX (by have := HBW6.out.size; omega) hd rfl⟩⟩
  case round =>
    intro L pre vs s X hL hjX hvs hkX hokX hpre
    subst hvs
    gi_wp2
    refine ⟨Kp.refl _, hjX, ?_⟩
    intro W7 hl7 hr7 hsl7 hj7 hk7 hok7 hsz7 _
    have hx := splitsS_mem (hpre.subset (List.mem_append_right _ (List.mem_singleton.2 rfl)))
    have hkW7 := hk6.trans hk7
    have hs7 := HS.out.kp HR.out.leaves hokW hkW7
    have hG7 := HR.out.good _ hok7
    have hBx7 := HBx6.out.kp HF6.out hk7
    obtain ⟨c1, c2, c3, c4, c5, c6, c7, c8⟩ := hBx7.cells
    have hp0 := hs7.cell HP0.out
    have hp1 := hs7.cell HP1.out
    have hy7 := (hk7.same _ sy6).2.trans HXY6.out
    have dy : W7.cell? ⟨W.heap.size, 0, none⟩ = some (.func (.yield l) #[] #[]) := by simp [World.cell?, hy7]
    obtain ⟨_, S, hS⟩ : ∃ (_ : Unit) (S : World → Prop), S = fun V => W7.grownBy V (some m) ∧ MapG g V.heap[m]? := ⟨(), _, rfl⟩
    have keep : ∀ (V : World) (a : Addr) (v : Value), S V → W7.cell? a = some v → V.cell? a = some v := fun V a v h hc => by
      rw [hS] at h
      exact ((Since.refl (mapG_map hG7)).grown h.1).cell hc
    have f0 : ∀ V, S V → V.cell? ⟨W.heap.size, 0, none⟩ = some (.func (.yield l) #[] #[]) := fun V h => keep V _ _ h dy
    have f1 := fun V h => keep V _ _ h c1
    have f2 := fun V h => keep V _ _ h c2
    have f3 := fun V h => keep V _ _ h c3
    have f4 := fun V h => keep V _ _ h c4
    have f5 : ∀ V, S V → V.cell? ⟨b + 1 + 1 + 1 + 1, 0, none⟩ = some (.int .u8 r.rule) ∧ V.cell? ⟨b + 1 + 1 + 1 + 1, 1, none⟩ = some (.int .i64 o.entry) ∧ V.cell? ⟨b + 1 + 1 + 1 + 1, 2, none⟩ = some (.string ⟨o.word.toArray⟩) ∧ V.cell? ⟨b + 1 + 1 + 1 + 1, 3, none⟩ = some (.slice none 0 0) := fun V h => ⟨keep V _ _ h c5, keep V _ _ h c6, keep V _ _ h c7, keep V _ _ h c8⟩
    have f6 := fun V h => keep V _ _ h hp0
    have f7 := fun V h => keep V _ _ h hp1
    have hSd : S W7.drew := by rw [hS]; exact ⟨⟨rfl, rfl, rfl, Nat.le_refl _, fun _ _ _ => rfl⟩, hG7⟩
    have HSS := Lib.hid hS
    have HG7 := Lib.hid hG7
    have HS7 := Lib.hid hs7
    clear keep hS c1 c2 c3 c4 c5 c6 c7 c8 hp0 hp1 dy hy7 hG7 hs7 hBx7
    obtain ⟨a2, ha2⟩ : ∃ a2, a2 = cntS g k2 s.2 t := ⟨_, rfl⟩
    have HA2 := Lib.hid ha2
    clear ha2
    gi_wp2
    refine regionM S 29 (by kernel_rfl) hSd (fun hpo hS0 => ?_)
    refine takeM (i := 0) 21 (.pointer (some ⟨gb, 0, none⟩)) hpo rfl (by kernel_rfl) (fun _ _ _ h => h) rfl (by rfl) (fun V hX => (by have g1 := f1 V hX; go_simp)) (fun _ => rfl) hS0 (fun hS1 => ?_)
    simp only [List.setIfInBounds_toArray, List.set_cons_zero, List.set_cons_succ]
    refine takeM (i := 1) 22 (.pointer (some ⟨b + 1, 3, none⟩)) hpo rfl (by kernel_rfl) (fun _ _ _ h => h) rfl (by rfl) (fun V hX => (by go_simp)) (fun _ => rfl) hS1 (fun hS2 => ?_)
    simp only [List.setIfInBounds_toArray, List.set_cons_zero, List.set_cons_succ]
    refine takeM (i := 2) 23 (.slice (some ⟨pb, 0, none⟩) 2 pc) hpo rfl (by kernel_rfl) (fun _ _ _ h => h) rfl (by rfl) (fun V hX => (by have g2 := f2 V hX; go_simp)) (fun _ => rfl) hS2 (fun hS3 => ?_)
    simp only [List.setIfInBounds_toArray, List.set_cons_zero, List.set_cons_succ]
    refine takeM (i := 3) 24 (.pointer (some ⟨pb, 1, none⟩)) hpo rfl (by kernel_rfl) (fun _ _ _ h => h) rfl (by rfl) (fun V hX => (by go_simp)) (fun _ => rfl) hS3 (fun hS4 => ?_)
    simp only [List.setIfInBounds_toArray, List.set_cons_zero, List.set_cons_succ]
    refine takeM (i := 4) 25 (.int .u8 k2) hpo rfl (by kernel_rfl) (fun _ _ _ h => h) rfl (by rfl) (fun V hX => (by have g7 := f7 V hX; go_simp)) (fun _ => rfl) hS4 (fun hS5 => ?_)
    simp only [List.setIfInBounds_toArray, List.set_cons_zero, List.set_cons_succ]
    refine takeM (i := 5) 26 (.int .i64 s.2) hpo rfl (by kernel_rfl) (fun _ _ _ h => h) rfl (by rfl) (fun V hX => (by go_simp)) (fun _ => rfl) hS5 (fun hS6 => ?_)
    simp only [List.setIfInBounds_toArray, List.set_cons_zero, List.set_cons_succ]
    refine takeM (i := 6) 27 (.int .i64 t) hpo rfl (by kernel_rfl) (fun _ _ _ h => h) rfl (by rfl) (fun V hX => (by have g4 := f4 V hX; go_simp)) (fun _ => rfl) hS6 (fun hS7 => ?_)
    simp only [List.setIfInBounds_toArray, List.set_cons_zero, List.set_cons_succ]
    refine oneM (i := 7) rfl (by kernel_rfl) (by rfl) (fun K hK => ?_)
    go_simp
    refine CallsIn.inRound L (callsIn_wide.2 ((count_all HG.out k2 s.2 t ht _ HS7.out.drew HG7.out).mono ?_))
    rintro _ W8 ⟨rfl, hg8, hG8⟩
    rw [← HA2.out]
    refine hK _ _ (fun _ => (by rw [HSS.out]; exact ⟨grown_undrew hg8, hG8⟩)) (fun hT8 => ?_)
    have hS8 := hT8 (by decide)
    clear hK K
    have hSw8 := hS8
    clear hS0 hS1 hS2 hS3 hS4 hS5 hS6 hS7
    by_cases hpos : 0 < a2
    · have hp1 : decide ((0 : Int) < (a2 : Int)) = true := by simpa using hpos
      refine takeM (i := 8) 29 (.bool true) hpo rfl (by kernel_rfl) (fun _ _ _ h => h) rfl (by rfl) (fun V hX => (by go_simp)) (fun _ => rfl) hS8 (fun hS9 => ?_)
      simp only [List.setIfInBounds_toArray, List.set_cons_zero, List.set_cons_succ]
      refine takeM (i := 9) 30 (.bool true) hpo rfl (by kernel_rfl) (fun _ _ _ h => h) rfl (by rfl) (fun V hX => (by go_simp)) (fun _ => rfl) hS9 (fun hS10 => ?_)
      simp only [List.setIfInBounds_toArray, List.set_cons_zero, List.set_cons_succ]
      refine takeM (i := 10) 31 (.pointer (some ⟨gb, 0, none⟩)) hpo rfl (by kernel_rfl) (fun _ _ _ h => h) rfl (by rfl) (fun V hX => (by have g1 := f1 V hX; go_simp)) (fun _ => rfl) hS10 (fun hS11 => ?_)
      simp only [List.setIfInBounds_toArray, List.set_cons_zero, List.set_cons_succ]
      refine takeM (i := 11) 32 (.agg #[.int .u8 r.rule, .int .i64 o.entry, .string ⟨o.word.toArray⟩, .slice none 0 0]) hpo rfl (by kernel_rfl) (fun _ _ _ h => h) rfl (by rfl) (fun V hX => (by obtain ⟨g0, g1, g2, g3⟩ := f5 V hX; go_simp)) (fun _ => rfl) hS11 (fun hS12 => ?_)
      simp only [List.setIfInBounds_toArray, List.set_cons_zero, List.set_cons_succ]
      refine takeM (i := 12) 33 (.pointer (some ⟨b + 1, 3, none⟩)) hpo rfl (by kernel_rfl) (fun _ _ _ h => h) rfl (by rfl) (fun V hX => (by go_simp)) (fun _ => rfl) hS12 (fun hS13 => ?_)
      simp only [List.setIfInBounds_toArray, List.set_cons_zero, List.set_cons_succ]
      refine takeM (i := 13) 34 (.slice (some ⟨pb, 0, none⟩) 2 pc) hpo rfl (by kernel_rfl) (fun _ _ _ h => h) rfl (by rfl) (fun V hX => (by have g2 := f2 V hX; go_simp)) (fun _ => rfl) hS13 (fun hS14 => ?_)
      simp only [List.setIfInBounds_toArray, List.set_cons_zero, List.set_cons_succ]
      refine takeM (i := 14) 35 (.pointer (some ⟨pb, 0, none⟩)) hpo rfl (by kernel_rfl) (fun _ _ _ h => h) rfl (by rfl) (fun V hX => (by go_simp)) (fun _ => rfl) hS14 (fun hS15 => ?_)
      simp only [List.setIfInBounds_toArray, List.set_cons_zero, List.set_cons_succ]
      refine takeM (i := 15) 36 (.int .u8 k1) hpo rfl (by kernel_rfl) (fun _ _ _ h => h) rfl (by rfl) (fun V hX => (by have g6 := f6 V hX; go_simp)) (fun _ => rfl) hS15 (fun hS16 => ?_)
      simp only [List.setIfInBounds_toArray, List.set_cons_zero, List.set_cons_succ]
      refine takeM (i := 16) 37 (.pointer (some ⟨b + 1 + 1, 2, none⟩)) hpo rfl (by kernel_rfl) (fun _ _ _ h => h) rfl (by rfl) (fun V hX => (by go_simp)) (fun _ => rfl) hS16 (fun hS17 => ?_)
      simp only [List.setIfInBounds_toArray, List.set_cons_zero, List.set_cons_succ]
      refine takeM (i := 17) 38 (.int .i64 o.at) hpo rfl (by kernel_rfl) (fun _ _ _ h => h) rfl (by rfl) (fun V hX => (by have g3 := f3 V hX; go_simp)) (fun _ => rfl) hS17 (fun hS18 => ?_)
      simp only [List.setIfInBounds_toArray, List.set_cons_zero, List.set_cons_succ]
      refine takeM (i := 18) 39 (.int .i64 s.1) hpo rfl (by kernel_rfl) (fun _ _ _ h => h) rfl (by rfl) (fun V hX => (by go_simp)) (fun _ => rfl) hS18 (fun hS19 => ?_)
      simp only [List.setIfInBounds_toArray, List.set_cons_zero, List.set_cons_succ]
      refine takeM (i := 19) 40 (.agg #[.int .u8 k1, .int .i64 o.at, .int .i64 s.1]) hpo rfl (by kernel_rfl) (fun _ _ _ h => h) rfl (by rfl) (fun V hX => (by go_simp)) (fun _ => rfl) hS19 (fun hS20 => ?_)
      simp only [List.setIfInBounds_toArray, List.set_cons_zero, List.set_cons_succ]
      refine takeM (i := 20) 41 (.pointer (some ⟨b + 1, 3, none⟩)) hpo rfl (by kernel_rfl) (fun _ _ _ h => h) rfl (by rfl) (fun V hX => (by go_simp)) (fun _ => rfl) hS20 (fun hS21 => ?_)
      simp only [List.setIfInBounds_toArray, List.set_cons_zero, List.set_cons_succ]
      refine takeM (i := 21) 42 (.slice (some ⟨pb, 0, none⟩) 2 pc) hpo rfl (by kernel_rfl) (fun _ _ _ h => h) rfl (by rfl) (fun V hX => (by have g2 := f2 V hX; go_simp)) (fun _ => rfl) hS21 (fun hS22 => ?_)
      simp only [List.setIfInBounds_toArray, List.set_cons_zero, List.set_cons_succ]
      refine takeM (i := 22) 43 (.pointer (some ⟨pb, 1, none⟩)) hpo rfl (by kernel_rfl) (fun _ _ _ h => h) rfl (by rfl) (fun V hX => (by go_simp)) (fun _ => rfl) hS22 (fun hS23 => ?_)
      simp only [List.setIfInBounds_toArray, List.set_cons_zero, List.set_cons_succ]
      refine takeM (i := 23) 44 (.int .u8 k2) hpo rfl (by kernel_rfl) (fun _ _ _ h => h) rfl (by rfl) (fun V hX => (by have g7 := f7 V hX; go_simp)) (fun _ => rfl) hS23 (fun hS24 => ?_)
      simp only [List.setIfInBounds_toArray, List.set_cons_zero, List.set_cons_succ]
      refine takeM (i := 24) 45 (.int .i64 s.2) hpo rfl (by kernel_rfl) (fun _ _ _ h => h) rfl (by rfl) (fun V hX => (by go_simp)) (fun _ => rfl) hS24 (fun hS25 => ?_)
      simp only [List.setIfInBounds_toArray, List.set_cons_zero, List.set_cons_succ]
      refine takeM (i := 25) 46 (.int .i64 t) hpo rfl (by kernel_rfl) (fun _ _ _ h => h) rfl (by rfl) (fun V hX => (by have g4 := f4 V hX; go_simp)) (fun _ => rfl) hS25 (fun hS26 => ?_)
      simp only [List.setIfInBounds_toArray, List.set_cons_zero, List.set_cons_succ]
      refine takeM (i := 26) 47 (.agg #[.int .u8 k2, .int .i64 s.2, .int .i64 t]) hpo rfl (by kernel_rfl) (fun _ _ _ h => h) rfl (by rfl) (fun V hX => (by go_simp)) (fun _ => rfl) hS26 (fun hS27 => ?_)
      simp only [List.setIfInBounds_toArray, List.set_cons_zero, List.set_cons_succ]
      refine takeM (i := 28) 49 (.func (.yield l) #[] #[]) hpo rfl (by kernel_rfl) (fun _ _ _ h => h) rfl (by rfl) (fun V hX => (by have g0 := f0 V hX; go_simp)) (fun _ => rfl) hS27 (fun hS28 => ?_)
      simp only [List.setIfInBounds_toArray, List.set_cons_zero, List.set_cons_succ]
      refine oneM (i := 27) rfl (by kernel_rfl) (by rfl) (fun K hK => ?_)
      go_simp
      refine CallsIn.inRound L (callsIn_wide.2 ((pairs_box gb r.rule o.entry ⟨o.word.toArray⟩ k1 o.at s.1 k2 s.2 t W8).mono ?_))
      rintro _ W9 ⟨rfl, hb9, hz9, p0, p1, p2, p3⟩
      refine hK _ _ (fun _ => (by rw [HSS.out] at hSw8 ⊢; exact ⟨grownBy_trans' hSw8.1 (below_grown hb9), mapG_below hSw8.2 hb9⟩)) (fun hT29 => ?_)
      have hS29 := hT29 (by decide)
      clear hK K
      have hmv8 : Mv R W7 W8 := HR.out.mv (grown_undrew hg8) (fun _ => hG8)
      have hok8 := hmv8.ok hok7
      have hmv9 : Mv R W8 W9 := Mv.of_below hok8 hb9
      have hok9 := hmv9.ok hok8
      have hmv79 := hmv8.trans hmv9
      have hk79 := hmv79.kp hok7
      have fr9 : ∀ c, W8.heap.size ≤ c → c < W9.heap.size → R.sf W9 c := fun c h1 h2 => R.fresh hok8 hb9 h1 h2
      have hs9 : Since m W0 W9 := (HS7.out.grown (grown_undrew hg8)).below hb9
      have hsz9 : W.heap.size ≤ W9.heap.size := by have := (hkW7.trans hk79).size; omega
      have hseqP := pairs_seq HG.out HR.out hs9 hok9 k1 o.at s.1 k2 s.2 t (HT.out k1 o.at s.1 (Nat.le_refl _) hx.1 (by omega) (by omega)) (by
          by_cases h0 : s.2 < t
          · exact HT.out k2 s.2 t (by omega) h0 (Nat.le_refl _) (by omega)
          · rw [HA2.out, cntS_zero g (by omega)] at hpos; exact absurd hpos (by omega)) r.rule o.entry o.word W8.heap.size (W8.heap.size + 1 + 1) (W8.heap.size + 1 + 1 + 1) (W8.heap.size + 1) p0 p2 p3 p1
        (fr9 _ (by omega) (by omega)) (fr9 _ (by omega) (by omega)) (fr9 _ (by omega) (by omega)) (fr9 _ (by omega) (by omega))
      obtain ⟨dn, hdn⟩ : ∃ dn, dn = pre.flatMap (splitTrees g r o k1 k2 t) := ⟨_, rfl⟩
      have hFs : splitTrees g r o k1 k2 t s = pairsS r.rule o.entry o.word (treesS g k1 o.at s.1) (treesS g k2 s.2 t) := by unfold splitTrees; rw [← HA2.out, if_pos hpos]
      have hpf : ∀ p, p <+: pairsS r.rule o.entry o.word (treesS g k1 o.at s.1) (treesS g k2 s.2 t) → (dn ++ p) <+: (splitsS g r.glue o.at t).flatMap (splitTrees g r o k1 k2 t) := fun p hp => by rw [hdn]; exact flat_prefix hpre (by rw [hFs]; exact hp)
      have hj9 : J dn W9 := by rw [hdn]; exact ((HJ.out _).mono HBW6.out.size).mv hmv79 hok7 hj7
      have hpass := pass_any 160 _ (enters_of Tryz.func160 (by kernel_rfl) rfl) hseqP hok9 l (by omega) (fun p => J (dn ++ p)) (fun p => Jx (dn ++ p)) (fun p => (HJ.out _).mono hsz9) (fun p => (HJx.out _).mono hsz9)
        (fun p2 vs y W1 hj hk1 hok1 hta hp2 => by
          have h := HY.out (dn ++ p2) vs y W1 hj ((hkW7.trans hk79).trans hk1) hok1 hta (by rw [List.append_assoc]; exact hpf _ hp2)
          rw [List.append_assoc] at h
          exact h) (by simpa using hj9)
      have HPass := Lib.hid hpass
      have HPf := Lib.hid hpf
      have HFs := Lib.hid hFs
      have HDn := Lib.hid hdn
      clear hpass hpf hFs hdn hseqP fr9 p0 p1 p2 p3 hb9 f0 f1 f2 f3 f4 f5 f6 f7
      refine oneM (i := 29) rfl (by kernel_rfl) (by rfl) (fun K hK => ?_)
      go_simp
      refine CallsIn.inRound L (callsIn_wide.2 (HPass.out.mono ?_))
      rintro _ V (⟨rfl, hJ6, hk9⟩ | ⟨rfl, p, hp, hJ6, hok6', hk9⟩)
      · refine hK _ _ (fun h => absurd h (by decide)) (fun _ => ?_)
        clear hK K
        refine oneM (i := 30) rfl (by kernel_rfl) (by rfl) (fun K hK => ?_)
        go_simp
        refine hK _ _ (fun h => absurd h (by decide)) (fun _ => ?_)
        clear hK K
        refine oneM (i := 31) rfl (by kernel_rfl) (by rfl) (fun K hK => ?_)
        go_simp
        refine hK _ _ (fun h => absurd h (by decide)) (fun _ => ?_)
        clear hK K
        refine doneM (by kernel_rfl) ?_ _
        gi_wp2
        refine ⟨hk79.trans hk9, ?_⟩
        show J ((pre ++ [s]).flatMap (splitTrees g r o k1 k2 t)) V
        rw [List.flatMap_append, ← HDn.out, List.flatMap_singleton, HFs.out]
        exact hJ6
      · refine hK _ _ (fun h => absurd h (by decide)) (fun _ => ?_)
        clear hK K
        refine oneM (i := 30) rfl (by kernel_rfl) (by rfl) (fun K hK => ?_)
        go_simp
        refine hK _ _ (fun h => absurd h (by decide)) (fun _ => ?_)
        clear hK K
        refine oneM (i := 31) rfl (by kernel_rfl) (by rfl) (fun K hK => ?_)
        go_simp
        refine hK _ _ (fun h => absurd h (by decide)) (fun _ => ?_)
        clear hK K
        refine doneM (by kernel_rfl) ?_ _
        gi_wp2
        exact ⟨((hk79.from _).trans hk9).mono (by have := HBW6.out.size; omega), hok6', rfl, ⟨_, HPf.out p hp, hJ6⟩, ((hkW7.trans hk79).from _).trans hk9⟩
    · have hp1 : decide ((0 : Int) < (a2 : Int)) = false := by simpa using hpos
      refine takeM (i := 8) 29 (.bool false) hpo rfl (by kernel_rfl) (fun _ _ _ h => h) rfl (by rfl) (fun V hX => (by go_simp)) (fun _ => rfl) hS8 (fun hS9 => ?_)
      simp only [List.setIfInBounds_toArray, List.set_cons_zero, List.set_cons_succ]
      refine takeM (i := 9) 30 (.bool false) hpo rfl (by kernel_rfl) (fun _ _ _ h => h) rfl (by rfl) (fun V hX => (by go_simp)) (fun _ => rfl) hS9 (fun hS10 => ?_)
      simp only [List.setIfInBounds_toArray, List.set_cons_zero, List.set_cons_succ]
      refine skipM (i := 10) 31 hpo rfl (by kernel_rfl) (fun _ _ _ h => h) rfl (by rfl) (fun _ => rfl) hS10 (fun hS11 => ?_)
      simp only [List.setIfInBounds_toArray, List.set_cons_zero, List.set_cons_succ]
      refine skipM (i := 11) 32 hpo rfl (by kernel_rfl) (fun _ _ _ h => h) rfl (by rfl) (fun _ => rfl) hS11 (fun hS12 => ?_)
      simp only [List.setIfInBounds_toArray, List.set_cons_zero, List.set_cons_succ]
      refine skipM (i := 12) 33 hpo rfl (by kernel_rfl) (fun _ _ _ h => h) rfl (by rfl) (fun _ => rfl) hS12 (fun hS13 => ?_)
      simp only [List.setIfInBounds_toArray, List.set_cons_zero, List.set_cons_succ]
      refine skipM (i := 13) 34 hpo rfl (by kernel_rfl) (fun _ _ _ h => h) rfl (by rfl) (fun _ => rfl) hS13 (fun hS14 => ?_)
      simp only [List.setIfInBounds_toArray, List.set_cons_zero, List.set_cons_succ]
      refine skipM (i := 14) 35 hpo rfl (by kernel_rfl) (fun _ _ _ h => h) rfl (by rfl) (fun _ => rfl) hS14 (fun hS15 => ?_)
      simp only [List.setIfInBounds_toArray, List.set_cons_zero, List.set_cons_succ]
      refine skipM (i := 15) 36 hpo rfl (by kernel_rfl) (fun _ _ _ h => h) rfl (by rfl) (fun _ => rfl) hS15 (fun hS16 => ?_)
      simp only [List.setIfInBounds_toArray, List.set_cons_zero, List.set_cons_succ]
      refine skipM (i := 16) 37 hpo rfl (by kernel_rfl) (fun _ _ _ h => h) rfl (by rfl) (fun _ => rfl) hS16 (fun hS17 => ?_)
      simp only [List.setIfInBounds_toArray, List.set_cons_zero, List.set_cons_succ]
      refine skipM (i := 17) 38 hpo rfl (by kernel_rfl) (fun _ _ _ h => h) rfl (by rfl) (fun _ => rfl) hS17 (fun hS18 => ?_)
      simp only [List.setIfInBounds_toArray, List.set_cons_zero, List.set_cons_succ]
      refine skipM (i := 18) 39 hpo rfl (by kernel_rfl) (fun _ _ _ h => h) rfl (by rfl) (fun _ => rfl) hS18 (fun hS19 => ?_)
      simp only [List.setIfInBounds_toArray, List.set_cons_zero, List.set_cons_succ]
      refine skipM (i := 19) 40 hpo rfl (by kernel_rfl) (fun _ _ _ h => h) rfl (by rfl) (fun _ => rfl) hS19 (fun hS20 => ?_)
      simp only [List.setIfInBounds_toArray, List.set_cons_zero, List.set_cons_succ]
      refine skipM (i := 20) 41 hpo rfl (by kernel_rfl) (fun _ _ _ h => h) rfl (by rfl) (fun _ => rfl) hS20 (fun hS21 => ?_)
      simp only [List.setIfInBounds_toArray, List.set_cons_zero, List.set_cons_succ]
      refine skipM (i := 21) 42 hpo rfl (by kernel_rfl) (fun _ _ _ h => h) rfl (by rfl) (fun _ => rfl) hS21 (fun hS22 => ?_)
      simp only [List.setIfInBounds_toArray, List.set_cons_zero, List.set_cons_succ]
      refine skipM (i := 22) 43 hpo rfl (by kernel_rfl) (fun _ _ _ h => h) rfl (by rfl) (fun _ => rfl) hS22 (fun hS23 => ?_)
      simp only [List.setIfInBounds_toArray, List.set_cons_zero, List.set_cons_succ]
      refine skipM (i := 23) 44 hpo rfl (by kernel_rfl) (fun _ _ _ h => h) rfl (by rfl) (fun _ => rfl) hS23 (fun hS24 => ?_)
      simp only [List.setIfInBounds_toArray, List.set_cons_zero, List.set_cons_succ]
      refine skipM (i := 24) 45 hpo rfl (by kernel_rfl) (fun _ _ _ h => h) rfl (by rfl) (fun _ => rfl) hS24 (fun hS25 => ?_)
      simp only [List.setIfInBounds_toArray, List.set_cons_zero, List.set_cons_succ]
      refine skipM (i := 25) 46 hpo rfl (by kernel_rfl) (fun _ _ _ h => h) rfl (by rfl) (fun _ => rfl) hS25 (fun hS26 => ?_)
      simp only [List.setIfInBounds_toArray, List.set_cons_zero, List.set_cons_succ]
      refine skipM (i := 26) 47 hpo rfl (by kernel_rfl) (fun _ _ _ h => h) rfl (by rfl) (fun _ => rfl) hS26 (fun hS27 => ?_)
      simp only [List.setIfInBounds_toArray, List.set_cons_zero, List.set_cons_succ]
      refine skipM (i := 28) 49 hpo rfl (by kernel_rfl) (fun _ _ _ h => h) rfl (by rfl) (fun _ => rfl) hS27 (fun hS28 => ?_)
      simp only [List.setIfInBounds_toArray, List.set_cons_zero, List.set_cons_succ]
      refine noneM (i := 27) 48 rfl (by kernel_rfl) rfl (by rfl) (fun _ _ => trivial) hS28 (fun hS29 => ?_)
      simp only [List.setIfInBounds_toArray, List.set_cons_zero, List.set_cons_succ]
      refine noneM (i := 29) 50 rfl (by kernel_rfl) rfl (by rfl) (fun _ _ => trivial) hS29 (fun hS30 => ?_)
      simp only [List.setIfInBounds_toArray, List.set_cons_zero, List.set_cons_succ]
      refine noneM (i := 30) 51 rfl (by kernel_rfl) rfl (by rfl) (fun _ _ => trivial) hS30 (fun hS31 => ?_)
      simp only [List.setIfInBounds_toArray, List.set_cons_zero, List.set_cons_succ]
      refine oneM (i := 31) rfl (by kernel_rfl) (by rfl) (fun K hK => ?_)
      go_simp
      refine hK _ _ (fun h => absurd h (by decide)) (fun _ => ?_)
      clear hK K
      refine doneM (by kernel_rfl) ?_ _
      have hmv8 : Mv R W7 W8 := HR.out.mv (grown_undrew hg8) (fun _ => hG8)
      have hF0 : splitTrees g r o k1 k2 t s = [] := by unfold splitTrees; rw [← HA2.out, if_neg hpos]
      have HF0 := Lib.hid hF0
      have HMv8 := Lib.hid hmv8
      clear hF0 hmv8
      gi_wp2
      refine ⟨HMv8.out.kp hok7, ?_⟩
      show J ((pre ++ [s]).flatMap (splitTrees g r o k1 k2 t)) W8
      rw [List.flatMap_append, List.flatMap_singleton, HF0.out, List.append_nil]
      exact ((HJ.out _).mono HBW6.out.size).mv HMv8.out hok7 hj7
end Go.Proofs.YthmnffgjckpkiaaGreatDoor
