/-
  Parses in memory; contracts of 'headed' and 'pass' of package english.
-/
import Derived.Test.YthmnffgjckpkiaaGreatDoorCount2
import Derived.Laws.EntriesVeiled
namespace Go.Proofs.YthmnffgjckpkiaaGreatDoor
open Go Go.RowKit Go.Shelf
attribute [local go_sem] Oper.semAt_some

/-- Four cells hold a parse's value. -/
def CellsAt (W : World) (b o : Nat) (v : Value) : Prop :=
  ∃ x0 x1 x2 x3, v = .agg #[x0, x1, x2, x3] ∧ W.cell? ⟨b, o, none⟩ = some x0 ∧ W.cell? ⟨b, o + 1, none⟩ = some x1 ∧ W.cell? ⟨b, o + 2, none⟩ = some x2 ∧ W.cell? ⟨b, o + 3, none⟩ = some x3
theorem CellsAt.kept {W W' : World} {b o : Nat} {v : Value} (h : CellsAt W b o v) (hb : W'.heap[b]? = W.heap[b]?) : CellsAt W' b o v := by
  obtain ⟨x0, x1, x2, x3, rfl, h0, h1, h2, h3⟩ := h
  exact ⟨x0, x1, x2, x3, rfl, (World.cell?_of_block (a := ⟨b, o, none⟩) hb).trans h0, (World.cell?_of_block (a := ⟨b, o + 1, none⟩) hb).trans h1, (World.cell?_of_block (a := ⟨b, o + 2, none⟩) hb).trans h2, (World.cell?_of_block (a := ⟨b, o + 3, none⟩) hb).trans h3⟩

/-- The value v is the parse t in the world W; its blocks are ok. -/
inductive TreeV (ok : Nat → Prop) (W : World) : Value → Tr → Prop
  | mk (r e : Int) (w : List UInt8) (sub : List Tr) (a : Option Addr) (cap : Nat) (vs : Nat → Value)
      (hs : sub = [] ∨ ∃ b off, a = some ⟨b, off, none⟩ ∧ ok b ∧ ∀ j, j < sub.length → CellsAt W b (off + j * 4) (vs j))
      (h : ∀ j (hj : j < sub.length), TreeV ok W (vs j) sub[j]) : TreeV ok W (.agg #[.int .u8 r, .int .i64 e, .string ⟨w.toArray⟩, .slice a sub.length cap]) (.node r e w sub)

theorem TreeV.move {ok ok' : Nat → Prop} {W W' : World} (hb : ∀ b, ok b → (∃ o v, W.cell? ⟨b, o + 1, none⟩ = some v) → ok' b ∧ W'.heap[b]? = W.heap[b]?) {v : Value} {t : Tr} (h : TreeV ok W v t) : TreeV ok' W' v t := by
  induction h with
  | mk r e w sub a cap vs hs _ ih =>
    refine .mk r e w sub a cap vs ?_ ih
    rcases hs with hs | ⟨b, off, ha, hok, hc⟩
    · exact .inl hs
    · by_cases h0 : sub = []
      · exact .inl h0
      · have hc0 := hc 0 (List.length_pos_iff.2 h0)
        have hk := hb b hok (by obtain ⟨_, x1, _, _, _, _, h, _⟩ := hc0; exact ⟨_, x1, h⟩)
        exact .inr ⟨b, off, ha, hk.1, fun j hj => (hc j hj).kept hk.2⟩
/-- A parse of an iterator: its blocks are left alone. -/
abbrev TreeR (R : Rg) (W : World) (v : Value) (t : Tr) : Prop := TreeV (R.sf W) W v t
theorem TreeV.kp {R : Rg} {W W' : World} {v : Value} {t : Tr} (h : TreeR R W v t) (hk : Kp R W W') : TreeR R W' v t := h.move (fun b hb _ => hk.same b hb)
theorem treeR_abides (R : Rg) (B : Nat) (v : Value) (t : Tr) : Abides R B (fun W => TreeR R W v t) := by
  intro X Y row hg hr hok h
  refine h.move (fun b hb hc => ⟨R.move hok hg (fun r e => ?_) hb, hg.block b (R.lt hb) (fun e => ?_)⟩)
  · rcases hr r e with ⟨h, _⟩ | ⟨_, _, h⟩
    · exact .inl h
    · exact .inr h
  · rcases hr b e.symm with ⟨h, _⟩ | ⟨_, _, o, ho, hno⟩
    · exact R.ne hb h
    · obtain ⟨c, v', hc⟩ := hc
      unfold World.cell? at hc
      rw [show X.heap[b]? = _ from ho] at hc
      rcases hno with hno | ⟨u, rfl⟩
      · cases o <;> simp_all [Obj.isCells]
      · simp at hc
/-- What an iterator of parses hands over. -/
def TreeA (R : Rg) (W : World) (vs : Array Value) (t : Tr) : Prop := ∃ v, vs = #[v] ∧ TreeR R W v t
theorem treeV_form {ok : Nat → Prop} {W : World} {v : Value} {t : Tr} (h : TreeV ok W v t) : ∃ r e w a n cap, v = .agg #[.int .u8 r, .int .i64 e, .string ⟨w⟩, .slice a n cap] := by
  cases h with
  | mk r e w sub a cap vs hs h => exact ⟨r, e, _, a, _, cap, rfl⟩

theorem headed_any (r e : Int) (wd : ByteArray) (a0 a : Option Addr) (n0 c0 n c : Nat) (w : World) :
    Calls Tryz.prog 124 #[.agg #[.int .u8 r, .int .i64 e, .string wd, .slice a0 n0 c0], .slice a n c] w fun x w' => x = .returned (.agg #[.int .u8 r, .int .i64 e, .string wd, .slice a n c]) ∧ Below w.heap.size w w' := by
  go_enter Tryz.func124, Tryz.ntmps124
  go_wp2
  refine bodyPost_ret (v := .agg #[.int .u8 r, .int .i64 e, .string wd, .slice a n c]) (by simp [results, Tryz.results124, go_sem]) rfl ⟨rfl, ?_⟩
  exact ((Below.refl _ _).alloc (Nat.le_refl _) _).alloc (by simp) _

/-- A yield's round: it goes on, or it has said 'no more'. -/
def YieldOk (R : Rg) (l : Nat) {T : Type} (J Jx : List T → World → Prop) (pre : List T) (x : T) (W1 : World) : Ending → World → Prop := fun e W' =>
  (e = .returned (.bool true) ∧ J (pre ++ [x]) W' ∧ Kp R W1 W') ∨ (e = .returned (.bool false) ∧ Jx (pre ++ [x]) W' ∧ R.ok W' ∧ KpFrom R (l + 1) W1 W')
theorem set_same {W : World} {B : Nat} {t : TypeId} {v : Value} (h : Boxed W B t v) : ∀ b : Nat, (W.setCell ⟨B, 0, none⟩ v).heap[b]? = W.heap[b]? := fun b => by
  by_cases e : b = B
  · subst e; exact (h.set v).trans h.symm
  · exact Below.heap_setCell _ _ _ _ e
theorem set_eq {W : World} {B : Nat} {t : TypeId} {v : Value} (h : Boxed W B t v) : W.setCell ⟨B, 0, none⟩ v = W := by
  have hh : (W.setCell ⟨B, 0, none⟩ v).heap = W.heap := Array.ext_getElem? (set_same h)
  show ({ W with heap := (W.setCell ⟨B, 0, none⟩ v).heap } : World) = W
  rw [hh]
theorem cells_abides {R : Rg} (B b : Nat) (cs : Array Value) (t : TypeId) (fr : Nat × Nat) (hb : b ≠ R.m) (hnl : t ≠ 4 ∨ b < B) : Abides R B (fun W => W.heap[b]? = some (.cells cs t fr)) := fun X Y row hg hr _ h =>
  (hg.block b (Array.getElem?_eq_some_iff.1 h).1 (fun e => by
    rcases hr b e.symm with ⟨h1, _⟩ | ⟨hB, _, o, ho, hc⟩
    · exact hb h1
    · rcases hnl with hnl | hnl
      · rw [h] at ho
        cases ho
        rcases hc with hc | ⟨u, hc⟩
        · cases hc
        · injection hc with _ hc; exact hnl hc
      · omega)).trans h
theorem boxed_of_kp {R : Rg} {W W' : World} {B : Nat} {t : TypeId} {v : Value} (h : Boxed W B t v) (hk : Kp R W W') (hs : R.sf W B) : Boxed W' B t v := (hk.same B hs).2.trans h

theorem smallOf {R : Rg} {B : Nat} {X Y : World} {row : Option Nat} (hr : ∀ r, row = some r → (r = R.m ∧ (R.ok X → R.ok Y)) ∨ (B ≤ r ∧ r ≠ R.m ∧ ∃ o : Obj, X.heap[r]? = some o ∧ loose o)) : SmallStep R.m X row := fun r e => by
  rcases hr r e with ⟨h, _⟩ | ⟨_, _, h⟩
  · exact .inl h
  · exact .inr h
theorem sf_abides {R : Rg} (B b : Nat) : Abides R B (fun W => R.sf W b) := fun _ _ _ hg hr hok h => R.move hok hg (smallOf hr) h
theorem kpFrom_abides {R : Rg} {B n : Nat} {W : World} (hB : W.heap.size ≤ B) : Abides R B (fun X => KpFrom R n W X) := by
  rintro X Y row hg hr hokX h4
  refine ⟨Nat.le_trans h4.size hg.size, fun b hb hs => ?_⟩
  have h5 := h4.same b hb hs
  have hbl : b < W.heap.size := R.lt hs
  refine ⟨R.move hokX hg (smallOf hr) h5.1, (hg.block b (R.lt h5.1) (fun e => ?_)).trans h5.2⟩
  rcases hr b e.symm with ⟨h, _⟩ | ⟨h, _⟩
  · exact R.ne h5.1 h
  · omega
theorem kp_put {R : Rg} {W X : World} {D : Nat} {o : Obj} (o' : Obj) (hk : Kp R W X) (hok : R.ok X) (hD : W.heap.size ≤ D) (hm : D ≠ R.m) (hd : X.heap[D]? = some o) (ho : o.isCells = false) : Kp R W (X.putObj D o') :=
  ⟨by have := hk.size; simp; omega, fun b hb => ⟨move_put hok hd ho (hk.same b hb).1, (World.putObj_heap_other (by have := R.lt hb; omega)).trans (hk.same b hb).2⟩, fun _ => ok_put hok hm hd ho⟩
theorem kpFrom_put {R : Rg} {W X : World} {D n : Nat} {o : Obj} (o' : Obj) (hk : KpFrom R n W X) (hok : R.ok X) (hD : W.heap.size ≤ D) (hd : X.heap[D]? = some o) (ho : o.isCells = false) : KpFrom R n W (X.putObj D o') :=
  ⟨by have := hk.size; simp; omega, fun b hn hb => ⟨move_put hok hd ho (hk.same b hn hb).1, (World.putObj_heap_other (by have := R.lt hb; omega)).trans (hk.same b hn hb).2⟩⟩

set_option maxRecDepth 100000 in
set_option maxHeartbeats 4000000 in
theorem pass_any {R : Rg} {xs : List Tr} {w : World} (gf : Nat) (lb : Array Value) (eg : ∀ args w, (callFunc gf args).run Tryz.prog w = .ok (.enter gf args) w) (hseq : SeqM R Tryz.prog gf lb xs (TreeA R) w) (hok : R.ok w) (l : Nat) (hl : l < w.heap.size)
    (J Jx : List Tr → World → Prop) (hJ : ∀ s, Abides R w.heap.size (J s)) (hJx : ∀ s, Abides R w.heap.size (Jx s))
    (hY : ∀ pre vs x W1, J pre W1 → Kp R w W1 → R.ok W1 → TreeA R W1 vs x → (pre ++ [x]) <+: xs → YieldAt Fence.wide 0 Tryz.prog l vs W1 (YieldOk R l J Jx pre x W1)) (h0 : J [] w) :
    Calls Tryz.prog 81 #[.func (.func gf) #[] lb, .func (.yield l) #[] #[]] w fun e W' =>
      (e = .returned (.bool true) ∧ J xs W' ∧ Kp R w W') ∨ (e = .returned (.bool false) ∧ ∃ pre, pre <+: xs ∧ Jx pre W' ∧ R.ok W' ∧ KpFrom R (l + 1) w W') := by
  have HY := Lib.hid hY
  have HJ := Lib.hid hJ
  have HJx := Lib.hid hJx
  have HSeq := Lib.hid hseq
  have H0 := Lib.hid h0
  clear hY hJ hJx hseq h0
  refine (callsIn_wide (n := 3)).1 ?_
  refine callsIn_of_wp_marks Tryz.func81 rfl trivial ?_ rfl
  simp only [Tryz.ntmps81, List.size_toArray, List.length_cons, List.length_nil, Nat.reduceAdd, Nat.reduceSub, Array.replicate_succ, Array.replicate_zero, List.push_toArray, List.append_toArray, List.nil_append, List.cons_append]
  have hfw : ∀ f, Fence.wide.fn f := fun _ => trivial
  gi_wp2
  obtain ⟨W2, hW2⟩ : ∃ W2, W2 = (w.alloc (.cells #[.func (.yield l) #[] #[]] 53)).alloc (.cells #[.bool false] 4) := ⟨_, rfl⟩
  have hb2 : Below w.heap.size w W2 := by rw [hW2]; exact ((Below.refl _ _).alloc (Nat.le_refl _) _).alloc (by simp) _
  have hz2 : W2.heap.size = w.heap.size + 2 := by rw [hW2]; simp
  have x0 : Boxed W2 w.heap.size 53 (.func (.yield l) #[] #[]) := by rw [hW2]; exact (Boxed.new _ _ _).alloc _
  have x1 : Boxed W2 (w.heap.size + 1) 4 (.bool false) := by have h := Boxed.new (w.alloc (.cells #[.func (.yield l) #[] #[]] 53)) 4 (.bool false); rw [World.size_alloc] at h; rw [hW2]; exact h
  rw [← hW2]
  clear hW2
  have hmv2 : Mv R w W2 := Mv.of_below hok hb2
  have hk2 := hmv2.kp hok
  have hok2 := hmv2.ok hok
  have s0 : R.sf W2 w.heap.size := R.fresh hok hb2 (Nat.le_refl _) (by omega)
  have s1 : R.sf W2 (w.heap.size + 1) := R.fresh hok hb2 (by omega) (by omega)
  have hm0 := R.mlt hok
  refine wpIn_range_M rfl eg (HSeq.out.later hk2) hok2 (fun _ _ _ h => by obtain ⟨v, rfl, _⟩ := h; rfl)
    (fun pre X => J pre X) (fun c pre X => c = .ret ∧ Jx pre X ∧ X.heap[w.heap.size + 1]? = some (.cells #[.bool false] 4 (0, 0)) ∧ KpFrom R (l + 1) w X) (fun s => (HJ.out s).mono hb2.size) ?hIx ((HJ.out []).mv hmv2 hok H0.out) ?round ?done ?stop
  case hIx =>
    rintro c pre X Y row hg hr hokX ⟨h1, h2, h3, h4⟩
    refine ⟨h1, ((HJx.out pre).mono hb2.size) X Y row hg hr hokX h2, cells_abides W2.heap.size _ _ _ _ (by omega) (.inr (by omega)) X Y row hg hr hokX h3, Nat.le_trans h4.size hg.size, fun b hb hs => ?_⟩
    have h5 := h4.same b hb hs
    have hbl : b < w.heap.size := R.lt hs
    refine ⟨R.move hokX hg (fun r e => by rcases hr r e with ⟨h, _⟩ | ⟨_, _, h⟩; exact .inl h; exact .inr h) h5.1, (hg.block b (R.lt h5.1) (fun e => ?_)).trans h5.2⟩
    rcases hr b e.symm with ⟨h, _⟩ | ⟨h, _⟩
    · exact R.ne h5.1 h
    · have := hb2.size; omega
  case done =>
    rintro D X hD hjX hkX hokX hd hsd
    have y1 := boxed_of_kp x1 hkX s1
    have hc1 := y1.cell
    have hf1 := y1.frozen
    gi_wp2
    have hd' : (X.setCell ⟨w.heap.size + 1, 0, none⟩ (.bool true)).heap[D]? = some (.deferred (some [])) := set_other hd (by omega)
    refine ⟨by simp, .inl ⟨_, _, rfl, run_takeDeferred hd', ?_⟩⟩
    have e0 := cell_kept (y1.set (.bool true)).cell (grownBy_putObj' _ D (.deferred none)) (fun r e => by cases e; exact ⟨_, hd', rfl⟩)
    refine ⟨.bool true, by simp [results, Tryz.results81, go_sem, e0], .inl ⟨rfl, ?_, ?_⟩⟩
    · exact abides_put ((HJ.out xs).mono hb2.size) _ (ok_set hokX (by omega) y1) (abides_set (HJ.out xs) _ hokX hjX (by omega) (by omega) y1) (by omega) (by omega) hd' rfl
    · have hsz := hkX.size
      have hok4 : R.ok ((X.setCell ⟨w.heap.size + 1, 0, none⟩ (.bool true)).putObj D (.deferred none)) := ok_put (ok_set hokX (by omega) y1) (by omega) hd' rfl
      refine ⟨?_, fun b hb => ?_, fun _ => hok4⟩
      · have := (grownBy_setCell' X (w.heap.size + 1) (.bool true)).size; simp at *; omega
      · have h5 := (hk2.trans hkX).same b hb
        have hlt := R.lt hb
        exact ⟨move_put (ok_set hokX (by omega) y1) hd' rfl (move_set hokX y1 h5.1), (World.putObj_heap_other (by omega)).trans ((Below.heap_setCell _ _ _ _ (by show b ≠ w.heap.size + 1; omega)).trans h5.2)⟩
  case stop =>
    rintro D c pre X hD hpre ⟨rfl, hjx, hcb, hkf⟩ _ hokX hd
    have y1 : Boxed X (w.heap.size + 1) 4 (.bool false) := hcb
    gi_wp2
    refine ⟨by simp, .inl ⟨_, _, rfl, run_takeDeferred hd, ?_⟩⟩
    have e0 := cell_kept y1.cell (grownBy_putObj' _ D (.deferred none)) (fun r e => by cases e; exact ⟨_, hd, rfl⟩)
    refine ⟨.bool false, by simp [results, Tryz.results81, go_sem, e0], .inr ⟨rfl, pre, hpre, ?_, ?_, ?_⟩⟩
    · exact abides_put ((HJx.out pre).mono hb2.size) _ hokX hjx (by omega) (by omega) hd rfl
    · exact ok_put hokX (by omega) hd rfl
    · exact ⟨by have := hkf.size; simp; omega, fun b hb hs => ⟨move_put hokX hd rfl (hkf.same b hb hs).1, (World.putObj_heap_other (by have := R.lt hs; omega)).trans (hkf.same b hb hs).2⟩⟩
  case round =>
    rintro L pre vs x X hL hjX ⟨v, rfl, htv⟩ hkX hokX hpre
    obtain ⟨vr, ve, vw, va, vn, vc, rfl⟩ := treeV_form htv
    gi_wp2
    obtain ⟨X2, hX2⟩ : ∃ X2, X2 = X.alloc (.cells #[.int .u8 vr, .int .i64 ve, .string ⟨vw⟩, .slice va vn vc] 36) := ⟨_, rfl⟩
    have hbX : Below X.heap.size X X2 := by rw [hX2]; exact (Below.refl _ _).alloc (Nat.le_refl _) _
    have hcX : X2.heap[X.heap.size]? = some (.cells #[.int .u8 vr, .int .i64 ve, .string ⟨vw⟩, .slice va vn vc] 36 (0, 0)) := by rw [hX2]; exact World.alloc_heap_new X _
    rw [← hX2]
    clear hX2
    have hmvX : Mv R X X2 := Mv.of_below hokX hbX
    refine ⟨hmvX.kp hokX, ((HJ.out pre).mono hb2.size).mv hmvX hokX hjX, ?_⟩
    intro W3 hl3 hr3 hsl3 hj3 hk3 hok3 hsz3 htr
    have hc3 := htr _ (cells_abides W2.heap.size X.heap.size _ _ _ (by have := hkX.size; omega) (.inl (by decide))) hcX
    have ht3 := htr _ (treeR_abides R W2.heap.size _ x) (htv.kp (hmvX.kp hokX))
    have y0 := boxed_of_kp x0 hk3 s0
    have y1 := boxed_of_kp x1 hk3 s1
    have sy1 := (hk3.same _ s1).1
    obtain ⟨fn, tmps, assign, body, hy, hRd⟩ := yieldAt_any 2 (HY.out pre _ x W3 hj3 (hk2.trans hk3) hok3 ⟨_, rfl, ht3⟩ hpre)
    have g0 := y0.cell
    have g1 : W3.cell? ⟨X.heap.size, 0, none⟩ = some (.int .u8 vr) := by simp [World.cell?, hc3]
    have g2 : W3.cell? ⟨X.heap.size, 1, none⟩ = some (.int .i64 ve) := by simp [World.cell?, hc3]
    have g3 : W3.cell? ⟨X.heap.size, 2, none⟩ = some (.string ⟨vw⟩) := by simp [World.cell?, hc3]
    have g4 : W3.cell? ⟨X.heap.size, 3, none⟩ = some (.slice va vn vc) := by simp [World.cell?, hc3]
    have Y1 := Lib.hid y1
    have HC3 := Lib.hid hc3
    clear hc3 hcX y0 y1 ht3 htv
    gi_wp2
    refine hRd.mono ?_
    rintro e W4 (⟨rfl, hJ4, hk4⟩ | ⟨rfl, hJ4, hok4, hk4⟩)
    · gi_wp2
      exact ⟨hk4, hJ4⟩
    · have z1 : Boxed W4 (w.heap.size + 1) 4 (.bool false) := ((hk4.same _ (by omega) sy1).2).trans Y1.out
      have hc1 := z1.cell
      have hf1 := z1.frozen
      have Z1 := Lib.hid z1
      clear z1 g0 g1 g2 g3 g4
      gi_wp2
      rw [set_eq Z1.out]
      exact ⟨hk4.mono (by omega), hok4, rfl, hJ4, Z1.out, ((hk2.trans hk3).from _).trans hk4⟩
end Go.Proofs.YthmnffgjckpkiaaGreatDoor
