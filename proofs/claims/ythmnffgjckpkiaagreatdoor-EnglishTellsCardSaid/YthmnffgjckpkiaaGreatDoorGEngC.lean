/-
  A region that draws its order, inside a fence and in a round too: what yields its value in every world that meets S may be taken first; S is shown anew behind every operation that is carried out.
  The iterator 'splits' of package english: where two parts can be parted.
  Contracts of 'countParts' and 'count' of package english: they compute the counts, and write right counts alone into the map.
  Contract of 'count' of package english: the counts, kept in a map that holds right counts alone.
  Parses in memory; contracts of 'headed' and 'pass' of package english.
  The iterators 'trees', 'pairs' of package english: what their makers hand back; the iterator of pairs.
-/
import Derived.OrdersIn
import Derived.OrdersHeld
import Derived.TacticsIn
import Derived.TacticsInMore
import Derived.OwnWalkIn
import Derived.RegionIn
import Derived.Stop.RegionWithIn
import Derived.BigRegionIn
import Derived.Test.YthmnffgjckpkiaaGreatDoorGEngA
import Derived.Sort.QuietIn
import Derived.RangeFuncCalls
import Derived.Test.YthmnffgjckpkiaaGreatDoorGLow
import Derived.Laws.EntriesVeiled
namespace Go.Proofs.YthmnffgjckpkiaaGreatDoor
open Go

section
variable {F : Fence} {n : Nat} {P : Program} {ops : Array Oper} {Q : Exit → Act → World → Prop} {md : Region.Mode} {S : World → Prop} {e : Nat}

/-- No operation of the region is a defer statement, or the activation is no round's. -/
def PlainOps (F : Fence) (ops : Array Oper) : Prop := ∀ (j : Nat) (o : Oper), ops[j]? = some o → ∀ ρ, Oper.semAt F.round ρ o = execOp ρ o
def notDefer (o : Oper) : Bool := match o.op with | .defer _ => false | _ => true
theorem plainOps_of (h : ops.toList.all notDefer = true) : PlainOps F ops := fun j o ho ρ => by
  cases hr : F.round with
  | none => exact Oper.semAt_none _ _
  | some l =>
    refine Oper.semAt_some l ρ o (fun c hc => ?_)
    have hm : o ∈ ops.toList := by
      have := List.mem_of_getElem? (l := ops.toList) (i := j) (a := o) (by simpa using ho)
      exact this
    have := List.all_eq_true.1 h o hm
    unfold notDefer at this
    rw [hc] at this
    cases this

/-- In state a, in every world that meets S, the operation leaves v and does nothing else; and it is about to make no call. -/
def YieldsM (P : Program) (ops : Array Oper) (S : World → Prop) (o : Oper) (v : Value) (a : Act) : Prop := YieldsIf P ops S o v a ∧ ∀ w, o.about P w a.eval = none

theorem yieldsM_wp {i : Nat} {o : Oper} {v : Value} {a : Act} (hsem : PlainOps F ops) (hi : ops[i]? = some o) (hy : YieldsM P ops S o v a) {K : Act → World → Prop} {w : World} (hS : S w) (h : K (a.put o.dst v) w) : wpOpIn F n P ops Q i K a w := by
  unfold wpOpIn
  simp only [hi]
  have hab : ∀ f, o.about P w a.eval = some f → F.fn f := fun f hf => by rw [hy.2 w] at hf; cases hf
  rcases hy.1 with ⟨hw, hv⟩ | ⟨hw, rfl⟩
  · simp only [hw, if_true, Oper.wpIn, hsem i o hi, hv w hS, Oper.uponIn]; exact ⟨hab, h⟩
  · simp only [hw, Bool.false_eq_true, if_false]; exact ⟨hab, h⟩

theorem YieldsM.of_same {o : Oper} {v : Value} {a a' : Act} (hy : YieldsM P ops S o v a) (he : execOp a'.eval o = execOp a.eval o)
    (hw : Region.wanted o (yielded ops a'.tmps) = Region.wanted o (yielded ops a.tmps)) (hb : ∀ w, o.about P w a'.eval = o.about P w a.eval) : YieldsM P ops S o v a' :=
  ⟨hy.1.of_same he hw, fun w => by rw [hb w]; exact hy.2 w⟩

theorem wpOpIn_putM {j : Nat} {oi oj : Oper} {v : Value} (hsem : PlainOps F ops) (hj : ops[j]? = some oj) (hap : oi.apart ops oj = true)
    (hsi : ∀ cs b, oi.op ≠ .select cs b) (hsj : ∀ cs b, oj.op ≠ .select cs b)
    (hQ : ∀ c a w, Q (.panic c) (a.put oi.dst v) w → Q (.panic c) a w) {K : Act → World → Prop} {a : Act} {w : World}
    (hy : YieldsM P ops S oi v a) (h : wpOpIn F n P ops Q j K (a.put oi.dst v) w) :
    wpOpIn F n P ops Q j (fun a' w' => YieldsM P ops S oi v a' ∧ K (a'.put oi.dst v) w') a w := by
  obtain ⟨h1, h2, h3⟩ := Oper.apart_spec hap
  have keep : ∀ (a : Act), YieldsM P ops S oi v a → ∀ u, YieldsM P ops S oi v (a.put oj.dst u) := fun a hy u =>
    hy.of_same (execOp_put oi hsi a oj.dst u h3) (wanted_put oi a oj.dst u h3) (fun w => about_put oi w a oj.dst u h3)
  have keepD : ∀ d, YieldsM P ops S oi v { a with defers := d :: a.defers } := fun d => hy.of_same rfl rfl (fun _ => rfl)
  have hse := hsem j oj hj
  unfold wpOpIn at *
  simp only [hj] at h ⊢
  rw [wanted_put oj a oi.dst v h1, about_put oj w a oi.dst v h1] at h
  split
  · rename_i hw
    simp only [hw, if_true] at h
    unfold Oper.wpIn at *
    rw [about_put oj w a oi.dst v h1] at h
    refine ⟨h.1, ?_⟩
    have h := h.2
    rw [hse, execOp_put oj hsj a oi.dst v h1] at h
    rw [hse]
    generalize (execOp a.eval oj).run P w = r at *
    cases r with
    | ok x w' =>
      cases x <;> simp only [Oper.uponIn] at h ⊢
      case value u => exact ⟨keep a hy u, by rw [← Act.put_comm a v u h2]; exact h⟩
      case skip => exact ⟨keep a hy _, by rw [← Act.put_comm a v undef h2]; exact h⟩
      case defer d =>
        refine ⟨keep _ (keepD d) _, ?_⟩
        rw [← Act.put_comm _ v undef h2, ← Act.put_defers]
        exact h
      case enter f args =>
        refine ⟨h.1, CallsIn.mono h.2 fun e w'' he => ?_⟩
        cases e with
        | returned u => exact ⟨keep a hy u, by rw [← Act.put_comm a v u h2]; exact he⟩
        | panicked c => exact hQ _ _ _ he
        | outgrown => exact he
      case row row args => exact ⟨h.1, RowsIn.mono h.2 fun u w'' he => ⟨keep a hy u, by rw [← Act.put_comm a v u h2]; exact he⟩⟩
      case round l f tmps assign body =>
        refine ⟨h.1, RoundIn.mono h.2 fun e w'' he => ?_⟩
        cases e with
        | returned u => exact ⟨keep a hy u, by rw [← Act.put_comm a v u h2]; exact he⟩
        | panicked c => exact hQ _ _ _ he
        | outgrown => exact he
    | halt x w' =>
      cases x <;> simp only [Oper.uponIn] at h ⊢
      case panic u => exact hQ _ _ _ h
  · rename_i hw
    simp only [hw] at h
    exact ⟨h.1, keep a hy _, by rw [← Act.put_comm a v undef h2]; exact h.2⟩

/-- Number j waits for number i, through others too. -/
def depB (md : Region.Mode) (ops : Array Oper) (i : Nat) : Nat → Nat → Bool
  | 0, _ => false
  | d + 1, j => match ops[j]? with
    | none => false
    | some oj => oj.after.any fun ed => Region.binds md ed && (ed.on == i || depB md ops i d ed.on)
/-- All from number e on wait for number i. -/
def lastB (md : Region.Mode) (ops : Array Oper) (e i : Nat) : Bool := (List.range ops.size).all fun j => decide (j < e) || depB md ops i ops.size j
/-- What is listed waits for nothing that is not. -/
def Closed (md : Region.Mode) (ops : Array Oper) (listed : Array Bool) : Prop := ∀ j oj, ops[j]? = some oj → listed.getD j false = true → ∀ ed ∈ oj.after, Region.binds md ed = true → listed.getD ed.on false = true
def closedB (md : Region.Mode) (ops : Array Oper) (listed : Array Bool) : Bool := (List.range ops.size).all fun j => match ops[j]? with
  | none => true
  | some oj => !listed.getD j false || oj.after.all fun ed => !Region.binds md ed || listed.getD ed.on false
theorem closed_of {md : Region.Mode} {ops : Array Oper} {listed : Array Bool} (h : closedB md ops listed = true) : Closed md ops listed := fun j oj hj hl ed hed hb => by
  have h1 := List.all_eq_true.1 h j (List.mem_range.2 (Array.getElem?_eq_some_iff.1 hj).1)
  simp only [hj, hl, Bool.not_true, Bool.false_or] at h1
  have h2 := Array.all_eq_true'.1 h1 ed hed
  simpa [hb] using h2
theorem closed_dep {md : Region.Mode} {ops : Array Oper} {listed : Array Bool} {i : Nat} (hc : Closed md ops listed) : ∀ (d j : Nat), listed.getD j false = true → depB md ops i d j = true → listed.getD i false = true
  | 0, _, _, h => by simp [depB] at h
  | d + 1, j, hl, h => by
    unfold depB at h
    cases hj : ops[j]? with
    | none => simp [hj] at h
    | some oj =>
      simp only [hj] at h
      obtain ⟨ed, hed, hb⟩ := Array.any_eq_true'.1 h
      simp only [Bool.and_eq_true, Bool.or_eq_true, beq_iff_eq] at hb
      have h1 := hc j oj hj hl ed hed hb.1
      rcases hb.2 with h2 | h2
      · rwa [h2] at h1
      · exact closed_dep hc d ed.on h1 h2
theorem ready_dep {md : Region.Mode} {ops : Array Oper} {listed : Array Bool} {i j : Nat} (hc : Closed md ops listed) (hr : j ∈ Region.ready md ops listed) {d : Nat} (h : depB md ops i d j = true) : listed.getD i false = true := by
  obtain ⟨_, oj, hoj, hall⟩ := mem_ready.1 hr
  cases d with
  | zero => simp [depB] at h
  | succ d =>
    unfold depB at h
    simp only [hoj] at h
    obtain ⟨ed, hed, hb⟩ := Array.any_eq_true'.1 h
    simp only [Bool.and_eq_true, Bool.or_eq_true, beq_iff_eq] at hb
    have h1 := hall ed hed hb.1
    rcases hb.2 with h2 | h2
    · rwa [h2] at h1
    · exact closed_dep hc d ed.on h1 h2
theorem closed_set {md : Region.Mode} {ops : Array Oper} {listed : Array Bool} {i : Nat} (hc : Closed md ops listed) (hr : i ∈ Region.ready md ops listed) : Closed md ops (listed.setIfInBounds i true) := fun j oj hj hl ed hed hb => by
  obtain ⟨_, oi, hoi, hall⟩ := mem_ready.1 hr
  by_cases hij : i = j
  · subst hij
    have : oj = oi := Option.some.inj (hj.symm.trans hoi)
    subst this
    exact getD_set_true (hall ed hed hb)
  · rw [getD_set_ne false hij] at hl
    exact getD_set_true (hc j oj hj hl ed hed hb)

/-- Whatever order is picked from here on, and S holds behind every operation that is carried out, but for the numbers from e on. -/
def wpAnyM (F : Fence) (n : Nat) (P : Program) (md : Region.Mode) (ops : Array Oper) (Q : Exit → Act → World → Prop) (S : World → Prop) (e : Nat) : Nat → Array Bool → Act → World → Prop
  | 0, listed, a, w => Region.ready md ops listed = [] ∧ Q .normal a w
  | fuel + 1, listed, a, w =>
    (Region.ready md ops listed = [] → Q .normal a w) ∧
    ∀ i ∈ Region.ready md ops listed, wpOpIn F n P ops Q i (fun a' w' => (i < e → S w') ∧ wpAnyM F n P md ops Q S e fuel (listed.setIfInBounds i true) a' w') a w
theorem wpAnyIn_of_M : ∀ (fuel : Nat) (listed : Array Bool) (a : Act) (w : World), wpAnyM F n P md ops Q S e fuel listed a w → wpAnyIn F n P md ops Q fuel listed a w
  | 0, _, _, _, h => h
  | fuel + 1, _, _, _, h => ⟨h.1, fun i hi => wpOpIn_mono (fun a' w' h' => wpAnyIn_of_M fuel _ a' w' h'.2) (h.2 i hi)⟩

theorem wpAnyM_first {i : Nat} {oi : Oper} {v : Value} (hsem : PlainOps F ops) (hlast : lastB md ops e i = true) (hi : ops[i]? = some oi) (hsel : ∀ (j : Nat) (o : Oper) cs b, ops[j]? = some o → o.op ≠ .select cs b)
    (hQ : ∀ c a w, Q (.panic c) (a.put oi.dst v) w → Q (.panic c) a w) :
    ∀ (fuel : Nat) (listed : Array Bool) (a : Act) (w : World), Closed md ops listed →
      (∀ j oj, ops[j]? = some oj → j ≠ i → listed.getD j true = false → (∀ e ∈ oj.after, Region.binds md e = true → e.on ≠ i) → oi.apart ops oj = true) →
      i ∈ Region.ready md ops listed → YieldsM P ops S oi v a → S w →
      wpAnyM F n P md ops Q S e fuel (listed.setIfInBounds i true) (a.put oi.dst v) w → wpAnyM F n P md ops Q S e (fuel + 1) listed a w := by
  intro fuel
  induction fuel with
  | zero =>
    intro listed a w _ _ hr hy hS H
    refine ⟨fun h => (by rw [h] at hr; cases hr), fun j hj => ?_⟩
    by_cases hji : j = i
    · subst hji; exact yieldsM_wp hsem hi hy hS ⟨fun _ => hS, H⟩
    · have := ready_mono hj hji
      rw [H.1] at this
      cases this
  | succ fuel ih =>
    intro listed a w hcl hfree hr hy hS H
    refine ⟨fun h => (by rw [h] at hr; cases hr), fun j hj => ?_⟩
    by_cases hji : j = i
    · subst hji; exact yieldsM_wp hsem hi hy hS ⟨fun _ => hS, H⟩
    · have h1 := H.2 j (ready_mono hj hji)
      obtain ⟨hjun, oj, hoj, hall⟩ := mem_ready.1 hj
      have hnot : ∀ e ∈ oj.after, Region.binds md e = true → e.on ≠ i := fun e he hb heq => by
        have h1 := hall e he hb
        have h0 := (mem_ready.1 hr).1
        rw [heq] at h1
        rcases Nat.lt_or_ge i listed.size with h' | h'
        · simp [h'] at h0 h1; rw [h0] at h1; cases h1
        · simp [Array.getElem?_eq_none h'] at h1
      have h2 := wpOpIn_putM hsem hoj (hfree j oj hoj hji hjun hnot) (fun cs b => hsel i oi cs b hi) (fun cs b => hsel j oj cs b hoj) hQ hy h1
      have hfree' : ∀ k ok, ops[k]? = some ok → k ≠ i → (listed.setIfInBounds j true).getD k true = false →
          (∀ e ∈ ok.after, Region.binds md e = true → e.on ≠ i) → oi.apart ops ok = true := fun k ok hk hki hun hno => by
        refine hfree k ok hk hki ?_ hno
        by_cases hjk : j = k
        · subst hjk; exact hjun
        · rw [getD_set_ne true hjk] at hun; exact hun
      have hje : j < e := by
        have hjl : j < ops.size := (Array.getElem?_eq_some_iff.1 hoj).1
        have h7 := List.all_eq_true.1 hlast j (List.mem_range.2 hjl)
        simp only [Bool.or_eq_true, decide_eq_true_eq] at h7
        rcases h7 with h7 | h7
        · exact h7
        · have h5 := ready_dep hcl hj h7
          have h6 := (mem_ready.1 hr).1
          rcases Nat.lt_or_ge i listed.size with h' | h'
          · simp [h'] at h5 h6; rw [h5] at h6; cases h6
          · simp [Array.getElem?_eq_none h'] at h6
      refine wpOpIn_mono (fun a' w' h3 => ⟨h3.2.1, ih (listed.setIfInBounds j true) a' w' (closed_set hcl hj) hfree' (ready_mono hr (Ne.symm hji)) h3.1 (h3.2.1 hje) ?_⟩) h2
      rw [Array.setIfInBounds_comm _ _ hji]
      exact h3.2.2

/-- Number i is taken first. -/
theorem takeM {i : Nat} {oi : Oper} (d : Nat) (v : Value) {fuel : Nat} {listed : Array Bool} {a : Act} {w : World} (hsem : PlainOps F ops) (hi : ops[i]? = some oi)
    (hs : (Region.noSelect ops && (Region.free md ops listed i && ((Region.ready md ops listed).contains i && (lastB md ops e i && closedB md ops listed)))) = true)
    (hQ : ∀ c a w, Q (.panic c) (a.put oi.dst v) w → Q (.panic c) a w) (hdst : oi.dst = some d) (hw : Region.wanted oi (yielded ops a.tmps) = true) (hy : ∀ w, S w → (execOp a.eval oi).run P w = .ok (.value v) w) (hab : ∀ w, oi.about P w a.eval = none) (hS : S w)
    (h : S w → wpAnyM F n P md ops Q S e fuel (listed.setIfInBounds i true) { a with tmps := a.tmps.setIfInBounds d v } w) : wpAnyM F n P md ops Q S e (fuel + 1) listed a w := by
  simp only [Bool.and_eq_true] at hs
  exact wpAnyM_first hsem hs.2.2.2.1 hi (Region.noSelect_spec hs.1) hQ fuel listed a w (closed_of hs.2.2.2.2) (Region.free_spec hi hs.2.1) (by simpa using hs.2.2.1) ⟨.inl ⟨hw, hy⟩, hab⟩ hS (by rw [hdst]; exact h hS)
/-- A guarded operation that is passed over. -/
theorem skipM {i : Nat} {oi : Oper} (d : Nat) {fuel : Nat} {listed : Array Bool} {a : Act} {w : World} (hsem : PlainOps F ops) (hi : ops[i]? = some oi)
    (hs : (Region.noSelect ops && (Region.free md ops listed i && ((Region.ready md ops listed).contains i && (lastB md ops e i && closedB md ops listed)))) = true)
    (hQ : ∀ c a w, Q (.panic c) (a.put oi.dst undef) w → Q (.panic c) a w) (hdst : oi.dst = some d) (hw : Region.wanted oi (yielded ops a.tmps) = false) (hab : ∀ w, oi.about P w a.eval = none) (hS : S w)
    (h : S w → wpAnyM F n P md ops Q S e fuel (listed.setIfInBounds i true) { a with tmps := a.tmps.setIfInBounds d undef } w) : wpAnyM F n P md ops Q S e (fuel + 1) listed a w := by
  simp only [Bool.and_eq_true] at hs
  exact wpAnyM_first hsem hs.2.2.2.1 hi (Region.noSelect_spec hs.1) hQ fuel listed a w (closed_of hs.2.2.2.2) (Region.free_spec hi hs.2.1) (by simpa using hs.2.2.1) ⟨.inr ⟨hw, rfl⟩, hab⟩ hS (by rw [hdst]; exact h hS)
/-- Number i is the only one that may come up. -/
theorem oneM {i : Nat} {oi : Oper} {fuel : Nat} {listed : Array Bool} {a : Act} {w : World} (hi : ops[i]? = some oi) (hr : Region.ready md ops listed = [i]) (hw : Region.wanted oi (yielded ops a.tmps) = true)
    (h : ∀ K : Act → World → Prop, (∀ a w, (i < e → S w) → ((i < e → S w) → wpAnyM F n P md ops Q S e fuel (listed.setIfInBounds i true) a w) → K a w) → Oper.wpIn F n P oi a w K Q) : wpAnyM F n P md ops Q S e (fuel + 1) listed a w := by
  refine ⟨fun h0 => (by rw [hr] at h0; cases h0), fun j hj => ?_⟩
  rw [hr] at hj
  obtain rfl := List.mem_singleton.1 hj
  refine wpOpIn_step hi (fun K' hK' => ?_)
  rw [if_pos hw]
  exact h K' (fun a w hS hW => hK' a w ⟨hS, hW hS⟩)
/-- Number i is the only one that may come up, and is passed over. -/
theorem noneM {i : Nat} {oi : Oper} (d : Nat) {fuel : Nat} {listed : Array Bool} {a : Act} {w : World} (hi : ops[i]? = some oi) (hr : Region.ready md ops listed = [i]) (hdst : oi.dst = some d) (hw : Region.wanted oi (yielded ops a.tmps) = false) (hab : ∀ f, oi.about P w a.eval = some f → F.fn f) (hS : S w)
    (h : S w → wpAnyM F n P md ops Q S e fuel (listed.setIfInBounds i true) { a with tmps := a.tmps.setIfInBounds d undef } w) : wpAnyM F n P md ops Q S e (fuel + 1) listed a w := by
  refine ⟨fun h0 => (by rw [hr] at h0; cases h0), fun j hj => ?_⟩
  rw [hr] at hj
  obtain rfl := List.mem_singleton.1 hj
  refine wpOpIn_step hi (fun K' hK' => ?_)
  rw [if_neg (by simp [hw])]
  exact ⟨hab, hK' _ _ ⟨fun _ => hS, by rw [hdst]; exact h hS⟩⟩
/-- Q, but 'False' at a panic. -/
def NP (Q : Exit → Act → World → Prop) : Exit → Act → World → Prop
  | .panic _, _, _ => False
  | e, a, w => Q e a w
theorem NP.imp {Q : Exit → Act → World → Prop} : ∀ (e : Exit) (a : Act) (w : World), NP Q e a w → Q e a w := fun e a w h => by
  cases e <;> first | exact h | exact (h : False).elim
theorem doneM {listed : Array Bool} {a : Act} {w : World} (hr : Region.ready md ops listed = []) (h : Q .normal a w) : ∀ fuel, wpAnyM F n P md ops (NP Q) S e fuel listed a w
  | 0 => ⟨hr, h⟩
  | _ + 1 => ⟨fun _ => h, by rw [hr]; simp⟩
theorem regionM {id : Nat} {a : Act} {w : World} (S : World → Prop) (e : Nat) (hm : (P.follows .mixedOrders && ops.toList.all notDefer) = true) (hS : S w.drew)
    (h : PlainOps F ops → S w.drew → wpAnyM F n P .any ops (NP Q) S e ops.size (Array.replicate ops.size false) a w.drew) : (Code.region id ops true).wpIn F n P Q a w := by
  simp only [Bool.and_eq_true] at hm
  exact Code.wpIn_mono NP.imp (wpIn_region_any hm.1 (wpAnyIn_of_M _ _ _ _ (h (plainOps_of hm.2) hS)))
end
end Go.Proofs.YthmnffgjckpkiaaGreatDoor
namespace Go.Proofs.YthmnffgjckpkiaaGreatDoor
open Go Go.RowKit Go.Shelf
attribute [local go_sem] Oper.semAt_some

/-- The places from k on. -/
def splitsFrom (g : Gr) (glue : List UInt8) (k t : Nat) : List (Nat × Nat) := ((List.range (t - k)).map (· + k)).filterMap (splitAt g glue)
theorem splitsFrom_end {g : Gr} {glue : List UInt8} {k t : Nat} (h : t ≤ k) : splitsFrom g glue k t = [] := by
  unfold splitsFrom; rw [Nat.sub_eq_zero_of_le h]; rfl
theorem splitsFrom_step {g : Gr} {glue : List UInt8} {k t : Nat} (h : k < t) : splitsFrom g glue k t = (splitAt g glue k).toList ++ splitsFrom g glue (k + 1) t := by
  unfold splitsFrom
  have h1 : (List.range (t - k)).map (· + k) = k :: (List.range (t - (k + 1))).map (· + (k + 1)) := by
    rw [show t - k = (t - (k + 1)) + 1 by omega, List.range_succ_eq_map]
    simp only [List.map_cons, List.map_map, Nat.zero_add]
    congr 1
    refine List.map_congr_left fun i _ => ?_
    simp only [Function.comp, Nat.succ_eq_add_one]; omega
  rw [h1, List.filterMap_cons]
  cases splitAt g glue k <;> simp

theorem splits_any (gb f t : Nat) (r : RowS) (fv pv : Value) (w : World) :
    Calls Tryz.prog 122 #[.pointer (some ⟨gb, 0, none⟩), rowV r fv pv, .int .i64 f, .int .i64 t] w fun e w' =>
      e = .returned (.func (.func 159) #[] #[.pointer (some ⟨w.heap.size + 1 + 1, 0, none⟩), .pointer (some ⟨w.heap.size + 1 + 1 + 1, 0, none⟩), .pointer (some ⟨w.heap.size + 1, 0, none⟩), .pointer (some ⟨w.heap.size, 0, none⟩)]) ∧
      (((w.alloc (.cells #[.pointer (some ⟨gb, 0, none⟩)] 77)).alloc (.cells #[.int .u8 r.rule, .int .u8 r.kind, fv, pv, strVal r.glue] 124)).alloc (.cells #[.int .i64 f] 3)).alloc (.cells #[.int .i64 t] 3) = w' := by
  unfold rowV
  go_enter Tryz.func122, Tryz.ntmps122
  go_wp2
  go_ret
  exact ⟨rfl, rfl⟩

set_option maxRecDepth 100000 in
set_option maxHeartbeats 4000000 in
theorem splits_seq {m gb : Nat} {g : Gr} {ended : Bool} {W0 : World} (hg : Gram m gb g ended W0) {R : Rg} (hR : Leaves R m W0) {w : World} (hs : Since m W0 w) (hok : R.ok w)
    (f t : Nat) (hf : f ≤ t) (ht : t ≤ g.toks.length) (glue : List UInt8) (bf bt br bg : Nat)
    (cf : w.cell? ⟨bf, 0, none⟩ = some (.int .i64 f)) (ct : w.cell? ⟨bt, 0, none⟩ = some (.int .i64 t)) (cr : w.cell? ⟨br, 4, none⟩ = some (strVal glue)) (cg : w.cell? ⟨bg, 0, none⟩ = some (.pointer (some ⟨gb, 0, none⟩)))
    (sf : R.sf w bf) (st : R.sf w bt) (sr : R.sf w br) (sg : R.sf w bg) :
    SeqM R Tryz.prog 159 #[.pointer (some ⟨bf, 0, none⟩), .pointer (some ⟨bt, 0, none⟩), .pointer (some ⟨br, 0, none⟩), .pointer (some ⟨bg, 0, none⟩)] (splitsS g glue f t) (fun _ vs x => vs = #[.int .i64 x.1, .int .i64 x.2]) w := by
  intro l J Jx W hW hokW hl hJ hJx hY hJ0
  refine (callsIn_wide (n := 3)).1 ?_
  refine callsIn_of_wp Tryz.func159 rfl trivial ?_ rfl
  simp only [Tryz.ntmps159, List.size_toArray, List.length_cons, List.length_nil, Nat.reduceAdd, Nat.reduceSub, Array.replicate_succ, Array.replicate_zero, List.push_toArray, List.append_toArray, List.nil_append, List.cons_append]
  have hfw : ∀ f, Fence.wide.fn f := fun _ => trivial
  have hn24 := hg.few
  have cfW : W.cell? ⟨bf, 0, none⟩ = some (.int .i64 f) := (World.cell?_of_block (a := ⟨bf, 0, none⟩) (hW.same bf sf).2).trans cf
  have HY := Lib.hid hY
  have HJ := Lib.hid (And.intro hJ0 hJ)
  have HG := Lib.hid hg
  have HR := Lib.hid hR
  have HS := Lib.hid hs
  have HW := Lib.hid hW
  clear hY hJ hJ0 hJx hg hR hs hW
  gi_wp2
  gi_loopw [6, 7] (fun i _ wr => ∃ (k : Nat) (pre : List (Nat × Nat)), f + 1 ≤ k ∧ i = .int .i64 k ∧ pre ++ splitsFrom g glue k t = splitsS g glue f t ∧ J pre wr ∧ Kp R W wr)
    (fun i _ _ => t - (intOf i).toNat)
  case atStart => exact ⟨f + 1, [], Nat.le_refl _, by go_num, rfl, HJ.out.1, Kp.refl _⟩
  case round =>
    obtain ⟨k, pre, hk, rfl, hpre, hJk, hkp⟩ := hrel
    have hkw := HW.out.trans hkp
    have hokr := hkp.ok hokW
    have hsr := HS.out.kp HR.out hok hkw
    have c1 : wr.cell? ⟨bt, 0, none⟩ = some (.int .i64 t) := (World.cell?_of_block (a := ⟨bt, 0, none⟩) (hkw.same bt st).2).trans ct
    have c2 : wr.cell? ⟨br, 4, none⟩ = some (strVal glue) := (World.cell?_of_block (a := ⟨br, 4, none⟩) (hkw.same br sr).2).trans cr
    have c3 : wr.cell? ⟨bg, 0, none⟩ = some (.pointer (some ⟨gb, 0, none⟩)) := (World.cell?_of_block (a := ⟨bg, 0, none⟩) (hkw.same bg sg).2).trans cg
    have C2 := Lib.hid c2
    have HPre := Lib.hid hpre
    have HJk := Lib.hid hJk
    have HKp := Lib.hid hkp
    have HOkr := Lib.hid hokr
    have HSr := Lib.hid hsr
    clear hpre hJk hkp hokr hsr hkw c2
    by_cases hlt : k < t
    · have HSt := Lib.hid (splitsFrom_step (g := g) (glue := glue) hlt)
      have hkk : (k : Int) < (t : Int) := by omega
      by_cases hgl : glue = []
      · subst hgl
        have hsa : splitAt g [] k = some (k, k) := rfl
        have hpx : (pre ++ [(k, k)]) <+: splitsS g [] f t := ⟨splitsFrom g [] (k + 1) t, by rw [← HPre.out, HSt.out, hsa]; simp⟩
        obtain ⟨fn, tmps, assign, body, hy, hRd⟩ := yieldAt_any 2 (HY.out pre #[.int .i64 k, .int .i64 k] (k, k) wr HJk.out HKp.out HOkr.out rfl hpx)
        have c2 : wr.cell? ⟨br, 4, none⟩ = some (.string ⟨#[]⟩) := C2.out
        have HSa := Lib.hid hsa
        have HPx := Lib.hid hpx
        clear hsa hpx
        gi_wp2
        refine hRd.mono ?_
        rintro e W3 (⟨rfl, hJ3, hk3⟩ | ⟨rfl, hJ3, hok3, hk3⟩)
        · gi_wp2
          go_roundw
          case rel => exact ⟨k + 1, pre ++ [(k, k)], by omega, by go_num, by rw [← HPre.out, HSt.out, HSa.out]; simp, hJ3, HKp.out.trans hk3⟩
          case measure => simp [intOf]; omega
        · gi_wp2
          refine bodyPost_ret (results_none rfl _ _ _) rfl ?_
          exact ⟨⟨_, rfl⟩, .inr ⟨_, HPx.out, hJ3, hok3, (HKp.out.from _).trans hk3⟩⟩
      · have hgl1 : glue.isEmpty = false := by simpa using hgl
        obtain ⟨a, cap, q0, q1, q2, q3⟩ := HG.out.tok HSr.out
        have hne : g.toks ≠ [] := fun e => by rw [e] at ht; simp at ht; omega
        obtain ⟨tb, off, rfl, q4⟩ := q3.resolve_left hne
        have q5 := q4 k (by omega)
        obtain ⟨tk, htk⟩ : ∃ tk, tk = g.toks[k]'(by omega) := ⟨_, rfl⟩
        rw [← htk] at q5
        have c2 : wr.cell? ⟨br, 4, none⟩ = some (.string ⟨glue.toArray⟩) := C2.out
        have hgd : g.toks.getD k [] = tk := by rw [htk]; simp [List.getD, List.getElem?_eq_getElem (show k < g.toks.length by omega)]
        have e1 : (0 : Int) ≤ (k : Int) := by omega
        have e2 : (k : Int) < (g.toks.length : Int) := by omega
        have HGd := Lib.hid hgd
        have HTk := Lib.hid htk
        have HG1 := Lib.hid hgl
        clear hgd htk hgl q3 q4
        by_cases hq : tk = glue
        · have hsa : splitAt g glue k = some (k, k + 1) := by unfold splitAt; rw [if_neg HG1.out, if_pos (HGd.out.trans hq)]
          have hpx : (pre ++ [(k, k + 1)]) <+: splitsS g glue f t := ⟨splitsFrom g glue (k + 1) t, by rw [← HPre.out, HSt.out, hsa]; simp⟩
          have hq1 : ((⟨tk.toArray⟩ : ByteArray).toList == (⟨glue.toArray⟩ : ByteArray).toList) = true := by rw [hq]; simp
          have hq2 : (tk == glue) = true := by simpa using hq
          have HSa := Lib.hid hsa
          have HPx := Lib.hid hpx
          clear hsa hpx hq
          gi_wp2
          gi_quiet (fail)
          have hmv : Mv R wr (wr.drewN nq) := Mv.of_below HOkr.out ((Below.refl _ _).drewsN _)
          have hkn := HKp.out.trans (hmv.kp HOkr.out)
          obtain ⟨fn, tmps, assign, body, hy, hRd⟩ := yieldAt_any 2 (HY.out pre #[.int .i64 k, .int .i64 ((k + 1 : Nat) : Int)] (k, k + 1) (wr.drewN nq) (((HJ.out.2 _).mv hmv HOkr.out HJk.out)) hkn (hmv.ok HOkr.out) rfl HPx.out)
          have HKn := Lib.hid hkn
          clear hkn hmv
          rw [show ((k + 1 : Nat) : Int) = (k : Int) + 1 by omega] at hy
          gi_wp2
          refine hRd.mono ?_
          rintro e W3 (⟨rfl, hJ3, hk3⟩ | ⟨rfl, hJ3, hok3, hk3⟩)
          · gi_wp2
            go_roundw
            case rel => exact ⟨k + 1, pre ++ [(k, k + 1)], by omega, by go_num, by rw [← HPre.out, HSt.out, HSa.out]; simp, hJ3, HKn.out.trans hk3⟩
            case measure => simp [intOf]; omega
          · gi_wp2
            refine bodyPost_ret (results_none rfl _ _ _) rfl ?_
            exact ⟨⟨_, rfl⟩, .inr ⟨_, HPx.out, hJ3, hok3, (HKn.out.from _).trans hk3⟩⟩
        · have hsa : splitAt g glue k = none := by unfold splitAt; rw [if_neg HG1.out, if_neg (by rw [HGd.out]; exact hq)]
          have hq1 : ((⟨tk.toArray⟩ : ByteArray).toList == (⟨glue.toArray⟩ : ByteArray).toList) = false := by simpa [ByteArray.toList_eq] using hq
          have hq2 : (tk == glue) = false := by simpa using hq
          have HSa := Lib.hid hsa
          clear hsa hq
          gi_wp2
          gi_quiet (fail)
          gi_wp2
          go_roundw
          case rel =>
            have hmv : Mv R wr (wr.drewN nq) := Mv.of_below HOkr.out ((Below.refl _ _).drewsN _)
            exact ⟨k + 1, pre, by omega, by go_num, by rw [← HPre.out, HSt.out, HSa.out]; simp, ((HJ.out.2 _).mv hmv HOkr.out HJk.out), HKp.out.trans (hmv.kp HOkr.out)⟩
          case measure => simp [intOf]; omega
    · gi_wp2
      go_end0
      refine ⟨⟨_, rfl⟩, .inl ⟨?_, HKp.out⟩⟩
      have h := HPre.out
      rw [splitsFrom_end (by omega), List.append_nil] at h
      rw [← h]
      exact HJk.out
end Go.Proofs.YthmnffgjckpkiaaGreatDoor
namespace Go.Proofs.YthmnffgjckpkiaaGreatDoor
open Go Go.RowKit Go.Shelf
attribute [local go_sem] Oper.semAt_some

/-- A world behind steps that make blocks and write right counts. -/
structure LaterM (m : Nat) (g : Gr) (W : World) where
  w : World
  grown : W.grownBy w (some m)
  good : MapG g W.heap[m]? → MapG g w.heap[m]?
instance LaterM.inhab (m : Nat) (g : Gr) (W : World) : Nonempty (LaterM m g W) := ⟨⟨W, ⟨rfl, rfl, rfl, Nat.le_refl _, fun _ _ _ => rfl⟩, id⟩⟩
theorem mapG_map {g : Gr} {o : Option Obj} (h : MapG g o) : ∃ es c, o = some (.map es c) := by obtain ⟨es, c, h, _⟩ := h; exact ⟨es, c, h⟩
theorem LaterM.get {m : Nat} {g : Gr} {W : World} {a : Addr} {v : Value} (hm : MapG g W.heap[m]?) (h : W.cell? a = some v) (x : LaterM m g W) : x.w.cell? a = some v :=
  ((Since.refl (mapG_map hm)).grown x.grown).cell h
theorem wp_region_laterM {P : Program} {id m : Nat} {g : Gr} {Q : Exit → Act → World → Prop} {a : Act} {w : World} {l : List Oper} (hm : P.follows .mixedOrders = true) (hB : Region.lexB .any l.toArray = true)
    (h : wpQuiet P l.toArray (fun w' => ∃ x : LaterM m g w, w' = x.w) (fun a' => ∀ w', (∃ x : LaterM m g w, w' = x.w) → Q .normal a' w') l a) : (Code.region id l.toArray true).wp P Q a w :=
  wp_region_quiet (C := fun w' => ∃ x : LaterM m g w, w' = x.w) hm hB ⟨⟨{ w with drawn := w.drawn + 1 }, ⟨rfl, rfl, rfl, Nat.le_refl _, fun _ _ _ => rfl⟩, fun h => h⟩, rfl⟩ (by simpa using h)
theorem laterM_call {P : Program} {m : Nat} {g : Gr} {f : FuncId} {args : Array Value} {W : World} {x : LaterM m g W} {v : Value}
    (h : MapG g x.w.heap[m]? → Calls P f args x.w fun e w' => e = .returned v ∧ x.w.grownBy w' (some m) ∧ MapG g w'.heap[m]?) (hm : MapG g W.heap[m]?) : Calls P f args x.w fun e w'' => e = .returned v ∧ ∃ y : LaterM m g W, w'' = y.w :=
  (h (x.good hm)).mono fun _ w'' ⟨he, hg, hG⟩ => ⟨he, ⟨w'', grownBy_trans' x.grown hg, fun _ => hG⟩, rfl⟩

/-- What a call of 'count' does. -/
def CountAt (m gb : Nat) (g : Gr) (W0 : World) (k f t : Nat) : Prop := ∀ W, Since m W0 W → MapG g W.heap[m]? →
  Calls Tryz.prog 78 #[.pointer (some ⟨gb, 0, none⟩), .int .u8 k, .int .i64 f, .int .i64 t] W fun e W' => e = .returned (.int .i64 (cntS g k f t)) ∧ W.grownBy W' (some m) ∧ MapG g W'.heap[m]?
theorem grown_next {m : Nat} {w X Y : World} {row : Option Nat} (h : w.grownBy X (some m)) (hg : X.grownBy Y row) (hr : ∀ r, row = some r → r = m ∨ w.heap.size ≤ r) : w.grownBy Y (some m) :=
  ⟨hg.os.trans h.os, hg.tape.trans h.tape, hg.output.trans h.output, Nat.le_trans h.size hg.size, fun b hb hne => (hg.block b (Nat.lt_of_lt_of_le hb h.size) (fun e => by
    rcases hr b e.symm with h1 | h1
    · exact hne (by rw [h1])
    · omega)).trans (h.block b hb hne)⟩
theorem mapG_below {m : Nat} {g : Gr} {W W' : World} (h : MapG g W.heap[m]?) (hb : Below W.heap.size W W') : MapG g W'.heap[m]? := by
  obtain ⟨es, c, hm, hes⟩ := h
  exact ⟨es, c, (hb.block m (Array.getElem?_eq_some_iff.1 hm).1).trans hm, hes⟩

/-- The world behind the boxes of a pointer, a row and two numbers. -/
def box4 (W : World) (gb : Nat) (r : RowS) (fv pv : Value) (f t : Nat) : World :=
  (((W.alloc (.cells #[.pointer (some ⟨gb, 0, none⟩)] 77)).alloc (.cells #[.int .u8 r.rule, .int .u8 r.kind, fv, pv, strVal r.glue] 124)).alloc (.cells #[.int .i64 f] 3)).alloc (.cells #[.int .i64 t] 3)
structure Box4 (W W4 : World) (gb : Nat) (r : RowS) (fv pv : Value) (f t : Nat) : Prop where
  below : Below W.heap.size W W4
  size : W4.heap.size = W.heap.size + 4
  ptr : W4.cell? ⟨W.heap.size, 0, none⟩ = some (.pointer (some ⟨gb, 0, none⟩))
  row0 : W4.cell? ⟨W.heap.size + 1, 0, none⟩ = some (.int .u8 r.rule)
  row1 : W4.cell? ⟨W.heap.size + 1, 1, none⟩ = some (.int .u8 r.kind)
  row2 : W4.cell? ⟨W.heap.size + 1, 2, none⟩ = some fv
  row3 : W4.cell? ⟨W.heap.size + 1, 3, none⟩ = some pv
  row4 : W4.cell? ⟨W.heap.size + 1, 4, none⟩ = some (strVal r.glue)
  lo : W4.cell? ⟨W.heap.size + 1 + 1, 0, none⟩ = some (.int .i64 f)
  hi : W4.cell? ⟨W.heap.size + 1 + 1 + 1, 0, none⟩ = some (.int .i64 t)
theorem box4_is (W : World) (gb : Nat) (r : RowS) (fv pv : Value) (f t : Nat) : Box4 W (box4 W gb r fv pv f t) gb r fv pv f t := by
  unfold box4
  refine ⟨((((Below.refl _ _).alloc (Nat.le_refl _) _).alloc (by simp) _).alloc (by simp; omega) _).alloc (by simp; omega) _, by simp, ?_, ?_, ?_, ?_, ?_, ?_, ?_, ?_⟩
  all_goals go_simp

theorem parts_nil {m gb : Nat} {g : Gr} {W0 : World} (r : RowS) (fv pv : Value) (hp : PartsAt W0 pv []) (hr : r.parts = []) (f t : Nat) (W : World) (hG : MapG g W.heap[m]?) :
    Calls Tryz.prog 80 #[.pointer (some ⟨gb, 0, none⟩), rowV r fv pv, .int .i64 f, .int .i64 t] W fun e W' => e = .returned (.int .i64 (partsS g r f t)) ∧ W.grownBy W' (some m) ∧ MapG g W'.heap[m]? := by
  obtain ⟨a, cap, rfl, _⟩ := hp
  have hps : partsS g r f t = if f = t then 1 else 0 := by unfold partsS partsF; rw [hr]
  have HP := Lib.hid hps
  have HG := Lib.hid hG
  clear hps hG
  unfold rowV
  by_cases hft : f = t
  · have hb : ((f : Int) == (t : Int)) = true := by simp [hft]
    have HF := Lib.hid hft
    clear hft
    go_enter Tryz.func80, Tryz.ntmps80
    go_wp2
    go_ret
    have hbl : Below W.heap.size W ((((W.alloc (.cells #[.pointer (some ⟨gb, 0, none⟩)] 77)).alloc (.cells #[.int .u8 r.rule, .int .u8 r.kind, fv, .slice a 0 cap, strVal r.glue] 124)).alloc (.cells #[.int .i64 f] 3)).alloc (.cells #[.int .i64 t] 3)) :=
      ((((Below.refl _ _).alloc (Nat.le_refl _) _).alloc (by simp) _).alloc (by simp; omega) _).alloc (by simp; omega) _
    exact ⟨by rw [HP.out, if_pos HF.out]; rfl, below_grown hbl, mapG_below HG.out hbl⟩
  · have hb : ((f : Int) == (t : Int)) = false := by simp; omega
    have HF := Lib.hid hft
    clear hft
    go_enter Tryz.func80, Tryz.ntmps80
    go_wp2
    go_ret
    have hbl : Below W.heap.size W ((((W.alloc (.cells #[.pointer (some ⟨gb, 0, none⟩)] 77)).alloc (.cells #[.int .u8 r.rule, .int .u8 r.kind, fv, .slice a 0 cap, strVal r.glue] 124)).alloc (.cells #[.int .i64 f] 3)).alloc (.cells #[.int .i64 t] 3)) :=
      ((((Below.refl _ _).alloc (Nat.le_refl _) _).alloc (by simp) _).alloc (by simp; omega) _).alloc (by simp; omega) _
    exact ⟨by rw [HP.out, if_neg HF.out]; rfl, below_grown hbl, mapG_below HG.out hbl⟩

theorem parts_one {m gb : Nat} {g : Gr} {W0 : World} (r : RowS) (fv pv : Value) (k : Nat) (hp : PartsAt W0 pv [k]) (hr : r.parts = [k]) (f t : Nat) (hC : CountAt m gb g W0 k f t) (W : World) (hs : Since m W0 W) (hG : MapG g W.heap[m]?) :
    Calls Tryz.prog 80 #[.pointer (some ⟨gb, 0, none⟩), rowV r fv pv, .int .i64 f, .int .i64 t] W fun e W' => e = .returned (.int .i64 (partsS g r f t)) ∧ W.grownBy W' (some m) ∧ MapG g W'.heap[m]? := by
  obtain ⟨a, cap, rfl, hpb⟩ := hp
  obtain ⟨pb, rfl, hpc⟩ := hpb.resolve_left (by simp)
  have c0 := hpc 0 (by simp)
  simp only [List.getElem_cons_zero] at c0
  have hps : partsS g r f t = cntS g k f t := by unfold partsS partsF; rw [hr]
  rw [hps]
  have HC := Lib.hid hC
  have HS := Lib.hid hs
  have HG := Lib.hid hG
  have c1 := hs.cell c0
  clear hps hpc hpb hC hs hG c0
  unfold rowV
  go_enter Tryz.func80, Tryz.ntmps80
  go_wp2
  obtain ⟨W4, hW4⟩ : ∃ W4, W4 = box4 W gb r fv (.slice (some ⟨pb, 0, none⟩) 1 cap) f t := ⟨_, rfl⟩
  have hb4 := box4_is W gb r fv (.slice (some ⟨pb, 0, none⟩) 1 cap) f t
  rw [← hW4] at hb4
  unfold box4 at hW4
  rw [← hW4]
  clear hW4
  have hG4 := mapG_below HG.out hb4.below
  have f0 := fun x : LaterM m g W4 => x.get hG4 hb4.ptr
  have f1 := fun x : LaterM m g W4 => x.get hG4 hb4.row3
  have f2 := fun x : LaterM m g W4 => x.get hG4 hb4.lo
  have f3 := fun x : LaterM m g W4 => x.get hG4 hb4.hi
  have f4 := fun x : LaterM m g W4 => x.get hG4 (cell_kept' hb4.below c1)
  have HB := Lib.hid hb4
  have HG4 := Lib.hid hG4
  clear hb4 hG4 c1
  refine wp_region_laterM (m := m) (g := g) (by kernel_rfl) (by kernel_rfl) ?_
  repeat (go_big_quiet_step ((go_at_call 78; exact laterM_call (fun h => HC.out _ ((HS.out.below HB.out.below).grown (LaterM.grown _)) h) HG4.out)))
  refine wpQuiet_nil ?_
  rintro _ ⟨x, rfl⟩
  clear f0 f1 f2 f3 f4
  go_wp2
  go_ret
  exact ⟨rfl, grownBy_trans' (below_grown HB.out.below) x.grown, x.good HG4.out⟩

theorem grown_undrew {w w' : World} {r : Option Nat} (h : w.drew.grownBy w' r) : w.grownBy w' r := ⟨h.os, h.tape, h.output, h.size, h.block⟩
theorem boxed_abides {R : Rg} {B box : Nat} {X Y : World} {row : Option Nat} {t : TypeId} {v : Value} (hb : Boxed X box t v) (ht : t ≠ 4) (hm : box ≠ R.m) (hg : X.grownBy Y row)
    (hr : ∀ r, row = some r → (r = R.m ∧ (R.ok X → R.ok Y)) ∨ (B ≤ r ∧ r ≠ R.m ∧ ∃ o : Obj, X.heap[r]? = some o ∧ loose o)) : Boxed Y box t v :=
  boxed_small (m := R.m) hb ht hm hg (fun r e => by
    rcases hr r e with ⟨h, _⟩ | ⟨_, _, h⟩
    · exact .inl h
    · exact .inr h)
theorem grown_abides {R : Rg} {m B : Nat} {w X Y : World} {row : Option Nat} (hm : R.m = m) (hB : w.heap.size ≤ B) (h : w.grownBy X (some m)) (hg : X.grownBy Y row)
    (hr : ∀ r, row = some r → (r = R.m ∧ (R.ok X → R.ok Y)) ∨ (B ≤ r ∧ r ≠ R.m ∧ ∃ o : Obj, X.heap[r]? = some o ∧ loose o)) : w.grownBy Y (some m) :=
  grown_next h hg (fun r e => by
    rcases hr r e with ⟨h, _⟩ | ⟨h, _⟩
    · exact .inl (h.trans hm)
    · exact .inr (by omega))

set_option maxRecDepth 100000 in
set_option maxHeartbeats 4000000 in
theorem parts_two {m gb : Nat} {g : Gr} {ended : Bool} {W0 : World} (hg : Gram m gb g ended W0) (r : RowS) (fv pv : Value) (k1 k2 : Nat) (hp : PartsAt W0 pv [k1, k2]) (hr : r.parts = [k1, k2]) (f t : Nat) (hft : f ≤ t) (ht : t ≤ g.toks.length)
    (hC : ∀ k f' t', f ≤ f' → f' ≤ t' → t' ≤ t → t' - f' < t - f → CountAt m gb g W0 k f' t') (W : World) (hs : Since m W0 W) (hG : MapG g W.heap[m]?) :
    Calls Tryz.prog 80 #[.pointer (some ⟨gb, 0, none⟩), rowV r fv pv, .int .i64 f, .int .i64 t] W fun e W' => e = .returned (.int .i64 (partsS g r f t)) ∧ W.grownBy W' (some m) ∧ MapG g W'.heap[m]? := by
  obtain ⟨a, cap, rfl, hpb⟩ := hp
  obtain ⟨pb, rfl, hpc⟩ := hpb.resolve_left (by simp)
  have c0 := hs.cell (hpc 0 (by simp))
  have c1 := hs.cell (hpc 1 (by simp))
  simp only [List.getElem_cons_zero, List.getElem_cons_succ] at c0 c1
  have hps : partsS g r f t = (splitsS g r.glue f t).foldl (pairStep (cntS g) k1 k2 f t) 0 := by unfold partsS partsF; rw [hr]
  rw [hps]
  have HC := Lib.hid hC
  have HS := Lib.hid hs
  have HG := Lib.hid hG
  have HGr := Lib.hid hg
  have C0 := Lib.hid c0
  have C1 := Lib.hid c1
  clear hps hpc hpb hC hs hG c0 c1 hg
  unfold rowV
  refine (callsIn_wide (n := 3)).1 ?_
  refine callsIn_of_wp_marks Tryz.func80 rfl trivial ?_ rfl
  simp only [Tryz.ntmps80, List.size_toArray, List.length_cons, List.length_nil, Nat.reduceAdd, Nat.reduceSub, Array.replicate_succ, Array.replicate_zero, List.push_toArray, List.append_toArray, List.nil_append, List.cons_append]
  have hfw : ∀ f, Fence.wide.fn f := fun _ => trivial
  gi_wp2_with fail
  obtain ⟨W4, hW4⟩ : ∃ W4, W4 = box4 W gb r fv (.slice (some ⟨pb, 0, none⟩) 2 cap) f t := ⟨_, rfl⟩
  have hb4 := box4_is W gb r fv (.slice (some ⟨pb, 0, none⟩) 2 cap) f t
  rw [← hW4] at hb4
  unfold box4 at hW4
  rw [← hW4]
  clear hW4
  obtain ⟨W5, hW5⟩ : ∃ W5, W5 = W4.alloc (.cells #[.int .i64 0] 3) := ⟨_, rfl⟩
  have hn5 : Boxed W5 (W.heap.size + 1 + 1 + 1 + 1) 3 (.int .i64 0) := by have h := Boxed.new W4 3 (.int .i64 0); rw [hb4.size] at h; rw [hW5]; exact h
  have hl5 : Below W4.heap.size W4 W5 := by rw [hW5]; exact (Below.refl _ _).alloc (Nat.le_refl _) _
  have hz5 : W5.heap.size = W.heap.size + 5 := by rw [hW5]; simp [hb4.size]
  rw [← hW5]
  clear hW5
  have HB4 := Lib.hid hb4
  have HN5 := Lib.hid hn5
  have HL5 := Lib.hid hl5
  have HZ5 := Lib.hid hz5
  clear hb4 hn5 hl5 hz5
  refine (callsIn_wide.2 (splits_any gb f t r fv _ W5)).mono ?_
  rintro e w' ⟨rfl, hw'⟩
  have hb9 := box4_is W5 gb r fv (.slice (some ⟨pb, 0, none⟩) 2 cap) f t
  unfold box4 at hb9
  rw [hw'] at hb9
  clear hw'
  have HB9 := Lib.hid hb9
  clear hb9
  gi_wp2
  have hB := HS.out.below (HB4.out.below.trans (HL5.out.mono HB4.out.below.size))
  have hW9 : Below W.heap.size W w' := (HB4.out.below.trans (HL5.out.mono HB4.out.below.size)).trans (HB9.out.below.mono (by rw [HZ5.out]; omega))
  have hG9 := mapG_below HG.out hW9
  have hn9 : Boxed w' (W.heap.size + 1 + 1 + 1 + 1) 3 (.int .i64 0) := (HB9.out.below.block _ HN5.out.lt).trans HN5.out
  have hmW : m < W.heap.size := (Array.getElem?_eq_some_iff.1 (mapG_map HG.out).choose_spec.choose_spec).1
  obtain ⟨R, hRe⟩ : ∃ R, R = mkR m (MapG g) (W.heap.size + 1 + 1 + 1 + 1) W.heap.size := ⟨_, rfl⟩
  have hok9 : R.ok w' := by rw [hRe]; exact ok_start hG9 hmW (by omega) hn9 (by decide) rfl
  have hcn : Counts R m g W0 := by rw [hRe]; exact counts_mkR HS.out.size
  have hsf : ∀ b, W.heap.size ≤ b → b ≠ W.heap.size + 1 + 1 + 1 + 1 → b < w'.heap.size → R.sf w' b := fun b h1 h3 h2 => by rw [hRe]; exact ⟨h2, by omega, h3, by rw [rowOf_boxed hn9]; simp [Value.ownBlock]⟩
  have hz9 := HB9.out.size
  have hz5 := HZ5.out
  have hlv : Leaves R m W := by rw [hRe]; exact (counts_mkR (g := g) (Nat.le_refl _)).leaves
  have hs9 := HS.out.below hW9
  have hseq := splits_seq HGr.out hcn.leaves hs9 hok9 f t hft ht r.glue (W5.heap.size + 1 + 1) (W5.heap.size + 1 + 1 + 1) (W5.heap.size + 1) W5.heap.size HB9.out.lo HB9.out.hi HB9.out.row4 HB9.out.ptr
    (hsf _ (by omega) (by omega) (by omega)) (hsf _ (by omega) (by omega) (by omega)) (hsf _ (by omega) (by omega) (by omega)) (hsf _ (by omega) (by omega) (by omega))
  refine wpIn_range_M rfl (enters_of Tryz.func159 (by kernel_rfl) rfl) hseq hok9 (fun _ _ _ h => by rw [h]; rfl)
    (fun pre X => Boxed X (W.heap.size + 1 + 1 + 1 + 1) 3 (.int .i64 ((pre.foldl (pairStep (cntS g) k1 k2 f t) 0 : Nat) : Int)) ∧ W.grownBy X (some m))
    (fun _ _ _ => False) ?hI (fun _ _ _ _ _ _ _ _ h => h) ⟨hn9, below_grown hW9⟩ ?round ?done ?stop
  case hI =>
    rintro pre X Y row hgr hr hok ⟨h1, h2⟩
    exact ⟨boxed_abides h1 (by decide) (by rw [hcn.leaves.1]; omega) hgr hr, grown_abides hcn.leaves.1 hW9.size h2 hgr hr⟩
  case stop => intro D c pre X _ _ h; exact h.elim
  case done =>
    rintro D X hD ⟨h1, h2⟩ hk hok hd _
    have hc := h1.cell
    gi_wp2
    refine ⟨by simp, .inl ⟨_, _, rfl, run_takeDeferred hd, ?_⟩⟩
    refine ⟨_, results_tmp rfl _ _ _, rfl, ?_, ?_⟩
    · exact grown_next h2 (grownBy_putObj' X D (.deferred none)) (fun r e => by cases e; exact .inr (Nat.le_trans hW9.size hD))
    · have hmD : D ≠ m := by have := hW9.size; omega
      rw [World.putObj_heap_other (Ne.symm hmD)]
      exact hcn.good _ hok
  case round =>
    intro l pre vs x X hl hI hvs hkX hokX hpre
    subst hvs
    gi_wp2
    refine ⟨Kp.refl _, hI, ?_⟩
    intro W2 hl2 hr2 hsl2 hI2 hk2 hok2 hsz2 _
    have hs2 := hs9.kp hcn.leaves hok9 hk2
    have hG2 := hcn.good _ hok2
    have hx := splitsS_mem (hpre.subset (List.mem_append_right _ (List.mem_singleton.2 rfl)))
    have hsW2 := ((Since.refl (mapG_map HG.out)).below hW9).kp hlv hok9 hk2
    have h49 : Below W4.heap.size W4 w' := HL5.out.trans (HB9.out.below.mono HL5.out.size)
    have hz4 := HB4.out.size
    have old : ∀ (b o : Nat) (v : Value), W.heap.size ≤ b → b < W.heap.size + 4 → W4.cell? ⟨b, o, none⟩ = some v → W2.cell? ⟨b, o, none⟩ = some v := fun b o v h1 h2 h3 =>
      (World.cell?_of_block (a := ⟨b, o, none⟩) (hk2.same b (hsf b h1 (by omega) (by omega))).2).trans (cell_kept' h49 h3)
    have c0 := old _ _ _ (by omega) (by omega) HB4.out.ptr
    have c1 := old _ _ _ (by omega) (by omega) HB4.out.row3
    have c2 := old _ _ _ (by omega) (by omega) HB4.out.lo
    have c3 := old _ _ _ (by omega) (by omega) HB4.out.hi
    have c4 := hsW2.cell C0.out
    have c5 := hsW2.cell C1.out
    obtain ⟨S, hS⟩ : ∃ S : World → Prop, S = fun X => W2.grownBy X (some m) ∧ MapG g X.heap[m]? := ⟨_, rfl⟩
    have keep : ∀ (X : World) (a : Addr) (v : Value), S X → W2.cell? a = some v → X.cell? a = some v := fun X a v h hc => by
      rw [hS] at h
      exact ((Since.refl (mapG_map hG2)).grown h.1).cell hc
    have hn2 := hI2.1.cell
    have f6 := fun X h => keep X _ _ h hn2
    have f0 := fun X h => keep X _ _ h c0
    have f1 := fun X h => keep X _ _ h c1
    have f2 := fun X h => keep X _ _ h c2
    have f3 := fun X h => keep X _ _ h c3
    have f4 := fun X h => keep X _ _ h c4
    have f5 := fun X h => keep X _ _ h c5
    have hSd : S W2.drew := by rw [hS]; exact ⟨⟨rfl, rfl, rfl, Nat.le_refl _, fun _ _ _ => rfl⟩, hG2⟩
    have HKeep := Lib.hid keep
    have HSS := Lib.hid hS
    have HG2 := Lib.hid hG2
    clear keep hS old c0 c1 c2 c3 c4 c5 hG2 hn2
    gi_wp2
    refine regionM S 9 (by kernel_rfl) hSd (fun hpo hS0 => ?_)
    refine takeM (i := 0) 38 (.pointer (some ⟨gb, 0, none⟩)) hpo rfl (by kernel_rfl) (fun _ _ _ h => h) rfl (by rfl) (fun X hX => (by have g0 := f0 X hX; go_simp)) (fun _ => rfl) hS0 (fun hS1 => ?_)
    simp only [List.setIfInBounds_toArray, List.set_cons_zero, List.set_cons_succ]
    refine takeM (i := 1) 39 (.pointer (some ⟨W.heap.size + 1, 3, none⟩)) hpo rfl (by kernel_rfl) (fun _ _ _ h => h) rfl (by rfl) (fun X hX => (by go_simp)) (fun _ => rfl) hS1 (fun hS2 => ?_)
    simp only [List.setIfInBounds_toArray, List.set_cons_zero, List.set_cons_succ]
    refine takeM (i := 2) 40 (.slice (some ⟨pb, 0, none⟩) 2 cap) hpo rfl (by kernel_rfl) (fun _ _ _ h => h) rfl (by rfl) (fun X hX => (by have g1 := f1 X hX; go_simp)) (fun _ => rfl) hS2 (fun hS3 => ?_)
    simp only [List.setIfInBounds_toArray, List.set_cons_zero, List.set_cons_succ]
    refine takeM (i := 3) 41 (.pointer (some ⟨pb, 0, none⟩)) hpo rfl (by kernel_rfl) (fun _ _ _ h => h) rfl (by rfl) (fun X hX => (by go_simp)) (fun _ => rfl) hS3 (fun hS4 => ?_)
    simp only [List.setIfInBounds_toArray, List.set_cons_zero, List.set_cons_succ]
    refine takeM (i := 4) 42 (.int .u8 k1) hpo rfl (by kernel_rfl) (fun _ _ _ h => h) rfl (by rfl) (fun X hX => (by have g4 := f4 X hX; go_simp)) (fun _ => rfl) hS4 (fun hS5 => ?_)
    simp only [List.setIfInBounds_toArray, List.set_cons_zero, List.set_cons_succ]
    refine takeM (i := 5) 43 (.int .i64 f) hpo rfl (by kernel_rfl) (fun _ _ _ h => h) rfl (by rfl) (fun X hX => (by have g2 := f2 X hX; go_simp)) (fun _ => rfl) hS5 (fun hS6 => ?_)
    simp only [List.setIfInBounds_toArray, List.set_cons_zero, List.set_cons_succ]
    refine takeM (i := 6) 44 (.int .i64 x.1) hpo rfl (by kernel_rfl) (fun _ _ _ h => h) rfl (by rfl) (fun X hX => (by go_simp)) (fun _ => rfl) hS6 (fun hS7 => ?_)
    simp only [List.setIfInBounds_toArray, List.set_cons_zero, List.set_cons_succ]
    refine oneM (i := 7) rfl (by kernel_rfl) (by rfl) (fun K hK => ?_)
    go_simp
    refine CallsIn.inRound l (callsIn_wide.2 ((HC.out k1 f x.1 (Nat.le_refl _) (by omega) (by omega) (by omega) _ hs2.drew HG2.out).mono ?_))
    rintro e W3 ⟨rfl, hg3, hG3⟩
    refine hK _ _ (fun _ => (by rw [HSS.out]; exact ⟨grown_undrew hg3, hG3⟩)) (fun hT8 => ?_)
    have hS8 := hT8 (by decide)
    clear hK K
    refine takeM (i := 8) 12 (.int .i64 (cntS g k1 f x.1)) hpo rfl (by kernel_rfl) (fun _ _ _ h => h) rfl (by rfl) (fun X hX => (by go_simp)) (fun _ => rfl) hS8 (fun hS9 => ?_)
    simp only [List.setIfInBounds_toArray, List.set_cons_zero, List.set_cons_succ]
    refine doneM (by kernel_rfl) ?_ _
    obtain ⟨a1, ha1⟩ : ∃ a1, a1 = cntS g k1 f x.1 := ⟨_, rfl⟩
    have hle1 : a1 ≤ most := by rw [ha1]; exact cntS_le _ _ _ _
    rw [← ha1]
    have HA1 := Lib.hid ha1
    clear ha1
    by_cases hpos : 0 < a1
    · have hp1 : decide ((0 : Int) < (a1 : Int)) = true := by simpa using hpos
      gi_wp2
      obtain ⟨N, hN⟩ : ∃ N, N = pre.foldl (pairStep (cntS g) k1 k2 f t) 0 := ⟨_, rfl⟩
      have hNle : N ≤ most := by rw [hN]; exact le_most_foldl (fun _ _ h => pairStep_le h) _ _ (Nat.zero_le _)
      rw [← hN] at f6
      have HN := Lib.hid hN
      clear hN
      obtain ⟨a2, ha2⟩ : ∃ a2, a2 = cntS g k2 x.2 t := ⟨_, rfl⟩
      have hle2 : a2 ≤ most := by rw [ha2]; exact cntS_le _ _ _ _
      have HA2 := Lib.hid ha2
      clear ha2
      obtain ⟨p, hp⟩ : ∃ p, p = a1 * a2 := ⟨_, rfl⟩
      have hple : p ≤ 1000000000000 := by rw [hp]; exact Nat.mul_le_mul hle1 hle2
      have hw10 : IntKind.i64.wrap ((a1 : Int) * (a2 : Int)) = (p : Int) := by rw [hp, ← Int.natCast_mul]; exact IntWalk.i64_in _ (by rw [← hp]; omega)
      have hSw3 := hS9
      have HP := Lib.hid hp
      clear hp
      obtain ⟨q, hq⟩ : ∃ q, q = min most p := ⟨_, rfl⟩
      have hm11 : min (1000000 : Int) (p : Int) = (q : Int) := by rw [hq]; unfold most; omega
      have hqle : q ≤ 1000000 := by rw [hq]; exact Nat.min_le_left _ _
      have HQ := Lib.hid hq
      clear hq
      obtain ⟨u, hu⟩ : ∃ u, u = N + q := ⟨_, rfl⟩
      have hw12 : IntKind.i64.wrap (u : Int) = (u : Int) := by rw [hu]; exact IntWalk.i64_in _ (by unfold most at hNle; omega)
      have hw12' : (N : Int) + (q : Int) = (u : Int) := by rw [hu]; omega
      obtain ⟨N', hN'⟩ : ∃ N', N' = min most u := ⟨_, rfl⟩
      have hm13 : min (1000000 : Int) (u : Int) = (N' : Int) := by rw [hN']; unfold most; omega
      have HU := Lib.hid hu
      have HN' := Lib.hid hN'
      clear hu hN'
      have hS3d : S W3.drew := by rw [HSS.out] at hS9 ⊢; exact ⟨⟨hS9.1.os, hS9.1.tape, hS9.1.output, hS9.1.size, hS9.1.block⟩, hS9.2⟩
      have hs3 : Since m W0 W3 := by rw [HSS.out] at hS9; exact hs2.grown hS9.1
      clear hS0 hS1 hS2 hS3 hS4 hS5 hS6 hS7 hS8 hpo
      refine regionM S 14 (by kernel_rfl) hS3d (fun hpo hS0 => ?_)
      refine takeM (i := 0) 48 (.int .i64 N) hpo rfl (by kernel_rfl) (fun _ _ _ h => h) rfl (by rfl) (fun X hX => (by have g6 := f6 X hX; go_simp)) (fun _ => rfl) hS0 (fun hS1 => ?_)
      simp only [List.setIfInBounds_toArray, List.set_cons_zero, List.set_cons_succ]
      refine takeM (i := 1) 49 (.int .i64 a1) hpo rfl (by kernel_rfl) (fun _ _ _ h => h) rfl (by rfl) (fun X hX => (by go_simp)) (fun _ => rfl) hS1 (fun hS2 => ?_)
      simp only [List.setIfInBounds_toArray, List.set_cons_zero, List.set_cons_succ]
      refine takeM (i := 2) 50 (.pointer (some ⟨gb, 0, none⟩)) hpo rfl (by kernel_rfl) (fun _ _ _ h => h) rfl (by rfl) (fun X hX => (by have g0 := f0 X hX; go_simp)) (fun _ => rfl) hS2 (fun hS3 => ?_)
      simp only [List.setIfInBounds_toArray, List.set_cons_zero, List.set_cons_succ]
      refine takeM (i := 3) 51 (.pointer (some ⟨W.heap.size + 1, 3, none⟩)) hpo rfl (by kernel_rfl) (fun _ _ _ h => h) rfl (by rfl) (fun X hX => (by go_simp)) (fun _ => rfl) hS3 (fun hS4 => ?_)
      simp only [List.setIfInBounds_toArray, List.set_cons_zero, List.set_cons_succ]
      refine takeM (i := 4) 52 (.slice (some ⟨pb, 0, none⟩) 2 cap) hpo rfl (by kernel_rfl) (fun _ _ _ h => h) rfl (by rfl) (fun X hX => (by have g1 := f1 X hX; go_simp)) (fun _ => rfl) hS4 (fun hS5 => ?_)
      simp only [List.setIfInBounds_toArray, List.set_cons_zero, List.set_cons_succ]
      refine takeM (i := 5) 53 (.pointer (some ⟨pb, 1, none⟩)) hpo rfl (by kernel_rfl) (fun _ _ _ h => h) rfl (by rfl) (fun X hX => (by go_simp)) (fun _ => rfl) hS5 (fun hS6 => ?_)
      simp only [List.setIfInBounds_toArray, List.set_cons_zero, List.set_cons_succ]
      refine takeM (i := 6) 54 (.int .u8 k2) hpo rfl (by kernel_rfl) (fun _ _ _ h => h) rfl (by rfl) (fun X hX => (by have g5 := f5 X hX; go_simp)) (fun _ => rfl) hS6 (fun hS7 => ?_)
      simp only [List.setIfInBounds_toArray, List.set_cons_zero, List.set_cons_succ]
      refine takeM (i := 7) 55 (.int .i64 x.2) hpo rfl (by kernel_rfl) (fun _ _ _ h => h) rfl (by rfl) (fun X hX => (by go_simp)) (fun _ => rfl) hS7 (fun hS8 => ?_)
      simp only [List.setIfInBounds_toArray, List.set_cons_zero, List.set_cons_succ]
      refine takeM (i := 8) 56 (.int .i64 t) hpo rfl (by kernel_rfl) (fun _ _ _ h => h) rfl (by rfl) (fun X hX => (by have g3 := f3 X hX; go_simp)) (fun _ => rfl) hS8 (fun hS9 => ?_)
      simp only [List.setIfInBounds_toArray, List.set_cons_zero, List.set_cons_succ]
      refine oneM (i := 9) rfl (by kernel_rfl) (by rfl) (fun K hK => ?_)
      go_simp
      refine CallsIn.inRound l (callsIn_wide.2 ((HC.out k2 x.2 t (by omega) (by omega) (Nat.le_refl _) (by omega) _ hs3.drew hG3).mono ?_))
      rintro e W6 ⟨rfl, hg6, hG6⟩
      rw [← HA2.out]
      refine hK _ _ (fun _ => (by rw [HSS.out] at hSw3 ⊢; exact ⟨grownBy_trans' hSw3.1 (grown_undrew hg6), hG6⟩)) (fun hT10 => ?_)
      have hS10 := hT10 (by decide)
      clear hK K
      refine takeM (i := 10) 58 (.int .i64 p) hpo rfl (by kernel_rfl) (fun _ _ _ h => h) rfl (by rfl) (fun X hX => (by go_simp)) (fun _ => rfl) hS10 (fun hS11 => ?_)
      simp only [List.setIfInBounds_toArray, List.set_cons_zero, List.set_cons_succ]
      refine takeM (i := 11) 59 (.int .i64 q) hpo rfl (by kernel_rfl) (fun _ _ _ h => h) rfl (by rfl) (fun X hX => (by go_simp)) (fun _ => rfl) hS11 (fun hS12 => ?_)
      simp only [List.setIfInBounds_toArray, List.set_cons_zero, List.set_cons_succ]
      refine takeM (i := 12) 60 (.int .i64 u) hpo rfl (by kernel_rfl) (fun _ _ _ h => h) rfl (by rfl) (fun X hX => (by go_simp)) (fun _ => rfl) hS12 (fun hS13 => ?_)
      simp only [List.setIfInBounds_toArray, List.set_cons_zero, List.set_cons_succ]
      refine takeM (i := 13) 61 (.int .i64 N') hpo rfl (by kernel_rfl) (fun _ _ _ h => h) rfl (by rfl) (fun X hX => (by go_simp)) (fun _ => rfl) hS13 (fun hS14 => ?_)
      simp only [List.setIfInBounds_toArray, List.set_cons_zero, List.set_cons_succ]
      have hS6w := hS14
      rw [HSS.out] at hS6w
      have hbx : Boxed W6 (W.heap.size + 1 + 1 + 1 + 1) 3 (.int .i64 N) := by rw [HN.out]; exact hI2.1.kept hS6w.1 (fun e => by have := Option.some.inj e; omega)
      have hc6 := hbx.cell
      have hf6 := hbx.frozen
      refine oneM (i := 14) rfl (by kernel_rfl) (by rfl) (fun K hK => ?_)
      go_simp
      refine hK _ _ (fun h => absurd h (by decide)) (fun _ => ?_)
      clear hK K
      refine doneM (by kernel_rfl) ?_ _
      have hfold : (pre ++ [x]).foldl (pairStep (cntS g) k1 k2 f t) 0 = N' := by
        rw [List.foldl_append, ← HN.out]
        simp only [List.foldl_cons, List.foldl_nil]
        unfold pairStep
        rw [← HA1.out, if_pos hpos, ← HA2.out, ← HP.out, ← HQ.out, ← HU.out, ← HN'.out]
      have hbx' := hbx.set (.int .i64 N')
      have hgr : W2.grownBy W6 (some m) := hS6w.1
      refine ⟨?_, ?_, ?_⟩
      · rw [hRe]
        refine kp_body hI2.1 (Nat.le_trans hgr.size (grownBy_setCell' W6 (W.heap.size + 1 + 1 + 1 + 1) (.int .i64 N')).size) (fun b h1 h2 h3 _ => ?_) (fun _ => ?_) hbx' (fun r e => by cases e)
        · exact (Below.heap_setCell _ _ _ _ h3).trans (hgr.block b h1 (fun e => h2 (Option.some.inj e)))
        · rw [Below.heap_setCell _ _ _ _ (by show m ≠ W.heap.size + 1 + 1 + 1 + 1; omega)]; exact hS6w.2
      · rw [hfold]; exact hbx'
      · exact grown_next (grownBy_trans' hI2.2 hgr) (grownBy_setCell' W6 (W.heap.size + 1 + 1 + 1 + 1) (.int .i64 N')) (fun r e => by cases e; exact .inr (by omega))
    · have hp1 : decide ((0 : Int) < (a1 : Int)) = false := by simpa using hpos
      gi_wp2
      have hSw3 := hS9
      rw [HSS.out] at hSw3
      have hfold : (pre ++ [x]).foldl (pairStep (cntS g) k1 k2 f t) 0 = pre.foldl (pairStep (cntS g) k1 k2 f t) 0 := by
        rw [List.foldl_append]
        simp only [List.foldl_cons, List.foldl_nil]
        unfold pairStep
        rw [← HA1.out, if_neg hpos]
      have hmv := hcn.mv hSw3.1 (fun _ => hSw3.2)
      exact ⟨hmv.kp hok2, by rw [hfold]; exact hI2.1.kept hSw3.1 (fun e => by have := Option.some.inj e; omega), grownBy_trans' hI2.2 hSw3.1⟩
end Go.Proofs.YthmnffgjckpkiaaGreatDoor
namespace Go.Proofs.YthmnffgjckpkiaaGreatDoor
open Go Go.RowKit Go.Shelf

theorem parts_any {m gb : Nat} {g : Gr} {ended : Bool} {W0 : World} (hg : Gram m gb g ended W0) (r : RowS) (hr : RowOk r) (fv pv : Value) (hp : PartsAt W0 pv r.parts) (f t : Nat) (hft : f ≤ t) (ht : t ≤ g.toks.length)
    (hC : ∀ k f' t', f ≤ f' → f' ≤ t' → t' ≤ t → (t' - f' < t - f ∨ (f' = f ∧ t' = t ∧ r.parts.length = 1)) → CountAt m gb g W0 k f' t') (W : World) (hs : Since m W0 W) (hG : MapG g W.heap[m]?) :
    Calls Tryz.prog 80 #[.pointer (some ⟨gb, 0, none⟩), rowV r fv pv, .int .i64 f, .int .i64 t] W fun e W' => e = .returned (.int .i64 (partsS g r f t)) ∧ W.grownBy W' (some m) ∧ MapG g W'.heap[m]? := by
  cases hps : r.parts with
  | nil => rw [hps] at hp; exact parts_nil r fv pv hp hps f t W hG
  | cons k1 ks =>
    cases ks with
    | nil => rw [hps] at hp; exact parts_one r fv pv k1 hp hps f t (hC k1 f t (Nat.le_refl _) hft (Nat.le_refl _) (.inr ⟨rfl, rfl, by rw [hps]; rfl⟩)) W hs hG
    | cons k2 ks =>
      have : ks = [] := by
        have h := hr.two
        rw [hps] at h
        cases ks with
        | nil => rfl
        | cons a b => simp at h
      subst this
      rw [hps] at hp
      exact parts_two hg r fv pv k1 k2 hp hps f t hft ht (fun k f' t' h1 h2 h3 h4 => hC k f' t' h1 h2 h3 (.inl h4)) W hs hG

theorem count_none {m gb : Nat} {g : Gr} {W0 : World} (k f t : Nat) (h : t ≤ f) : CountAt m gb g W0 k f t := by
  intro W hs hG
  rw [cntS_zero g h]
  have hd : decide ((f : Int) < (t : Int)) = false := by simpa using h
  have HG := Lib.hid hG
  clear hG hs
  go_enter Tryz.func78, Tryz.ntmps78
  go_wp2
  go_ret
  exact ⟨rfl, below_grown (Below.refl _ _), HG.out⟩

/-- The rows so far. -/
def rowsTo (g : Gr) (k f t j : Nat) : Nat := ((rowsS g).take j).foldl (rowStep (partsS g) k f t) 0
theorem rowsTo_step {g : Gr} {k f t j : Nat} (h : j < (rowsS g).length) : rowsTo g k f t (j + 1) = rowStep (partsS g) k f t (rowsTo g k f t j) (rowsS g)[j] := by
  unfold rowsTo
  rw [List.take_succ_eq_append_getElem h, List.foldl_append]
  rfl
theorem rowsTo_le (g : Gr) (k f t j : Nat) : rowsTo g k f t j ≤ most := le_most_foldl (fun _ _ h => rowStep_le h) _ _ (Nat.zero_le _)

set_option maxRecDepth 100000 in
set_option maxHeartbeats 4000000 in
theorem count_step {m gb : Nat} {g : Gr} {ended : Bool} {W0 : World} (hg : Gram m gb g ended W0) (k f t : Nat) (hft : f < t) (ht : t ≤ g.toks.length)
    (hC : ∀ k f' t', f ≤ f' → f' ≤ t' → t' ≤ t → t' - f' < t - f → CountAt m gb g W0 k f' t') : CountAt m gb g W0 k f t := by
  intro W hs hG
  have hd2 : decide (t ≤ f) = false := by simpa using hft
  obtain ⟨W1, hW1⟩ : ∃ W1, W1 = W.alloc (.cells #[.int .u8 k, .int .i64 f, .int .i64 t] 160) := ⟨_, rfl⟩
  have hb1 : Below W.heap.size W W1 := by rw [hW1]; exact (Below.refl _ _).alloc (Nat.le_refl _) _
  have q0 : W1.cell? ⟨W.heap.size, 0, none⟩ = some (.int .u8 k) := by rw [hW1]; go_simp
  have q1 : W1.cell? ⟨W.heap.size, 1, none⟩ = some (.int .i64 f) := by rw [hW1]; go_simp
  have q2 : W1.cell? ⟨W.heap.size, 2, none⟩ = some (.int .i64 t) := by rw [hW1]; go_simp
  have hs1 := hs.below hb1
  have hG1 := mapG_below hG hb1
  have c5 := hs1.cell hg.counts
  obtain ⟨tb, c4, hrows⟩ := hg.table
  have c4' := hs1.cell c4
  have HW1 := Lib.hid hW1
  have HC := Lib.hid hC
  have HG := Lib.hid hg
  have HS1 := Lib.hid hs1
  have HG1 := Lib.hid hG1
  have HRows := Lib.hid hrows
  have HB1 := Lib.hid hb1
  have HGW := Lib.hid hG
  clear hC hG hg hs hs1 hW1 hrows hb1
  go_enter Tryz.func78, Tryz.ntmps78
  go_wp2
  rw [← HW1.out]
  rcases look_same g k f t m _ hG1 with hlk | hlk
  · have hl2 : ∀ n, (Instr.lookup 86 (.map (some m)) (.agg #[.int .u8 k, .int .i64 f, .int .i64 t]) true).run Tryz.prog (W1.drewN n) = .ok (.tuple #[.int .i64 (cntS g k f t), .bool true]) (W1.drewN n) := fun n => hlk (W1.drewN n) rfl
    clear hlk hG1
    go_quiet (fail)
    go_wp2
    go_ret
    have hbn : Below W.heap.size W (W1.drewN nq) := HB1.out.drewsN _
    exact ⟨rfl, below_grown hbn, HG1.out⟩
  · have hl2 : ∀ n, (Instr.lookup 86 (.map (some m)) (.agg #[.int .u8 k, .int .i64 f, .int .i64 t]) true).run Tryz.prog (W1.drewN n) = .ok (.tuple #[.int .i64 0, .bool false]) (W1.drewN n) := fun n => hlk (W1.drewN n) rfl
    clear hlk hG1
    go_quiet (fail)
    clear hl2
    obtain ⟨W2, hW2⟩ : ∃ W2, W2 = W1.drewN nq := ⟨_, rfl⟩
    have hb2 : Below W.heap.size W W2 := by rw [hW2]; exact HB1.out.drewsN _
    have hs2 : Since m W0 W2 := by rw [hW2]; exact HS1.out.below ((Below.refl _ _).drewsN _)
    have hG2 : MapG g W2.heap[m]? := by rw [hW2]; exact HG1.out
    have r0 : W2.cell? ⟨W.heap.size, 0, none⟩ = some (.int .u8 k) := by rw [hW2]; exact q0
    have r1 : W2.cell? ⟨W.heap.size, 1, none⟩ = some (.int .i64 f) := by rw [hW2]; exact q1
    have r2 : W2.cell? ⟨W.heap.size, 2, none⟩ = some (.int .i64 t) := by rw [hW2]; exact q2
    have c5' : W2.cell? ⟨gb, 5, none⟩ = some (.map (some m)) := by rw [hW2]; exact c5
    have c4'' : W2.cell? ⟨gb, 4, none⟩ = some (.slice (some ⟨tb, 0, none⟩) 24 24) := by rw [hW2]; exact c4'
    rw [← hW2]
    have hmW : m < W.heap.size := (Array.getElem?_eq_some_iff.1 (mapG_map HGW.out).choose_spec.choose_spec).1
    have HS2 := Lib.hid hs2
    have HG2 := Lib.hid hG2
    have HB2 := Lib.hid hb2
    have R0 := Lib.hid r0
    have R1 := Lib.hid r1
    have R2 := Lib.hid r2
    have C5 := Lib.hid c5'
    clear hW2 q0 q1 q2 c5 c4' c4 hs2 hG2 hb2 r0 r1 r2 c5'
    go_wp2
    go_loopw [12, 40] (fun v i wr => ∃ j : Nat, j ≤ 24 ∧ i = .int .i64 j ∧ v = .int .i64 (rowsTo g k f t j : Nat) ∧ W2.grownBy wr (some m) ∧ MapG g wr.heap[m]?) (fun _ i _ => 24 - (intOf i).toNat)
    case atStart => exact ⟨0, by omega, rfl, rfl, ⟨rfl, rfl, rfl, Nat.le_refl _, fun _ _ _ => rfl⟩, HG2.out⟩
    case round =>
      obtain ⟨j, hj, rfl, rfl, hgr, hGr⟩ := hrel
      by_cases hlt : j < 24
      · obtain ⟨fv, pv, hrow, a0, a1, a2, a3, a4⟩ := HRows.out j hlt
        have hsr := HS2.out.grown hgr
        have b0 := hsr.cell a0
        have b1 := hsr.cell a1
        have b2 := hsr.cell a2
        have b3 := hsr.cell a3
        have b4 := hsr.cell a4
        obtain ⟨r, hr⟩ : ∃ r, r = (rowsS g)[j]'hlt := ⟨_, rfl⟩
        rw [← hr] at b0 b1 b4 hrow
        have hrok : RowOk r := by rw [hr]; exact rowsS_ok g _ (List.getElem_mem hlt)
        have hst := rowsTo_step (g := g) (k := k) (f := f) (t := t) hlt
        rw [← hr] at hst
        obtain ⟨fo, bd, caps, rfl, he, hop⟩ := hrow.opn
        obtain ⟨pa, pcap, rfl, hpp⟩ := hrow.parts
        have b4' : wr.cell? ⟨tb, j * 5 + 4, none⟩ = some (.string ⟨r.glue.toArray⟩) := b4
        have HOp := Lib.hid hop
        clear hop hpp b4
        have HR := Lib.hid hr
        have HRow := Lib.hid hrow
        have HRok := Lib.hid hrok
        have HSt := Lib.hid hst
        have HSr := Lib.hid hsr
        have HGr := Lib.hid hGr
        have HGrow := Lib.hid hgr
        clear hr hrow hrok hst hsr hGr hgr a0 a1 a2 a3 a4
        by_cases hk : r.kind = k
        · have hk1 : ((r.kind : Int) == (k : Int)) = true := by simp; omega
          have hk2 : ((r.kind : Int) != (k : Int)) = false := by simp; omega
          have HK := Lib.hid hk
          clear hk
          have hgw := HGrow.out.size
          go_wp2
          obtain ⟨wo, rfl⟩ : ∃ wo : World, wo = wr := ⟨_, rfl⟩
          obtain ⟨w2, hw2⟩ : ∃ w2, w2 = wo.alloc (.cells #[.int .u8 r.rule, .int .u8 r.kind, .func (.func fo) bd caps, .slice pa r.parts.length pcap, .string ⟨r.glue.toArray⟩] 124) := ⟨_, rfl⟩
          have hb2 : Below wo.heap.size wo w2 := by rw [hw2]; exact (Below.refl _ _).alloc (Nat.le_refl _) _
          have e0 : w2.cell? ⟨wo.heap.size, 0, none⟩ = some (.int .u8 r.rule) := by rw [hw2]; go_simp
          have e1 : w2.cell? ⟨wo.heap.size, 1, none⟩ = some (.int .u8 r.kind) := by rw [hw2]; go_simp
          have e2 : w2.cell? ⟨wo.heap.size, 2, none⟩ = some (.func (.func fo) bd caps) := by rw [hw2]; go_simp
          have e3 : w2.cell? ⟨wo.heap.size, 3, none⟩ = some (.slice pa r.parts.length pcap) := by rw [hw2]; go_simp
          have e4 : w2.cell? ⟨wo.heap.size, 4, none⟩ = some (.string ⟨r.glue.toArray⟩) := by rw [hw2]; go_simp
          have hz2 : w2.heap.size = wo.heap.size + 1 := by rw [hw2]; simp
          rw [← hw2]
          clear hw2
          refine (HOp.out w2 (HSr.out.below hb2) f t (by omega) ht).mono ?_
          rintro e w3 ⟨v, rfl, ho, hb3, _⟩
          have hs3 := (HSr.out.below hb2).below hb3
          have hG3 := mapG_below (mapG_below HGr.out hb2) hb3
          have hg3 : W2.grownBy w3 (some m) := grownBy_trans' HGrow.out (grownBy_trans' (below_grown hb2) (below_grown hb3))
          have E0 := Lib.hid (cell_kept' hb3 e0)
          have E1 := Lib.hid (cell_kept' hb3 e1)
          have E2 := Lib.hid (cell_kept' hb3 e2)
          have E3 := Lib.hid (cell_kept' hb3 e3)
          have E4 := Lib.hid (cell_kept' hb3 e4)
          obtain ⟨oa, ocap, rfl, hol, hoc⟩ := ho
          obtain ⟨os, hos⟩ : ∃ os, os = r.opn f t := ⟨_, rfl⟩
          rw [← hos] at hol hoc ⊢
          have HOs := Lib.hid hos
          have HOc := Lib.hid hoc
          have HS3 := Lib.hid hs3
          have HG3 := Lib.hid hG3
          have HGr3 := Lib.hid hg3
          clear hos hoc hs3 hG3 hg3 e0 e1 e2 e3 e4 hb2 hb3
          obtain ⟨N, hN⟩ : ∃ N, N = rowsTo g k f t j := ⟨_, rfl⟩
          have hNle : N ≤ most := by rw [hN]; exact rowsTo_le _ _ _ _ _
          rw [← hN]
          have HN := Lib.hid hN
          clear hN
          go_wp2
          go_loopw [12, 54] (fun v i wr => ∃ q : Nat, q ≤ os.length ∧ i = .int .i64 q ∧ v = .int .i64 ((os.take q).foldl (opnStep (partsS g) r t) N : Nat) ∧ w3.grownBy wr (some m) ∧ MapG g wr.heap[m]?) (fun _ i _ => os.length - (intOf i).toNat)
          case atStart => exact ⟨0, Nat.zero_le _, rfl, rfl, ⟨rfl, rfl, rfl, Nat.le_refl _, fun _ _ _ => rfl⟩, HG3.out⟩
          case round =>
            obtain ⟨q, hq, rfl, rfl, hgq, hGq⟩ := hrel
            by_cases hql : q < os.length
            · rcases HOc.out with h0 | ⟨ob, rfl, hoc⟩
              · rw [h0] at hql; exact absurd hql (by simp)
              obtain ⟨o0, o1, o2⟩ := hoc q hql
              have hsq := HS3.out.grown hgq
              have hsq3 := (Since.refl (mapG_map HG3.out)).grown hgq
              have p0 := hsq3.cell o0
              have p1 := hsq3.cell o1
              have p2 := hsq3.cell o2
              obtain ⟨o, ho⟩ : ∃ o, o = os[q] := ⟨_, rfl⟩
              rw [← ho] at p0 p1 p2
              have p1' : wr.cell? ⟨ob, q * 3 + 1, none⟩ = some (.string ⟨o.word.toArray⟩) := p1
              have hom : o ∈ r.opn f t := by rw [ho, ← HOs.out]; exact List.getElem_mem hql
              have hat := HRok.out.at1 f t o (by omega) hom
              have hst2 : (os.take (q + 1)).foldl (opnStep (partsS g) r t) N = opnStep (partsS g) r t ((os.take q).foldl (opnStep (partsS g) r t) N) o := by
                rw [List.take_succ_eq_append_getElem hql, List.foldl_append, ← ho]; rfl
              have e0 := hsq3.cell E0.out
              have e1 := hsq3.cell E1.out
              have e2 := hsq3.cell E2.out
              have e3 := hsq3.cell E3.out
              have e4 := hsq3.cell E4.out
              have HOm := Lib.hid hom
              have HSt2 := Lib.hid hst2
              have HSq := Lib.hid hsq
              have HGq := Lib.hid hGq
              have HGrq := Lib.hid hgq
              obtain ⟨M, hM⟩ : ∃ M, M = (os.take q).foldl (opnStep (partsS g) r t) N := ⟨_, rfl⟩
              have hMle : M ≤ most := by rw [hM]; exact le_most_foldl (fun _ _ _ => opnStep_le) _ _ hNle
              rw [← hM] at HSt2 ⊢
              have hszq : wo.heap.size < wr.heap.size := cell_lt e0
              clear hM hom hst2 hsq hsq3 hGq hgq o0 o1 o2 p1 ho hoc
              go_wp2_with fail
              refine (parts_any HG.out r HRok.out (.func (.func fo) bd caps) (.slice pa r.parts.length pcap) HRow.out.parts o.at t hat.2 ht (fun k' f' t' h1 h2 h3 h4 => HC.out k' f' t' (by omega) h2 h3 (by
                rcases h4 with h4 | ⟨h5, h6, h7⟩
                · omega
                · have := HRok.out.one f t o (by omega) HOm.out h7; omega)) _ (HSq.out.alloc _) (mapG_below HGq.out ((Below.refl _ _).alloc (Nat.le_refl _) _))).mono ?_
              rintro e w5 ⟨rfl, hg5, hG5⟩
              have hg5' := grownBy_trans' HGrq.out (grownBy_trans' (World.grownBy_alloc _ _ _) hg5)
              obtain ⟨c, hc⟩ : ∃ c, c = partsS g r o.at t := ⟨_, rfl⟩
              have hcle : c ≤ 1000000 := by rw [hc]; exact partsS_le _ _ _ _
              rw [← hc]
              have hmin : min (1000000 : Int) ((M : Int) + (c : Int)) = ((min 1000000 (M + c) : Nat) : Int) := by omega
              have hMle' : M ≤ 1000000 := hMle
              have hstep : opnStep (partsS g) r t M o = min 1000000 (M + c) := by unfold opnStep; rw [hc]
              have HStep := Lib.hid hstep
              have HG5' := Lib.hid hg5'
              have HG5 := Lib.hid hG5
              clear hc hstep hg5' hG5 hg5 e0 e1 e2 e3 e4 p0 p1' p2 hMle
              go_wp2
              go_roundw
              case rel => exact ⟨q + 1, by omega, by go_num, by rw [HSt2.out, HStep.out], HG5'.out, HG5.out⟩
              case measure => simp [intOf]; omega
            · obtain rfl : q = os.length := by omega
              have hgq' := grownBy_trans' HGr3.out hgq
              have hfin : (os.take os.length).foldl (opnStep (partsS g) r t) N = rowStep (partsS g) k f t N r := by
                rw [List.take_length]; unfold rowStep; rw [if_pos HK.out, ← HOs.out]
              have HGq' := Lib.hid hgq'
              have HFin := Lib.hid hfin
              have HGq := Lib.hid hGq
              clear hgq' hfin hGq hgq
              go_wp2
              go_roundw
              case rel => exact ⟨j + 1, by omega, by go_num, by rw [HSt.out, HFin.out, HN.out], HGq'.out, HGq.out⟩
              case measure => simp [intOf]; omega
        · have hk1 : ((r.kind : Int) == (k : Int)) = false := by simp; omega
          have hk2 : ((r.kind : Int) != (k : Int)) = true := by simp; omega
          have HK := Lib.hid hk
          clear hk
          go_wp2
          go_roundw
          case rel =>
            refine ⟨j + 1, by omega, by go_num, ?_, ?_, ?_⟩
            · rw [HSt.out]; unfold rowStep; rw [if_neg HK.out]
            · exact grown_next HGrow.out (World.grownBy_alloc _ _ none) (fun r e => by cases e)
            · exact mapG_below HGr.out ((Below.refl _ _).alloc (Nat.le_refl _) _)
          case measure => simp [intOf]; omega
      · obtain rfl : j = 24 := by omega
        have hend : rowsTo g k f t 24 = cntS g k f t := by rw [cntS_eq g hft]; rfl
        have hsq := (Since.refl (mapG_map HG2.out)).grown hgr
        have x0 := hsq.cell R0.out
        have x1 := hsq.cell R1.out
        have x2 := hsq.cell R2.out
        have x5 := hsq.cell C5.out
        obtain ⟨w6, hrun, hg6, _, hG6⟩ := store_span g k f t m wr.drew hGr
        have hrun' : (Instr.mapUpdate 86 (.map (some m)) (.agg #[.int .u8 k, .int .i64 f, .int .i64 t]) (.int .i64 (cntS g k f t))).run Tryz.prog wr.drew = .ok () w6 := hrun
        have HFin := Lib.hid (grownBy_trans' (below_grown (m := m) HB2.out) (grownBy_trans' hgr (grown_undrew hg6)))
        have HG6 := Lib.hid hG6
        clear hrun hg6 hG6 hgr hGr hsq
        rw [hend]
        clear hend
        go_wp2
        go_region
        all_goals
          go_wp2
          go_ret
          exact ⟨rfl, HFin.out, HG6.out⟩

theorem count_any {m gb : Nat} {g : Gr} {ended : Bool} {W0 : World} (hg : Gram m gb g ended W0) : ∀ (d k f t : Nat), t - f ≤ d → t ≤ g.toks.length → CountAt m gb g W0 k f t := by
  intro d
  induction d with
  | zero => intro k f t h _; exact count_none k f t (by omega)
  | succ d ih =>
    intro k f t h ht
    by_cases hft : f < t
    · exact count_step hg k f t hft ht (fun k f' t' _ _ h3 h4 => ih k f' t' (by omega) (by omega))
    · exact count_none k f t (by omega)
theorem count_all {m gb : Nat} {g : Gr} {ended : Bool} {W0 : World} (hg : Gram m gb g ended W0) (k f t : Nat) (ht : t ≤ g.toks.length) : CountAt m gb g W0 k f t := count_any hg _ k f t (Nat.le_refl _) ht
theorem parts_all {m gb : Nat} {g : Gr} {ended : Bool} {W0 : World} (hg : Gram m gb g ended W0) (r : RowS) (hr : RowOk r) (fv pv : Value) (hp : PartsAt W0 pv r.parts) (f t : Nat) (hft : f ≤ t) (ht : t ≤ g.toks.length) (W : World) (hs : Since m W0 W) (hG : MapG g W.heap[m]?) :
    Calls Tryz.prog 80 #[.pointer (some ⟨gb, 0, none⟩), rowV r fv pv, .int .i64 f, .int .i64 t] W fun e W' => e = .returned (.int .i64 (partsS g r f t)) ∧ W.grownBy W' (some m) ∧ MapG g W'.heap[m]? :=
  parts_any hg r hr fv pv hp f t hft ht (fun k f' t' _ _ h3 _ => count_all hg k f' t' (by omega)) W hs hG
end Go.Proofs.YthmnffgjckpkiaaGreatDoor
namespace Go.Proofs.YthmnffgjckpkiaaGreatDoor
open Go Go.RowKit Go.Shelf
attribute [local go_sem] Oper.semAt_some

/-- Four cells hold a parse's value. -/
def CellsAt (W : World) (b o : Nat) (v : Value) : Prop :=
  ∃ x0 x1 x2 x3, v = .agg #[x0, x1, x2, x3] ∧ W.cell? ⟨b, o, none⟩ = some x0 ∧ W.cell? ⟨b, o + 1, none⟩ = some x1 ∧ W.cell? ⟨b, o + 2, none⟩ = some x2 ∧ W.cell? ⟨b, o + 3, none⟩ = some x3
theorem CellsAt.kept {W W' : World} {b o : Nat} {v : Value} (h : CellsAt W b o v) (hb : W'.heap[b]? = W.heap[b]?) : CellsAt W' b o v := by
  obtain ⟨x0, x1, x2, x3, rfl, h0, h1, h2, h3⟩ := h
  exact ⟨x0, x1, x2, x3, rfl, (World.cell?_of_block (a := ⟨b, o, none⟩) hb).trans h0, (World.cell?_of_block (a := ⟨b, o + 1, none⟩) hb).trans h1, (World.cell?_of_block (a := ⟨b, o + 2, none⟩) hb).trans h2, (World.cell?_of_block (a := ⟨b, o + 3, none⟩) hb).trans h3⟩

/-- The value v is the parse t in the world W; its blocks are ok. -/
inductive TreeV (ok : Nat → Prop) (W : World) : Value → Tr → Prop
  | mk (r e : Int) (w : List UInt8) (sub : List Tr) (a : Option Addr) (cap : Nat) (vs : Nat → Value)
      (hs : sub = [] ∨ ∃ b off, a = some ⟨b, off, none⟩ ∧ ok b ∧ ∀ j, j < sub.length → CellsAt W b (off + j * 4) (vs j))
      (h : ∀ j (hj : j < sub.length), TreeV ok W (vs j) sub[j]) : TreeV ok W (.agg #[.int .u8 r, .int .i64 e, .string ⟨w.toArray⟩, .slice a sub.length cap]) (.node r e w sub)

theorem TreeV.move {ok ok' : Nat → Prop} {W W' : World} (hb : ∀ b, ok b → (∃ o v, W.cell? ⟨b, o + 1, none⟩ = some v) → ok' b ∧ W'.heap[b]? = W.heap[b]?) {v : Value} {t : Tr} (h : TreeV ok W v t) : TreeV ok' W' v t := by
  induction h with
  | mk r e w sub a cap vs hs _ ih =>
    refine .mk r e w sub a cap vs ?_ ih
    rcases hs with hs | ⟨b, off, ha, hok, hc⟩
    · exact .inl hs
    · by_cases h0 : sub = []
      · exact .inl h0
      · have hc0 := hc 0 (List.length_pos_iff.2 h0)
        have hk := hb b hok (by obtain ⟨_, x1, _, _, _, _, h, _⟩ := hc0; exact ⟨_, x1, h⟩)
        exact .inr ⟨b, off, ha, hk.1, fun j hj => (hc j hj).kept hk.2⟩
/-- A parse of an iterator: its blocks are left alone. -/
abbrev TreeR (R : Rg) (W : World) (v : Value) (t : Tr) : Prop := TreeV (R.sf W) W v t
theorem TreeV.kp {R : Rg} {W W' : World} {v : Value} {t : Tr} (h : TreeR R W v t) (hk : Kp R W W') : TreeR R W' v t := h.move (fun b hb _ => hk.same b hb)
theorem treeR_abides (R : Rg) (B : Nat) (v : Value) (t : Tr) : Abides R B (fun W => TreeR R W v t) := by
  intro X Y row hg hr hok h
  refine h.move (fun b hb hc => ⟨R.move hok hg (fun r e => ?_) hb, hg.block b (R.lt hb) (fun e => ?_)⟩)
  · rcases hr r e with ⟨h, _⟩ | ⟨_, _, h⟩
    · exact .inl h
    · exact .inr h
  · rcases hr b e.symm with ⟨h, _⟩ | ⟨_, _, o, ho, hno⟩
    · exact R.ne hb h
    · obtain ⟨c, v', hc⟩ := hc
      unfold World.cell? at hc
      rw [show X.heap[b]? = _ from ho] at hc
      rcases hno with hno | ⟨u, rfl⟩
      · cases o <;> simp_all [Obj.isCells]
      · simp at hc
/-- What an iterator of parses hands over. -/
def TreeA (R : Rg) (W : World) (vs : Array Value) (t : Tr) : Prop := ∃ v, vs = #[v] ∧ TreeR R W v t
theorem treeV_form {ok : Nat → Prop} {W : World} {v : Value} {t : Tr} (h : TreeV ok W v t) : ∃ r e w a n cap, v = .agg #[.int .u8 r, .int .i64 e, .string ⟨w⟩, .slice a n cap] := by
  cases h with
  | mk r e w sub a cap vs hs h => exact ⟨r, e, _, a, _, cap, rfl⟩

theorem headed_any (r e : Int) (wd : ByteArray) (a0 a : Option Addr) (n0 c0 n c : Nat) (w : World) :
    Calls Tryz.prog 124 #[.agg #[.int .u8 r, .int .i64 e, .string wd, .slice a0 n0 c0], .slice a n c] w fun x w' => x = .returned (.agg #[.int .u8 r, .int .i64 e, .string wd, .slice a n c]) ∧ Below w.heap.size w w' := by
  go_enter Tryz.func124, Tryz.ntmps124
  go_wp2
  refine bodyPost_ret (v := .agg #[.int .u8 r, .int .i64 e, .string wd, .slice a n c]) (by simp [results, Tryz.results124, go_sem]) rfl ⟨rfl, ?_⟩
  exact ((Below.refl _ _).alloc (Nat.le_refl _) _).alloc (by simp) _

/-- A yield's round: it goes on, or it has said 'no more'. -/
def YieldOk (R : Rg) (l : Nat) {T : Type} (J Jx : List T → World → Prop) (pre : List T) (x : T) (W1 : World) : Ending → World → Prop := fun e W' =>
  (e = .returned (.bool true) ∧ J (pre ++ [x]) W' ∧ Kp R W1 W') ∨ (e = .returned (.bool false) ∧ Jx (pre ++ [x]) W' ∧ R.ok W' ∧ KpFrom R (l + 1) W1 W')
theorem set_same {W : World} {B : Nat} {t : TypeId} {v : Value} (h : Boxed W B t v) : ∀ b : Nat, (W.setCell ⟨B, 0, none⟩ v).heap[b]? = W.heap[b]? := fun b => by
  by_cases e : b = B
  · subst e; exact (h.set v).trans h.symm
  · exact Below.heap_setCell _ _ _ _ e
theorem set_eq {W : World} {B : Nat} {t : TypeId} {v : Value} (h : Boxed W B t v) : W.setCell ⟨B, 0, none⟩ v = W := by
  have hh : (W.setCell ⟨B, 0, none⟩ v).heap = W.heap := Array.ext_getElem? (set_same h)
  show ({ W with heap := (W.setCell ⟨B, 0, none⟩ v).heap } : World) = W
  rw [hh]
theorem cells_abides {R : Rg} (B b : Nat) (cs : Array Value) (t : TypeId) (fr : Nat × Nat) (hb : b ≠ R.m) (hnl : t ≠ 4 ∨ b < B) : Abides R B (fun W => W.heap[b]? = some (.cells cs t fr)) := fun X Y row hg hr _ h =>
  (hg.block b (Array.getElem?_eq_some_iff.1 h).1 (fun e => by
    rcases hr b e.symm with ⟨h1, _⟩ | ⟨hB, _, o, ho, hc⟩
    · exact hb h1
    · rcases hnl with hnl | hnl
      · rw [h] at ho
        cases ho
        rcases hc with hc | ⟨u, hc⟩
        · cases hc
        · injection hc with _ hc; exact hnl hc
      · omega)).trans h
theorem boxed_of_kp {R : Rg} {W W' : World} {B : Nat} {t : TypeId} {v : Value} (h : Boxed W B t v) (hk : Kp R W W') (hs : R.sf W B) : Boxed W' B t v := (hk.same B hs).2.trans h

theorem smallOf {R : Rg} {B : Nat} {X Y : World} {row : Option Nat} (hr : ∀ r, row = some r → (r = R.m ∧ (R.ok X → R.ok Y)) ∨ (B ≤ r ∧ r ≠ R.m ∧ ∃ o : Obj, X.heap[r]? = some o ∧ loose o)) : SmallStep R.m X row := fun r e => by
  rcases hr r e with ⟨h, _⟩ | ⟨_, _, h⟩
  · exact .inl h
  · exact .inr h
theorem sf_abides {R : Rg} (B b : Nat) : Abides R B (fun W => R.sf W b) := fun _ _ _ hg hr hok h => R.move hok hg (smallOf hr) h
theorem kpFrom_abides {R : Rg} {B n : Nat} {W : World} (hB : W.heap.size ≤ B) : Abides R B (fun X => KpFrom R n W X) := by
  rintro X Y row hg hr hokX h4
  refine ⟨Nat.le_trans h4.size hg.size, fun b hb hs => ?_⟩
  have h5 := h4.same b hb hs
  have hbl : b < W.heap.size := R.lt hs
  refine ⟨R.move hokX hg (smallOf hr) h5.1, (hg.block b (R.lt h5.1) (fun e => ?_)).trans h5.2⟩
  rcases hr b e.symm with ⟨h, _⟩ | ⟨h, _⟩
  · exact R.ne h5.1 h
  · omega
theorem kp_put {R : Rg} {W X : World} {D : Nat} {o : Obj} (o' : Obj) (hk : Kp R W X) (hok : R.ok X) (hD : W.heap.size ≤ D) (hm : D ≠ R.m) (hd : X.heap[D]? = some o) (ho : o.isCells = false) : Kp R W (X.putObj D o') :=
  ⟨by have := hk.size; simp; omega, fun b hb => ⟨move_put hok hd ho (hk.same b hb).1, (World.putObj_heap_other (by have := R.lt hb; omega)).trans (hk.same b hb).2⟩, fun _ => ok_put hok hm hd ho⟩
theorem kpFrom_put {R : Rg} {W X : World} {D n : Nat} {o : Obj} (o' : Obj) (hk : KpFrom R n W X) (hok : R.ok X) (hD : W.heap.size ≤ D) (hd : X.heap[D]? = some o) (ho : o.isCells = false) : KpFrom R n W (X.putObj D o') :=
  ⟨by have := hk.size; simp; omega, fun b hn hb => ⟨move_put hok hd ho (hk.same b hn hb).1, (World.putObj_heap_other (by have := R.lt hb; omega)).trans (hk.same b hn hb).2⟩⟩

set_option maxRecDepth 100000 in
set_option maxHeartbeats 4000000 in
theorem pass_any {R : Rg} {xs : List Tr} {w : World} (gf : Nat) (lb : Array Value) (eg : ∀ args w, (callFunc gf args).run Tryz.prog w = .ok (.enter gf args) w) (hseq : SeqM R Tryz.prog gf lb xs (TreeA R) w) (hok : R.ok w) (l : Nat) (hl : l < w.heap.size)
    (J Jx : List Tr → World → Prop) (hJ : ∀ s, Abides R w.heap.size (J s)) (hJx : ∀ s, Abides R w.heap.size (Jx s))
    (hY : ∀ pre vs x W1, J pre W1 → Kp R w W1 → R.ok W1 → TreeA R W1 vs x → (pre ++ [x]) <+: xs → YieldAt Fence.wide 0 Tryz.prog l vs W1 (YieldOk R l J Jx pre x W1)) (h0 : J [] w) :
    Calls Tryz.prog 81 #[.func (.func gf) #[] lb, .func (.yield l) #[] #[]] w fun e W' =>
      (e = .returned (.bool true) ∧ J xs W' ∧ Kp R w W') ∨ (e = .returned (.bool false) ∧ ∃ pre, pre <+: xs ∧ Jx pre W' ∧ R.ok W' ∧ KpFrom R (l + 1) w W') := by
  have HY := Lib.hid hY
  have HJ := Lib.hid hJ
  have HJx := Lib.hid hJx
  have HSeq := Lib.hid hseq
  have H0 := Lib.hid h0
  clear hY hJ hJx hseq h0
  refine (callsIn_wide (n := 3)).1 ?_
  refine callsIn_of_wp_marks Tryz.func81 rfl trivial ?_ rfl
  simp only [Tryz.ntmps81, List.size_toArray, List.length_cons, List.length_nil, Nat.reduceAdd, Nat.reduceSub, Array.replicate_succ, Array.replicate_zero, List.push_toArray, List.append_toArray, List.nil_append, List.cons_append]
  have hfw : ∀ f, Fence.wide.fn f := fun _ => trivial
  gi_wp2
  obtain ⟨W2, hW2⟩ : ∃ W2, W2 = (w.alloc (.cells #[.func (.yield l) #[] #[]] 53)).alloc (.cells #[.bool false] 4) := ⟨_, rfl⟩
  have hb2 : Below w.heap.size w W2 := by rw [hW2]; exact ((Below.refl _ _).alloc (Nat.le_refl _) _).alloc (by simp) _
  have hz2 : W2.heap.size = w.heap.size + 2 := by rw [hW2]; simp
  have x0 : Boxed W2 w.heap.size 53 (.func (.yield l) #[] #[]) := by rw [hW2]; exact (Boxed.new _ _ _).alloc _
  have x1 : Boxed W2 (w.heap.size + 1) 4 (.bool false) := by have h := Boxed.new (w.alloc (.cells #[.func (.yield l) #[] #[]] 53)) 4 (.bool false); rw [World.size_alloc] at h; rw [hW2]; exact h
  rw [← hW2]
  clear hW2
  have hmv2 : Mv R w W2 := Mv.of_below hok hb2
  have hk2 := hmv2.kp hok
  have hok2 := hmv2.ok hok
  have s0 : R.sf W2 w.heap.size := R.fresh hok hb2 (Nat.le_refl _) (by omega)
  have s1 : R.sf W2 (w.heap.size + 1) := R.fresh hok hb2 (by omega) (by omega)
  have hm0 := R.mlt hok
  refine wpIn_range_M rfl eg (HSeq.out.later hk2) hok2 (fun _ _ _ h => by obtain ⟨v, rfl, _⟩ := h; rfl)
    (fun pre X => J pre X) (fun c pre X => c = .ret ∧ Jx pre X ∧ X.heap[w.heap.size + 1]? = some (.cells #[.bool false] 4 (0, 0)) ∧ KpFrom R (l + 1) w X) (fun s => (HJ.out s).mono hb2.size) ?hIx ((HJ.out []).mv hmv2 hok H0.out) ?round ?done ?stop
  case hIx =>
    rintro c pre X Y row hg hr hokX ⟨h1, h2, h3, h4⟩
    refine ⟨h1, ((HJx.out pre).mono hb2.size) X Y row hg hr hokX h2, cells_abides W2.heap.size _ _ _ _ (by omega) (.inr (by omega)) X Y row hg hr hokX h3, Nat.le_trans h4.size hg.size, fun b hb hs => ?_⟩
    have h5 := h4.same b hb hs
    have hbl : b < w.heap.size := R.lt hs
    refine ⟨R.move hokX hg (fun r e => by rcases hr r e with ⟨h, _⟩ | ⟨_, _, h⟩; exact .inl h; exact .inr h) h5.1, (hg.block b (R.lt h5.1) (fun e => ?_)).trans h5.2⟩
    rcases hr b e.symm with ⟨h, _⟩ | ⟨h, _⟩
    · exact R.ne h5.1 h
    · have := hb2.size; omega
  case done =>
    rintro D X hD hjX hkX hokX hd hsd
    have y1 := boxed_of_kp x1 hkX s1
    have hc1 := y1.cell
    have hf1 := y1.frozen
    gi_wp2
    have hd' : (X.setCell ⟨w.heap.size + 1, 0, none⟩ (.bool true)).heap[D]? = some (.deferred (some [])) := set_other hd (by omega)
    refine ⟨by simp, .inl ⟨_, _, rfl, run_takeDeferred hd', ?_⟩⟩
    have e0 := cell_kept (y1.set (.bool true)).cell (grownBy_putObj' _ D (.deferred none)) (fun r e => by cases e; exact ⟨_, hd', rfl⟩)
    refine ⟨.bool true, by simp [results, Tryz.results81, go_sem, e0], .inl ⟨rfl, ?_, ?_⟩⟩
    · exact abides_put ((HJ.out xs).mono hb2.size) _ (ok_set hokX (by omega) y1) (abides_set (HJ.out xs) _ hokX hjX (by omega) (by omega) y1) (by omega) (by omega) hd' rfl
    · have hsz := hkX.size
      have hok4 : R.ok ((X.setCell ⟨w.heap.size + 1, 0, none⟩ (.bool true)).putObj D (.deferred none)) := ok_put (ok_set hokX (by omega) y1) (by omega) hd' rfl
      refine ⟨?_, fun b hb => ?_, fun _ => hok4⟩
      · have := (grownBy_setCell' X (w.heap.size + 1) (.bool true)).size; simp at *; omega
      · have h5 := (hk2.trans hkX).same b hb
        have hlt := R.lt hb
        exact ⟨move_put (ok_set hokX (by omega) y1) hd' rfl (move_set hokX y1 h5.1), (World.putObj_heap_other (by omega)).trans ((Below.heap_setCell _ _ _ _ (by show b ≠ w.heap.size + 1; omega)).trans h5.2)⟩
  case stop =>
    rintro D c pre X hD hpre ⟨rfl, hjx, hcb, hkf⟩ _ hokX hd
    have y1 : Boxed X (w.heap.size + 1) 4 (.bool false) := hcb
    gi_wp2
    refine ⟨by simp, .inl ⟨_, _, rfl, run_takeDeferred hd, ?_⟩⟩
    have e0 := cell_kept y1.cell (grownBy_putObj' _ D (.deferred none)) (fun r e => by cases e; exact ⟨_, hd, rfl⟩)
    refine ⟨.bool false, by simp [results, Tryz.results81, go_sem, e0], .inr ⟨rfl, pre, hpre, ?_, ?_, ?_⟩⟩
    · exact abides_put ((HJx.out pre).mono hb2.size) _ hokX hjx (by omega) (by omega) hd rfl
    · exact ok_put hokX (by omega) hd rfl
    · exact ⟨by have := hkf.size; simp; omega, fun b hb hs => ⟨move_put hokX hd rfl (hkf.same b hb hs).1, (World.putObj_heap_other (by have := R.lt hs; omega)).trans (hkf.same b hb hs).2⟩⟩
  case round =>
    rintro L pre vs x X hL hjX ⟨v, rfl, htv⟩ hkX hokX hpre
    obtain ⟨vr, ve, vw, va, vn, vc, rfl⟩ := treeV_form htv
    gi_wp2
    obtain ⟨X2, hX2⟩ : ∃ X2, X2 = X.alloc (.cells #[.int .u8 vr, .int .i64 ve, .string ⟨vw⟩, .slice va vn vc] 36) := ⟨_, rfl⟩
    have hbX : Below X.heap.size X X2 := by rw [hX2]; exact (Below.refl _ _).alloc (Nat.le_refl _) _
    have hcX : X2.heap[X.heap.size]? = some (.cells #[.int .u8 vr, .int .i64 ve, .string ⟨vw⟩, .slice va vn vc] 36 (0, 0)) := by rw [hX2]; exact World.alloc_heap_new X _
    rw [← hX2]
    clear hX2
    have hmvX : Mv R X X2 := Mv.of_below hokX hbX
    refine ⟨hmvX.kp hokX, ((HJ.out pre).mono hb2.size).mv hmvX hokX hjX, ?_⟩
    intro W3 hl3 hr3 hsl3 hj3 hk3 hok3 hsz3 htr
    have hc3 := htr _ (cells_abides W2.heap.size X.heap.size _ _ _ (by have := hkX.size; omega) (.inl (by decide))) hcX
    have ht3 := htr _ (treeR_abides R W2.heap.size _ x) (htv.kp (hmvX.kp hokX))
    have y0 := boxed_of_kp x0 hk3 s0
    have y1 := boxed_of_kp x1 hk3 s1
    have sy1 := (hk3.same _ s1).1
    obtain ⟨fn, tmps, assign, body, hy, hRd⟩ := yieldAt_any 2 (HY.out pre _ x W3 hj3 (hk2.trans hk3) hok3 ⟨_, rfl, ht3⟩ hpre)
    have g0 := y0.cell
    have g1 : W3.cell? ⟨X.heap.size, 0, none⟩ = some (.int .u8 vr) := by simp [World.cell?, hc3]
    have g2 : W3.cell? ⟨X.heap.size, 1, none⟩ = some (.int .i64 ve) := by simp [World.cell?, hc3]
    have g3 : W3.cell? ⟨X.heap.size, 2, none⟩ = some (.string ⟨vw⟩) := by simp [World.cell?, hc3]
    have g4 : W3.cell? ⟨X.heap.size, 3, none⟩ = some (.slice va vn vc) := by simp [World.cell?, hc3]
    have Y1 := Lib.hid y1
    have HC3 := Lib.hid hc3
    clear hc3 hcX y0 y1 ht3 htv
    gi_wp2
    refine hRd.mono ?_
    rintro e W4 (⟨rfl, hJ4, hk4⟩ | ⟨rfl, hJ4, hok4, hk4⟩)
    · gi_wp2
      exact ⟨hk4, hJ4⟩
    · have z1 : Boxed W4 (w.heap.size + 1) 4 (.bool false) := ((hk4.same _ (by omega) sy1).2).trans Y1.out
      have hc1 := z1.cell
      have hf1 := z1.frozen
      have Z1 := Lib.hid z1
      clear z1 g0 g1 g2 g3 g4
      gi_wp2
      rw [set_eq Z1.out]
      exact ⟨hk4.mono (by omega), hok4, rfl, hJ4, Z1.out, ((hk2.trans hk3).from _).trans hk4⟩
end Go.Proofs.YthmnffgjckpkiaaGreatDoor
namespace Go.Proofs.YthmnffgjckpkiaaGreatDoor
open Go Go.RowKit Go.Shelf
attribute [local go_sem] Oper.semAt_some

theorem trees_any (gb k f t : Nat) (w : World) :
    Calls Tryz.prog 49 #[.pointer (some ⟨gb, 0, none⟩), .int .u8 k, .int .i64 f, .int .i64 t] w fun e w' =>
      e = .returned (.func (.func 79) #[] #[.pointer (some ⟨w.heap.size, 0, none⟩), .pointer (some ⟨w.heap.size + 1, 0, none⟩), .pointer (some ⟨w.heap.size + 1 + 1, 0, none⟩), .pointer (some ⟨w.heap.size + 1 + 1 + 1, 0, none⟩)]) ∧
      (((w.alloc (.cells #[.pointer (some ⟨gb, 0, none⟩)] 77)).alloc (.cells #[.int .u8 k] 5)).alloc (.cells #[.int .i64 f] 3)).alloc (.cells #[.int .i64 t] 3) = w' := by
  go_enter Tryz.func49, Tryz.ntmps49
  go_wp2
  go_ret
  exact ⟨rfl, rfl⟩
/-- The iterator of a span, as a value. -/
def treesV (b : Nat) : Value := .func (.func 79) #[] #[.pointer (some ⟨b, 0, none⟩), .pointer (some ⟨b + 1, 0, none⟩), .pointer (some ⟨b + 1 + 1, 0, none⟩), .pointer (some ⟨b + 1 + 1 + 1, 0, none⟩)]
def treesLb (b : Nat) : Array Value := #[.pointer (some ⟨b, 0, none⟩), .pointer (some ⟨b + 1, 0, none⟩), .pointer (some ⟨b + 1 + 1, 0, none⟩), .pointer (some ⟨b + 1 + 1 + 1, 0, none⟩)]
/-- The boxes of a span's iterator. -/
structure TreesBox (gb k f t b : Nat) (w : World) : Prop where
  c0 : w.cell? ⟨b, 0, none⟩ = some (.pointer (some ⟨gb, 0, none⟩))
  c1 : w.cell? ⟨b + 1, 0, none⟩ = some (.int .u8 k)
  c2 : w.cell? ⟨b + 1 + 1, 0, none⟩ = some (.int .i64 f)
  c3 : w.cell? ⟨b + 1 + 1 + 1, 0, none⟩ = some (.int .i64 t)
theorem trees_box (gb k f t : Nat) (w : World) :
    Calls Tryz.prog 49 #[.pointer (some ⟨gb, 0, none⟩), .int .u8 k, .int .i64 f, .int .i64 t] w fun e w' =>
      e = .returned (treesV w.heap.size) ∧ Below w.heap.size w w' ∧ w'.heap.size = w.heap.size + 4 ∧ TreesBox gb k f t w.heap.size w' := (trees_any gb k f t w).mono fun e w' ⟨he, hw⟩ => by
  subst hw
  refine ⟨he, (((((Below.refl _ _).alloc (Nat.le_refl _) _).alloc (by simp) _).alloc (by simp; omega) _).alloc (by simp; omega) _), by simp, ?_, ?_, ?_, ?_⟩
  all_goals go_simp
/-- **What is shown of the parses of a span**: its iterator yields them, whatever the agreement. -/
def TreesOk (m gb : Nat) (g : Gr) (W0 : World) (k f t : Nat) : Prop := ∀ (R : Rg), Counts R m g W0 → ∀ (w : World) (b : Nat), Since m W0 w → R.ok w → TreesBox gb k f t b w → R.sf w b → R.sf w (b + 1) → R.sf w (b + 1 + 1) → R.sf w (b + 1 + 1 + 1) →
  SeqM R Tryz.prog 79 (treesLb b) (treesS g k f t) (TreeA R) w

/-- The parses with a head and two parts. -/
def pairsS (r e : Int) (wd : List UInt8) (xs ys : List Tr) : List Tr := xs.flatMap fun x => ys.map fun y => .node r e wd [x, y]
theorem pairs_prefix {r e : Int} {wd : List UInt8} {xs ys pre pre2 : List Tr} {x y : Tr} (h1 : (pre ++ [x]) <+: xs) (h2 : (pre2 ++ [y]) <+: ys) :
    (pairsS r e wd pre ys ++ pre2.map (fun y => Tr.node r e wd [x, y]) ++ [.node r e wd [x, y]]) <+: pairsS r e wd xs ys := by
  obtain ⟨z1, rfl⟩ := h1
  obtain ⟨z2, rfl⟩ := h2
  refine ⟨z2.map (fun y => Tr.node r e wd [x, y]) ++ pairsS r e wd z1 (pre2 ++ [y] ++ z2), ?_⟩
  simp [pairsS]
theorem pairs_prefix_part {r e : Int} {wd : List UInt8} {xs ys pre : List Tr} (h1 : pre <+: pairsS r e wd xs ys) : pre <+: pairsS r e wd xs ys := h1
theorem pairsS_snoc (r e : Int) (wd : List UInt8) (pre ys : List Tr) (x : Tr) : pairsS r e wd (pre ++ [x]) ys = pairsS r e wd pre ys ++ ys.map fun y => Tr.node r e wd [x, y] := by simp [pairsS]

/-- A head without parts. -/
def headV (r e : Int) (wd : List UInt8) : List Value := [.int .u8 r, .int .i64 e, .string ⟨wd.toArray⟩, .slice none 0 0]

set_option maxRecDepth 100000 in
set_option maxHeartbeats 4000000 in
theorem pairs_seq {m gb : Nat} {g : Gr} {ended : Bool} {W0 : World} (hg : Gram m gb g ended W0) {R : Rg} (hR : Counts R m g W0) {w : World} (hs : Since m W0 w) (hok : R.ok w)
    (k1 i1 j1 k2 i2 j2 : Nat) (h1 : TreesOk m gb g W0 k1 i1 j1) (h2 : TreesOk m gb g W0 k2 i2 j2) (r e : Int) (wd : List UInt8) (b0 b1 b2 b3 : Nat)
    (x0 : w.heap[b0]? = some (.cells #[.pointer (some ⟨gb, 0, none⟩)] 77 (0, 0))) (x1 : w.heap[b1]? = some (.cells #[.int .u8 k1, .int .i64 i1, .int .i64 j1] 160 (0, 0)))
    (x2 : w.heap[b2]? = some (.cells #[.int .u8 k2, .int .i64 i2, .int .i64 j2] 160 (0, 0))) (x3 : w.heap[b3]? = some (.cells #[.int .u8 r, .int .i64 e, .string ⟨wd.toArray⟩, .slice none 0 0] 36 (0, 0)))
    (s0 : R.sf w b0) (s1 : R.sf w b1) (s2 : R.sf w b2) (s3 : R.sf w b3) :
    SeqM R Tryz.prog 160 #[.pointer (some ⟨b0, 0, none⟩), .pointer (some ⟨b1, 0, none⟩), .pointer (some ⟨b2, 0, none⟩), .pointer (some ⟨b3, 0, none⟩)] (pairsS r e wd (treesS g k1 i1 j1) (treesS g k2 i2 j2)) (TreeA R) w := by
  intro l J Jx W hW hokW hl hJ hJx hY hJ0
  have y0 := (hW.same _ s0).2.trans x0
  have y1 := (hW.same _ s1).2.trans x1
  have y2 := (hW.same _ s2).2.trans x2
  have y3 := (hW.same _ s3).2.trans x3
  have hsW := hs.kp hR.leaves hok hW
  have c0 : W.cell? ⟨b0, 0, none⟩ = some (.pointer (some ⟨gb, 0, none⟩)) := by simp [World.cell?, y0]
  have c1 : W.cell? ⟨b1, 0, none⟩ = some (.int .u8 k1) := by simp [World.cell?, y1]
  have c2 : W.cell? ⟨b1, 1, none⟩ = some (.int .i64 i1) := by simp [World.cell?, y1]
  have c3 : W.cell? ⟨b1, 2, none⟩ = some (.int .i64 j1) := by simp [World.cell?, y1]
  have l0 := R.lt (hW.same _ s0).1
  have l1 := R.lt (hW.same _ s1).1
  have l2 := R.lt (hW.same _ s2).1
  have l3 := R.lt (hW.same _ s3).1
  have HY := Lib.hid hY
  have HJ := Lib.hid hJ
  have HJx := Lib.hid hJx
  have HJ0 := Lib.hid hJ0
  have HG := Lib.hid hg
  have HR := Lib.hid hR
  have HS := Lib.hid hsW
  have HW := Lib.hid hW
  have H1 := Lib.hid h1
  have H2 := Lib.hid h2
  have S0 := Lib.hid (hW.same _ s0).1
  have S2 := Lib.hid (hW.same _ s2).1
  have S3 := Lib.hid (hW.same _ s3).1
  have Y0 := Lib.hid y0
  have Y2 := Lib.hid y2
  have Y3 := Lib.hid y3
  clear hY hJ hJx hJ0 hg hR hs hsW hW h1 h2 x0 x1 x2 x3 y0 y1 y2 y3 s0 s1 s2 s3
  refine (callsIn_wide (n := 3)).1 ?_
  refine callsIn_of_wp_marks Tryz.func160 rfl trivial ?_ rfl
  simp only [Tryz.ntmps160, List.size_toArray, List.length_cons, List.length_nil, Nat.reduceAdd, Nat.reduceSub, Array.replicate_succ, Array.replicate_zero, List.push_toArray, List.append_toArray, List.nil_append, List.cons_append]
  have hfw : ∀ f, Fence.wide.fn f := fun _ => trivial
  gi_wp2_with fail
  obtain ⟨W5, hW5⟩ : ∃ W5, W5 = W.alloc (.cells #[.func (.yield l) #[] #[]] 53) := ⟨_, rfl⟩
  have hb5 : Below W.heap.size W W5 := by rw [hW5]; exact (Below.refl _ _).alloc (Nat.le_refl _) _
  have hz5 : W5.heap.size = W.heap.size + 1 := by rw [hW5]; simp
  have xy : Boxed W5 W.heap.size 53 (.func (.yield l) #[] #[]) := by rw [hW5]; exact Boxed.new _ _ _
  rw [← hW5]
  clear hW5 c0 c1 c2 c3
  refine (callsIn_wide.2 (trees_box gb k1 i1 j1 W5)).mono ?_
  rintro _ W9 ⟨rfl, hb9, hz9, hx9⟩
  have hbW : Below W.heap.size W W9 := hb5.trans (hb9.mono hb5.size)
  have hmv9 : Mv R W W9 := Mv.of_below hokW hbW
  have hk9 := hmv9.kp hokW
  have hok9 := hmv9.ok hokW
  have fr : ∀ b, W.heap.size ≤ b → b < W9.heap.size → R.sf W9 b := fun b h1 h2 => R.fresh hokW hbW h1 h2
  have xy9 : Boxed W9 W.heap.size 53 (.func (.yield l) #[] #[]) := (hb9.block _ xy.lt).trans xy
  have sy9 := fr W.heap.size (Nat.le_refl _) (by omega)
  have hseq1 := H1.out R HR.out W9 W5.heap.size (HS.out.below hbW) hok9 hx9 (fr _ (by omega) (by omega)) (fr _ (by omega) (by omega)) (fr _ (by omega) (by omega)) (fr _ (by omega) (by omega))
  have HSeq1 := Lib.hid hseq1
  have HB9 := Lib.hid hbW
  have XY9 := Lib.hid xy9
  have FR := Lib.hid fr
  have hm0 := R.mlt hokW
  clear hseq1 hbW xy9 xy fr hb5 hb9 hx9
  simp only [treesV]
  gi_wp2
  refine wpIn_range_M rfl (enters_of Tryz.func79 (by kernel_rfl) rfl) HSeq1.out hok9 (fun _ _ _ h => by obtain ⟨v, rfl, _⟩ := h; rfl)
    (fun pre X => J (pairsS r e wd pre (treesS g k2 i2 j2)) X) (fun c pre X => c = .ret ∧ (∃ p, p <+: pairsS r e wd (treesS g k1 i1 j1) (treesS g k2 i2 j2) ∧ Jx p X) ∧ KpFrom R (l + 1) W X) (fun s => (HJ.out _).mono HB9.out.size) ?hIx ((HJ.out []).mv hmv9 hokW HJ0.out) ?round ?done ?stop
  case hIx =>
    rintro c pre X Y row hg hr hokX ⟨h1, ⟨p, hp, h2⟩, h3⟩
    exact ⟨h1, ⟨p, hp, (HJx.out p).mono HB9.out.size X Y row hg hr hokX h2⟩, kpFrom_abides HB9.out.size X Y row hg hr hokX h3⟩
  case done =>
    intro D X hD hjX hkX hokX hd _
    gi_wp2
    refine ⟨by simp, .inl ⟨_, _, rfl, run_takeDeferred hd, ?_⟩⟩
    refine ⟨_, results_none rfl _ _ _, ⟨_, rfl⟩, .inl ⟨?_, kp_put _ (hk9.trans hkX) hokX (by have := HB9.out.size; omega) (by omega) hd rfl⟩⟩
    exact abides_put (HJ.out _) _ hokX hjX (by have := HB9.out.size; omega) (by omega) hd rfl
  case stop =>
    rintro D c pre X hD hpre ⟨rfl, ⟨p, hp, h2⟩, h3⟩ _ hokX hd
    gi_wp2
    refine ⟨by simp, .inl ⟨_, _, rfl, run_takeDeferred hd, ?_⟩⟩
    refine ⟨_, results_none rfl _ _ _, ⟨_, rfl⟩, .inr ⟨p, hp, abides_put (HJx.out _) _ hokX h2 (by have := HB9.out.size; omega) (by omega) hd rfl, ok_put hokX (by omega) hd rfl, kpFrom_put _ h3 hokX (by have := HB9.out.size; omega) hd rfl⟩⟩
  case round =>
    rintro L pre vs x X hL hjX ⟨v, rfl, htv⟩ hkX hokX hpre
    obtain ⟨vr, ve, vw, va, vn, vc, rfl⟩ := treeV_form htv
    gi_wp2
    obtain ⟨X2, hX2⟩ : ∃ X2, X2 = X.alloc (.cells #[.int .u8 vr, .int .i64 ve, .string ⟨vw⟩, .slice va vn vc] 36) := ⟨_, rfl⟩
    have hbX : Below X.heap.size X X2 := by rw [hX2]; exact (Below.refl _ _).alloc (Nat.le_refl _) _
    have hcX : X2.heap[X.heap.size]? = some (.cells #[.int .u8 vr, .int .i64 ve, .string ⟨vw⟩, .slice va vn vc] 36 (0, 0)) := by rw [hX2]; exact World.alloc_heap_new X _
    have hzX : X2.heap.size = X.heap.size + 1 := by rw [hX2]; simp
    rw [← hX2]
    clear hX2
    have hmvX : Mv R X X2 := Mv.of_below hokX hbX
    have sX : R.sf X2 X.heap.size := R.fresh hokX hbX (Nat.le_refl _) (by omega)
    refine ⟨hmvX.kp hokX, ((HJ.out _).mono HB9.out.size).mv hmvX hokX hjX, ?_⟩
    intro W3 hl3 hr3 hsl3 hj3 hk3 hok3 hsz3 htr
    have hc3 := htr _ ((cells_abides W9.heap.size X.heap.size _ _ _ (by have := hkX.size; have := HB9.out.size; omega) (.inl (by decide))).and (sf_abides W9.heap.size X.heap.size)) ⟨hcX, sX⟩
    have ht3 := htr _ (treeR_abides R W9.heap.size _ x) (htv.kp (hmvX.kp hokX))
    have hkW3 := hk9.trans hk3
    have e0 := (hkW3.same _ S0.out).2.trans Y0.out
    have e2 := (hkW3.same _ S2.out).2.trans Y2.out
    have d0 : W3.cell? ⟨b0, 0, none⟩ = some (.pointer (some ⟨gb, 0, none⟩)) := by simp [World.cell?, e0]
    have d1 : W3.cell? ⟨b2, 0, none⟩ = some (.int .u8 k2) := by simp [World.cell?, e2]
    have d2 : W3.cell? ⟨b2, 1, none⟩ = some (.int .i64 i2) := by simp [World.cell?, e2]
    have d3 : W3.cell? ⟨b2, 2, none⟩ = some (.int .i64 j2) := by simp [World.cell?, e2]
    have HC3 := Lib.hid hc3
    have HT3 := Lib.hid ht3
    have hs3 := HS.out.kp HR.out.leaves hokW hkW3
    clear hc3 hcX ht3 htv e0 e2
    gi_wp2_with fail
    refine CallsIn.inRound L (callsIn_wide.2 ((trees_box gb k2 i2 j2 W3).mono ?_))
    rintro _ W5' ⟨rfl, hb5', hz5', hx5'⟩
    have hmv5 : Mv R W3 W5' := Mv.of_below hok3 hb5'
    have hk5 := hmv5.kp hok3
    have hok5 := hmv5.ok hok3
    have fr : ∀ b, W3.heap.size ≤ b → b < W5'.heap.size → R.sf W5' b := fun b h1 h2 => R.fresh hok3 hb5' h1 h2
    have hseq2 := H2.out R HR.out W5' W3.heap.size (hs3.below hb5') hok5 hx5' (fr _ (by omega) (by omega)) (fr _ (by omega) (by omega)) (fr _ (by omega) (by omega)) (fr _ (by omega) (by omega))
    obtain ⟨rec3, hrec3⟩ := hr3
    have hr5 : W5'.heap[L]? = some (.loop rec3) := (hb5'.block L hl3).trans hrec3
    have sL5 := (hk5.same _ hsl3).1
    have HSeq2 := Lib.hid hseq2
    have HB5 := Lib.hid hb5'
    have HR5 := Lib.hid hr5
    clear hseq2 hb5' hx5' fr hrec3 d0 d1 d2 d3 hr5
    simp only [treesV]
    gi_wp2
    refine wpIn_range_N HR5.out rfl (enters_of Tryz.func79 (by kernel_rfl) rfl) HSeq2.out hok5 (fun _ _ _ h => by obtain ⟨v, rfl, _⟩ := h; rfl)
      (fun pre2 Z => J (pairsS r e wd pre (treesS g k2 i2 j2) ++ pre2.map fun y => Tr.node r e wd [x, y]) Z)
      (fun c pre2 Z => c = .ret ∧ (∃ p, p <+: pairsS r e wd (treesS g k1 i1 j1) (treesS g k2 i2 j2) ∧ Jx p Z) ∧ KpFrom R (l + 1) W Z ∧ KpFrom R W9.heap.size W3 Z) ?hI2 ?hIx2 ?h02 ?round2 ?done2 ?stop2
    case hI2 => exact fun s => (HJ.out _).mono (by have := HB9.out.size; have := HB5.out.size; omega)
    case hIx2 =>
      rintro c pre2 X Y row hg hr hokX ⟨h1, ⟨p, hp, h2⟩, h3, h4⟩
      have hBB : W.heap.size ≤ W5'.heap.size := by have := HB9.out.size; have := HB5.out.size; omega
      exact ⟨h1, ⟨p, hp, (HJx.out p).mono hBB X Y row hg hr hokX h2⟩, kpFrom_abides hBB X Y row hg hr hokX h3, kpFrom_abides HB5.out.size X Y row hg hr hokX h4⟩
    case h02 =>
      have h := (HJ.out (pairsS r e wd pre (treesS g k2 i2 j2))).mv hmv5 hok3 hj3
      simpa using h
    case done2 =>
      intro Z hjZ hkZ hokZ
      gi_wp2
      refine ⟨hk5.trans hkZ, ?_⟩
      show J (pairsS r e wd (pre ++ [x]) (treesS g k2 i2 j2)) Z
      rw [pairsS_snoc]
      exact hjZ
    case stop2 =>
      rintro c pre2 Z hpre2 ⟨rfl, h2, h3, h4⟩ _ hokZ
      gi_wp2
      exact ⟨h4, hokZ, rfl, h2, h3⟩
    case round2 =>
      rintro L2 pre2 vs y Z hL2 hjZ ⟨v, rfl, hty⟩ hkZ hokZ hpre2
      obtain ⟨ur, ue, uw, ua, un, uc, rfl⟩ := treeV_form hty
      gi_wp2
      obtain ⟨Z2, hZ2⟩ : ∃ Z2, Z2 = Z.alloc (.cells #[.int .u8 ur, .int .i64 ue, .string ⟨uw⟩, .slice ua un uc] 36) := ⟨_, rfl⟩
      have hbZ : Below Z.heap.size Z Z2 := by rw [hZ2]; exact (Below.refl _ _).alloc (Nat.le_refl _) _
      have hcZ : Z2.heap[Z.heap.size]? = some (.cells #[.int .u8 ur, .int .i64 ue, .string ⟨uw⟩, .slice ua un uc] 36 (0, 0)) := by rw [hZ2]; exact World.alloc_heap_new Z _
      rw [← hZ2]
      clear hZ2
      have hmvZ : Mv R Z Z2 := Mv.of_below hokZ hbZ
      have hszB : W.heap.size ≤ W5'.heap.size := by have := HB9.out.size; have := HB5.out.size; omega
      refine ⟨hmvZ.kp hokZ, ((HJ.out _).mono hszB).mv hmvZ hokZ hjZ, ?_⟩
      intro W6 hl6 hr6 hsl6 hj6 hk6 hok6 hsz6 htr6
      have hc6 := htr6 _ (cells_abides W5'.heap.size Z.heap.size _ _ _ (by have := hkZ.size; omega) (.inl (by decide))) hcZ
      have hty6 := htr6 _ (treeR_abides R W5'.heap.size _ y) (hty.kp (hmvZ.kp hokZ))
      have hkW36 := hk5.trans hk6
      have htx6 := HT3.out.kp hkW36
      have hcx6 := (hkW36.same _ HC3.out.2).2.trans HC3.out.1
      have hkW6 := (hk9.trans hk3).trans hkW36
      have h36 := (hkW6.same _ S3.out).2.trans Y3.out
      have hy6 := ((hk3.trans hkW36).same _ sy9).2.trans XY9.out
      obtain ⟨fn, S, hS⟩ : ∃ (_ : Unit) (S : World → Prop), S = fun V => Below W6.heap.size W6 V := ⟨(), _, rfl⟩
      have keep : ∀ (V : World) (b : Nat) (o : Obj), S V → W6.heap[b]? = some o → V.heap[b]? = some o := fun V b o h hc => by
        rw [hS] at h
        exact (h.block b (Array.getElem?_eq_some_iff.1 hc).1).trans hc
      have f0 : ∀ V, S V → V.cell? ⟨W.heap.size, 0, none⟩ = some (.func (.yield l) #[] #[]) := fun V h => by simp [World.cell?, keep V _ _ h hy6]
      have f1 : ∀ V, S V → V.cell? ⟨b3, 0, none⟩ = some (.int .u8 r) ∧ V.cell? ⟨b3, 1, none⟩ = some (.int .i64 e) ∧ V.cell? ⟨b3, 2, none⟩ = some (.string ⟨wd.toArray⟩) ∧ V.cell? ⟨b3, 3, none⟩ = some (.slice none 0 0) := fun V h => by simp [World.cell?, keep V _ _ h h36]
      have f2 : ∀ V, S V → V.cell? ⟨X.heap.size, 0, none⟩ = some (.int .u8 vr) ∧ V.cell? ⟨X.heap.size, 1, none⟩ = some (.int .i64 ve) ∧ V.cell? ⟨X.heap.size, 2, none⟩ = some (.string ⟨vw⟩) ∧ V.cell? ⟨X.heap.size, 3, none⟩ = some (.slice va vn vc) := fun V h => by simp [World.cell?, keep V _ _ h hcx6]
      have f3 : ∀ V, S V → V.cell? ⟨Z.heap.size, 0, none⟩ = some (.int .u8 ur) ∧ V.cell? ⟨Z.heap.size, 1, none⟩ = some (.int .i64 ue) ∧ V.cell? ⟨Z.heap.size, 2, none⟩ = some (.string ⟨uw⟩) ∧ V.cell? ⟨Z.heap.size, 3, none⟩ = some (.slice ua un uc) := fun V h => by simp [World.cell?, keep V _ _ h hc6]
      have hSd : S W6.drew := by rw [hS]; exact (Below.refl _ _).drew
      have HSS := Lib.hid hS
      have HTx := Lib.hid htx6
      have HTy := Lib.hid hty6
      clear keep hS hc6 hcx6 h36 hy6 htx6 hty6 hcZ hty
      gi_wp2
      refine regionM S 6 (by kernel_rfl) hSd (fun hpo hS0 => ?_)
      refine takeM (i := 0) 26 (.func (.yield l) #[] #[]) hpo rfl (by kernel_rfl) (fun _ _ _ h => h) rfl (by rfl) (fun V hX => (by have g0 := f0 V hX; go_simp)) (fun _ => rfl) hS0 (fun hS1 => ?_)
      simp only [List.setIfInBounds_toArray, List.set_cons_zero, List.set_cons_succ]
      refine takeM (i := 1) 27 (.agg #[.int .u8 r, .int .i64 e, .string ⟨wd.toArray⟩, .slice none 0 0]) hpo rfl (by kernel_rfl) (fun _ _ _ h => h) rfl (by rfl) (fun V hX => (by obtain ⟨g0, g1, g2, g3⟩ := f1 V hX; go_simp)) (fun _ => rfl) hS1 (fun hS2 => ?_)
      simp only [List.setIfInBounds_toArray, List.set_cons_zero, List.set_cons_succ]
      refine takeM (i := 2) 28 (.agg #[.int .u8 vr, .int .i64 ve, .string ⟨vw⟩, .slice va vn vc]) hpo rfl (by kernel_rfl) (fun _ _ _ h => h) rfl (by rfl) (fun V hX => (by obtain ⟨g0, g1, g2, g3⟩ := f2 V hX; go_simp)) (fun _ => rfl) hS2 (fun hS3 => ?_)
      simp only [List.setIfInBounds_toArray, List.set_cons_zero, List.set_cons_succ]
      refine takeM (i := 3) 29 (.agg #[.int .u8 ur, .int .i64 ue, .string ⟨uw⟩, .slice ua un uc]) hpo rfl (by kernel_rfl) (fun _ _ _ h => h) rfl (by rfl) (fun V hX => (by obtain ⟨g0, g1, g2, g3⟩ := f3 V hX; go_simp)) (fun _ => rfl) hS3 (fun hS4 => ?_)
      simp only [List.setIfInBounds_toArray, List.set_cons_zero, List.set_cons_succ]
      refine oneM (i := 4) rfl (by kernel_rfl) (by rfl) (fun K hK => ?_)
      go_simp
      refine hK _ _ (fun _ => (by rw [HSS.out]; exact ((Below.refl _ _).alloc (Nat.le_refl _) _).drew)) (fun hT5 => ?_)
      have hS5 := hT5 (by decide)
      clear hK K
      obtain ⟨V4, hV4⟩ : ∃ V4, V4 = (W6.alloc (.cells #[.int .u8 vr, .int .i64 ve, .string ⟨vw⟩, .slice va vn vc, .int .u8 ur, .int .i64 ue, .string ⟨uw⟩, .slice ua un uc] 36)).drew := ⟨_, rfl⟩
      have hb46 : Below W6.heap.size W6 V4 := by rw [hV4]; exact ((Below.refl _ _).alloc (Nat.le_refl _) _).drew
      have hc4 : V4.heap[W6.heap.size]? = some (.cells #[.int .u8 vr, .int .i64 ve, .string ⟨vw⟩, .slice va vn vc, .int .u8 ur, .int .i64 ue, .string ⟨uw⟩, .slice ua un uc] 36 (0, 0)) := by rw [hV4]; exact World.alloc_heap_new W6 _
      rw [← hV4] at hS5 ⊢
      clear hV4 hT5
      refine oneM (i := 5) rfl (by kernel_rfl) (by rfl) (fun K hK => ?_)
      go_simp
      refine CallsIn.inRound L2 (callsIn_wide.2 ((headed_any r e ⟨wd.toArray⟩ none _ 0 0 2 2 _).mono ?_))
      rintro _ V5 ⟨rfl, hb54⟩
      refine hK _ _ (fun _ => (by rw [HSS.out] at hS5 ⊢; exact hS5.trans (hb54.mono hS5.size))) (fun hT6 => ?_)
      have hS6 := hT6 (by decide)
      clear hK K
      have hb56 : Below W6.heap.size W6 V5 := hb46.trans (hb54.mono hb46.size)
      have hc5 : V5.heap[W6.heap.size]? = some (.cells #[.int .u8 vr, .int .i64 ve, .string ⟨vw⟩, .slice va vn vc, .int .u8 ur, .int .i64 ue, .string ⟨uw⟩, .slice ua un uc] 36 (0, 0)) := (hb54.block _ (Array.getElem?_eq_some_iff.1 hc4).1).trans hc4
      have hmv5' : Mv R W6 V5 := Mv.of_below hok6 hb56
      have hkp5 := hmv5'.kp hok6
      have hok5' := hmv5'.ok hok6
      have sA : R.sf V5 W6.heap.size := R.fresh hok6 hb56 (Nat.le_refl _) (Array.getElem?_eq_some_iff.1 hc5).1
      have htree : TreeR R V5 (.agg #[.int .u8 r, .int .i64 e, .string ⟨wd.toArray⟩, .slice (some ⟨W6.heap.size, 0, none⟩) 2 2]) (.node r e wd [x, y]) := by
        refine TreeV.mk r e wd [x, y] (some ⟨W6.heap.size, 0, none⟩) 2 (fun j => if j = 0 then .agg #[.int .u8 vr, .int .i64 ve, .string ⟨vw⟩, .slice va vn vc] else .agg #[.int .u8 ur, .int .i64 ue, .string ⟨uw⟩, .slice ua un uc]) (.inr ⟨W6.heap.size, 0, rfl, sA, fun j hj => ?_⟩) (fun j hj => ?_)
        · rcases j with _ | _ | j
          · exact ⟨_, _, _, _, rfl, by simp [World.cell?, hc5], by simp [World.cell?, hc5], by simp [World.cell?, hc5], by simp [World.cell?, hc5]⟩
          · exact ⟨_, _, _, _, rfl, by simp [World.cell?, hc5], by simp [World.cell?, hc5], by simp [World.cell?, hc5], by simp [World.cell?, hc5]⟩
          · simp at hj; omega
        · rcases j with _ | _ | j
          · exact HTx.out.kp hkp5
          · exact HTy.out.kp hkp5
          · simp at hj; omega
      obtain ⟨fn, tmps, assign, body, hy, hRd⟩ := yieldAt_any 2 (HY.out _ _ _ V5 (((HJ.out _).mono hszB).mv hmv5' hok6 hj6) (hkW6.trans hkp5) hok5' ⟨_, rfl, htree⟩ (pairs_prefix hpre hpre2))
      have HTree := Lib.hid htree
      clear htree hc5 hc4 hS5
      refine oneM (i := 6) rfl (by kernel_rfl) (by rfl) (fun K hK => ?_)
      go_simp
      refine hRd.mono ?_
      rintro _ V6 (⟨rfl, hJ6, hk65⟩ | ⟨rfl, hJ6, hok6', hk65⟩)
      · refine hK _ _ (fun h => absurd h (by decide)) (fun _ => ?_)
        clear hK K
        refine oneM (i := 7) rfl (by kernel_rfl) (by rfl) (fun K hK => ?_)
        go_simp
        refine hK _ _ (fun h => absurd h (by decide)) (fun _ => ?_)
        clear hK K
        refine doneM (by kernel_rfl) ?_ _
        gi_wp2
        refine ⟨hkp5.trans hk65, ?_⟩
        show J (pairsS r e wd pre (treesS g k2 i2 j2) ++ (pre2 ++ [y]).map fun y => Tr.node r e wd [x, y]) V6
        rw [List.map_append, ← List.append_assoc]
        exact hJ6
      · refine hK _ _ (fun h => absurd h (by decide)) (fun _ => ?_)
        clear hK K
        refine oneM (i := 7) rfl (by kernel_rfl) (by rfl) (fun K hK => ?_)
        go_simp
        refine hK _ _ (fun h => absurd h (by decide)) (fun _ => ?_)
        clear hK K
        refine doneM (by kernel_rfl) ?_ _
        gi_wp2
        exact ⟨((hkp5.from _).trans hk65).mono (by omega), hok6', rfl, ⟨_, pairs_prefix hpre hpre2, hJ6⟩, ((hkW6.trans hkp5).from _).trans hk65, (((hkW36.trans hkp5).from _).trans hk65).mono (by have := HB9.out.size; omega)⟩
end Go.Proofs.YthmnffgjckpkiaaGreatDoor
