/-
  A region that draws its order, inside a fence and in a round too: what yields its value in every world that meets S may be taken first; S is shown anew behind every operation that is carried out.
-/
import Derived.OrdersIn
import Derived.OrdersHeld
import Derived.TacticsIn
import Derived.TacticsInMore
import Derived.OwnWalkIn
import Derived.RegionIn
import Derived.Stop.RegionWithIn
import Derived.BigRegionIn
namespace Go.Proofs.YthmnffgjckpkiaaGreatDoor
open Go

section
variable {F : Fence} {n : Nat} {P : Program} {ops : Array Oper} {Q : Exit → Act → World → Prop} {md : Region.Mode} {S : World → Prop} {e : Nat}

/-- No operation of the region is a defer statement, or the activation is no round's. -/
def PlainOps (F : Fence) (ops : Array Oper) : Prop := ∀ (j : Nat) (o : Oper), ops[j]? = some o → ∀ ρ, Oper.semAt F.round ρ o = execOp ρ o
def notDefer (o : Oper) : Bool := match o.op with | .defer _ => false | _ => true
theorem plainOps_of (h : ops.toList.all notDefer = true) : PlainOps F ops := fun j o ho ρ => by
  cases hr : F.round with
  | none => exact Oper.semAt_none _ _
  | some l =>
    refine Oper.semAt_some l ρ o (fun c hc => ?_)
    have hm : o ∈ ops.toList := by
      have := List.mem_of_getElem? (l := ops.toList) (i := j) (a := o) (by simpa using ho)
      exact this
    have := List.all_eq_true.1 h o hm
    unfold notDefer at this
    rw [hc] at this
    cases this

/-- In state a, in every world that meets S, the operation leaves v and does nothing else; and it is about to make no call. -/
def YieldsM (P : Program) (ops : Array Oper) (S : World → Prop) (o : Oper) (v : Value) (a : Act) : Prop := YieldsIf P ops S o v a ∧ ∀ w, o.about P w a.eval = none

theorem yieldsM_wp {i : Nat} {o : Oper} {v : Value} {a : Act} (hsem : PlainOps F ops) (hi : ops[i]? = some o) (hy : YieldsM P ops S o v a) {K : Act → World → Prop} {w : World} (hS : S w) (h : K (a.put o.dst v) w) : wpOpIn F n P ops Q i K a w := by
  unfold wpOpIn
  simp only [hi]
  have hab : ∀ f, o.about P w a.eval = some f → F.fn f := fun f hf => by rw [hy.2 w] at hf; cases hf
  rcases hy.1 with ⟨hw, hv⟩ | ⟨hw, rfl⟩
  · simp only [hw, if_true, Oper.wpIn, hsem i o hi, hv w hS, Oper.uponIn]; exact ⟨hab, h⟩
  · simp only [hw, Bool.false_eq_true, if_false]; exact ⟨hab, h⟩

theorem YieldsM.of_same {o : Oper} {v : Value} {a a' : Act} (hy : YieldsM P ops S o v a) (he : execOp a'.eval o = execOp a.eval o)
    (hw : Region.wanted o (yielded ops a'.tmps) = Region.wanted o (yielded ops a.tmps)) (hb : ∀ w, o.about P w a'.eval = o.about P w a.eval) : YieldsM P ops S o v a' :=
  ⟨hy.1.of_same he hw, fun w => by rw [hb w]; exact hy.2 w⟩

theorem wpOpIn_putM {j : Nat} {oi oj : Oper} {v : Value} (hsem : PlainOps F ops) (hj : ops[j]? = some oj) (hap : oi.apart ops oj = true)
    (hsi : ∀ cs b, oi.op ≠ .select cs b) (hsj : ∀ cs b, oj.op ≠ .select cs b)
    (hQ : ∀ c a w, Q (.panic c) (a.put oi.dst v) w → Q (.panic c) a w) {K : Act → World → Prop} {a : Act} {w : World}
    (hy : YieldsM P ops S oi v a) (h : wpOpIn F n P ops Q j K (a.put oi.dst v) w) :
    wpOpIn F n P ops Q j (fun a' w' => YieldsM P ops S oi v a' ∧ K (a'.put oi.dst v) w') a w := by
  obtain ⟨h1, h2, h3⟩ := Oper.apart_spec hap
  have keep : ∀ (a : Act), YieldsM P ops S oi v a → ∀ u, YieldsM P ops S oi v (a.put oj.dst u) := fun a hy u =>
    hy.of_same (execOp_put oi hsi a oj.dst u h3) (wanted_put oi a oj.dst u h3) (fun w => about_put oi w a oj.dst u h3)
  have keepD : ∀ d, YieldsM P ops S oi v { a with defers := d :: a.defers } := fun d => hy.of_same rfl rfl (fun _ => rfl)
  have hse := hsem j oj hj
  unfold wpOpIn at *
  simp only [hj] at h ⊢
  rw [wanted_put oj a oi.dst v h1, about_put oj w a oi.dst v h1] at h
  split
  · rename_i hw
    simp only [hw, if_true] at h
    unfold Oper.wpIn at *
    rw [about_put oj w a oi.dst v h1] at h
    refine ⟨h.1, ?_⟩
    have h := h.2
    rw [hse, execOp_put oj hsj a oi.dst v h1] at h
    rw [hse]
    generalize (execOp a.eval oj).run P w = r at *
    cases r with
    | ok x w' =>
      cases x <;> simp only [Oper.uponIn] at h ⊢
      case value u => exact ⟨keep a hy u, by rw [← Act.put_comm a v u h2]; exact h⟩
      case skip => exact ⟨keep a hy _, by rw [← Act.put_comm a v undef h2]; exact h⟩
      case defer d =>
        refine ⟨keep _ (keepD d) _, ?_⟩
        rw [← Act.put_comm _ v undef h2, ← Act.put_defers]
        exact h
      case enter f args =>
        refine ⟨h.1, CallsIn.mono h.2 fun e w'' he => ?_⟩
        cases e with
        | returned u => exact ⟨keep a hy u, by rw [← Act.put_comm a v u h2]; exact he⟩
        | panicked c => exact hQ _ _ _ he
        | outgrown => exact he
      case row row args => exact ⟨h.1, RowsIn.mono h.2 fun u w'' he => ⟨keep a hy u, by rw [← Act.put_comm a v u h2]; exact he⟩⟩
      case round l f tmps assign body =>
        refine ⟨h.1, RoundIn.mono h.2 fun e w'' he => ?_⟩
        cases e with
        | returned u => exact ⟨keep a hy u, by rw [← Act.put_comm a v u h2]; exact he⟩
        | panicked c => exact hQ _ _ _ he
        | outgrown => exact he
    | halt x w' =>
      cases x <;> simp only [Oper.uponIn] at h ⊢
      case panic u => exact hQ _ _ _ h
  · rename_i hw
    simp only [hw] at h
    exact ⟨h.1, keep a hy _, by rw [← Act.put_comm a v undef h2]; exact h.2⟩

/-- Number j waits for number i, through others too. -/
def depB (md : Region.Mode) (ops : Array Oper) (i : Nat) : Nat → Nat → Bool
  | 0, _ => false
  | d + 1, j => match ops[j]? with
    | none => false
    | some oj => oj.after.any fun ed => Region.binds md ed && (ed.on == i || depB md ops i d ed.on)
/-- All from number e on wait for number i. -/
def lastB (md : Region.Mode) (ops : Array Oper) (e i : Nat) : Bool := (List.range ops.size).all fun j => decide (j < e) || depB md ops i ops.size j
/-- What is listed waits for nothing that is not. -/
def Closed (md : Region.Mode) (ops : Array Oper) (listed : Array Bool) : Prop := ∀ j oj, ops[j]? = some oj → listed.getD j false = true → ∀ ed ∈ oj.after, Region.binds md ed = true → listed.getD ed.on false = true
def closedB (md : Region.Mode) (ops : Array Oper) (listed : Array Bool) : Bool := (List.range ops.size).all fun j => match ops[j]? with
  | none => true
  | some oj => !listed.getD j false || oj.after.all fun ed => !Region.binds md ed || listed.getD ed.on false
theorem closed_of {md : Region.Mode} {ops : Array Oper} {listed : Array Bool} (h : closedB md ops listed = true) : Closed md ops listed := fun j oj hj hl ed hed hb => by
  have h1 := List.all_eq_true.1 h j (List.mem_range.2 (Array.getElem?_eq_some_iff.1 hj).1)
  simp only [hj, hl, Bool.not_true, Bool.false_or] at h1
  have h2 := Array.all_eq_true'.1 h1 ed hed
  simpa [hb] using h2
theorem closed_dep {md : Region.Mode} {ops : Array Oper} {listed : Array Bool} {i : Nat} (hc : Closed md ops listed) : ∀ (d j : Nat), listed.getD j false = true → depB md ops i d j = true → listed.getD i false = true
  | 0, _, _, h => by simp [depB] at h
  | d + 1, j, hl, h => by
    unfold depB at h
    cases hj : ops[j]? with
    | none => simp [hj] at h
    | some oj =>
      simp only [hj] at h
      obtain ⟨ed, hed, hb⟩ := Array.any_eq_true'.1 h
      simp only [Bool.and_eq_true, Bool.or_eq_true, beq_iff_eq] at hb
      have h1 := hc j oj hj hl ed hed hb.1
      rcases hb.2 with h2 | h2
      · rwa [h2] at h1
      · exact closed_dep hc d ed.on h1 h2
theorem ready_dep {md : Region.Mode} {ops : Array Oper} {listed : Array Bool} {i j : Nat} (hc : Closed md ops listed) (hr : j ∈ Region.ready md ops listed) {d : Nat} (h : depB md ops i d j = true) : listed.getD i false = true := by
  obtain ⟨_, oj, hoj, hall⟩ := mem_ready.1 hr
  cases d with
  | zero => simp [depB] at h
  | succ d =>
    unfold depB at h
    simp only [hoj] at h
    obtain ⟨ed, hed, hb⟩ := Array.any_eq_true'.1 h
    simp only [Bool.and_eq_true, Bool.or_eq_true, beq_iff_eq] at hb
    have h1 := hall ed hed hb.1
    rcases hb.2 with h2 | h2
    · rwa [h2] at h1
    · exact closed_dep hc d ed.on h1 h2
theorem closed_set {md : Region.Mode} {ops : Array Oper} {listed : Array Bool} {i : Nat} (hc : Closed md ops listed) (hr : i ∈ Region.ready md ops listed) : Closed md ops (listed.setIfInBounds i true) := fun j oj hj hl ed hed hb => by
  obtain ⟨_, oi, hoi, hall⟩ := mem_ready.1 hr
  by_cases hij : i = j
  · subst hij
    have : oj = oi := Option.some.inj (hj.symm.trans hoi)
    subst this
    exact getD_set_true (hall ed hed hb)
  · rw [getD_set_ne false hij] at hl
    exact getD_set_true (hc j oj hj hl ed hed hb)

/-- Whatever order is picked from here on, and S holds behind every operation that is carried out, but for the numbers from e on. -/
def wpAnyM (F : Fence) (n : Nat) (P : Program) (md : Region.Mode) (ops : Array Oper) (Q : Exit → Act → World → Prop) (S : World → Prop) (e : Nat) : Nat → Array Bool → Act → World → Prop
  | 0, listed, a, w => Region.ready md ops listed = [] ∧ Q .normal a w
  | fuel + 1, listed, a, w =>
    (Region.ready md ops listed = [] → Q .normal a w) ∧
    ∀ i ∈ Region.ready md ops listed, wpOpIn F n P ops Q i (fun a' w' => (i < e → S w') ∧ wpAnyM F n P md ops Q S e fuel (listed.setIfInBounds i true) a' w') a w
theorem wpAnyIn_of_M : ∀ (fuel : Nat) (listed : Array Bool) (a : Act) (w : World), wpAnyM F n P md ops Q S e fuel listed a w → wpAnyIn F n P md ops Q fuel listed a w
  | 0, _, _, _, h => h
  | fuel + 1, _, _, _, h => ⟨h.1, fun i hi => wpOpIn_mono (fun a' w' h' => wpAnyIn_of_M fuel _ a' w' h'.2) (h.2 i hi)⟩

theorem wpAnyM_first {i : Nat} {oi : Oper} {v : Value} (hsem : PlainOps F ops) (hlast : lastB md ops e i = true) (hi : ops[i]? = some oi) (hsel : ∀ (j : Nat) (o : Oper) cs b, ops[j]? = some o → o.op ≠ .select cs b)
    (hQ : ∀ c a w, Q (.panic c) (a.put oi.dst v) w → Q (.panic c) a w) :
    ∀ (fuel : Nat) (listed : Array Bool) (a : Act) (w : World), Closed md ops listed →
      (∀ j oj, ops[j]? = some oj → j ≠ i → listed.getD j true = false → (∀ e ∈ oj.after, Region.binds md e = true → e.on ≠ i) → oi.apart ops oj = true) →
      i ∈ Region.ready md ops listed → YieldsM P ops S oi v a → S w →
      wpAnyM F n P md ops Q S e fuel (listed.setIfInBounds i true) (a.put oi.dst v) w → wpAnyM F n P md ops Q S e (fuel + 1) listed a w := by
  intro fuel
  induction fuel with
  | zero =>
    intro listed a w _ _ hr hy hS H
    refine ⟨fun h => (by rw [h] at hr; cases hr), fun j hj => ?_⟩
    by_cases hji : j = i
    · subst hji; exact yieldsM_wp hsem hi hy hS ⟨fun _ => hS, H⟩
    · have := ready_mono hj hji
      rw [H.1] at this
      cases this
  | succ fuel ih =>
    intro listed a w hcl hfree hr hy hS H
    refine ⟨fun h => (by rw [h] at hr; cases hr), fun j hj => ?_⟩
    by_cases hji : j = i
    · subst hji; exact yieldsM_wp hsem hi hy hS ⟨fun _ => hS, H⟩
    · have h1 := H.2 j (ready_mono hj hji)
      obtain ⟨hjun, oj, hoj, hall⟩ := mem_ready.1 hj
      have hnot : ∀ e ∈ oj.after, Region.binds md e = true → e.on ≠ i := fun e he hb heq => by
        have h1 := hall e he hb
        have h0 := (mem_ready.1 hr).1
        rw [heq] at h1
        rcases Nat.lt_or_ge i listed.size with h' | h'
        · simp [h'] at h0 h1; rw [h0] at h1; cases h1
        · simp [Array.getElem?_eq_none h'] at h1
      have h2 := wpOpIn_putM hsem hoj (hfree j oj hoj hji hjun hnot) (fun cs b => hsel i oi cs b hi) (fun cs b => hsel j oj cs b hoj) hQ hy h1
      have hfree' : ∀ k ok, ops[k]? = some ok → k ≠ i → (listed.setIfInBounds j true).getD k true = false →
          (∀ e ∈ ok.after, Region.binds md e = true → e.on ≠ i) → oi.apart ops ok = true := fun k ok hk hki hun hno => by
        refine hfree k ok hk hki ?_ hno
        by_cases hjk : j = k
        · subst hjk; exact hjun
        · rw [getD_set_ne true hjk] at hun; exact hun
      have hje : j < e := by
        have hjl : j < ops.size := (Array.getElem?_eq_some_iff.1 hoj).1
        have h7 := List.all_eq_true.1 hlast j (List.mem_range.2 hjl)
        simp only [Bool.or_eq_true, decide_eq_true_eq] at h7
        rcases h7 with h7 | h7
        · exact h7
        · have h5 := ready_dep hcl hj h7
          have h6 := (mem_ready.1 hr).1
          rcases Nat.lt_or_ge i listed.size with h' | h'
          · simp [h'] at h5 h6; rw [h5] at h6; cases h6
          · simp [Array.getElem?_eq_none h'] at h6
      refine wpOpIn_mono (fun a' w' h3 => ⟨h3.2.1, ih (listed.setIfInBounds j true) a' w' (closed_set hcl hj) hfree' (ready_mono hr (Ne.symm hji)) h3.1 (h3.2.1 hje) ?_⟩) h2
      rw [Array.setIfInBounds_comm _ _ hji]
      exact h3.2.2

/-- Number i is taken first. -/
theorem takeM {i : Nat} {oi : Oper} (d : Nat) (v : Value) {fuel : Nat} {listed : Array Bool} {a : Act} {w : World} (hsem : PlainOps F ops) (hi : ops[i]? = some oi)
    (hs : (Region.noSelect ops && (Region.free md ops listed i && ((Region.ready md ops listed).contains i && (lastB md ops e i && closedB md ops listed)))) = true)
    (hQ : ∀ c a w, Q (.panic c) (a.put oi.dst v) w → Q (.panic c) a w) (hdst : oi.dst = some d) (hw : Region.wanted oi (yielded ops a.tmps) = true) (hy : ∀ w, S w → (execOp a.eval oi).run P w = .ok (.value v) w) (hab : ∀ w, oi.about P w a.eval = none) (hS : S w)
    (h : S w → wpAnyM F n P md ops Q S e fuel (listed.setIfInBounds i true) { a with tmps := a.tmps.setIfInBounds d v } w) : wpAnyM F n P md ops Q S e (fuel + 1) listed a w := by
  simp only [Bool.and_eq_true] at hs
  exact wpAnyM_first hsem hs.2.2.2.1 hi (Region.noSelect_spec hs.1) hQ fuel listed a w (closed_of hs.2.2.2.2) (Region.free_spec hi hs.2.1) (by simpa using hs.2.2.1) ⟨.inl ⟨hw, hy⟩, hab⟩ hS (by rw [hdst]; exact h hS)
/-- A guarded operation that is passed over. -/
theorem skipM {i : Nat} {oi : Oper} (d : Nat) {fuel : Nat} {listed : Array Bool} {a : Act} {w : World} (hsem : PlainOps F ops) (hi : ops[i]? = some oi)
    (hs : (Region.noSelect ops && (Region.free md ops listed i && ((Region.ready md ops listed).contains i && (lastB md ops e i && closedB md ops listed)))) = true)
    (hQ : ∀ c a w, Q (.panic c) (a.put oi.dst undef) w → Q (.panic c) a w) (hdst : oi.dst = some d) (hw : Region.wanted oi (yielded ops a.tmps) = false) (hab : ∀ w, oi.about P w a.eval = none) (hS : S w)
    (h : S w → wpAnyM F n P md ops Q S e fuel (listed.setIfInBounds i true) { a with tmps := a.tmps.setIfInBounds d undef } w) : wpAnyM F n P md ops Q S e (fuel + 1) listed a w := by
  simp only [Bool.and_eq_true] at hs
  exact wpAnyM_first hsem hs.2.2.2.1 hi (Region.noSelect_spec hs.1) hQ fuel listed a w (closed_of hs.2.2.2.2) (Region.free_spec hi hs.2.1) (by simpa using hs.2.2.1) ⟨.inr ⟨hw, rfl⟩, hab⟩ hS (by rw [hdst]; exact h hS)
/-- Number i is the only one that may come up. -/
theorem oneM {i : Nat} {oi : Oper} {fuel : Nat} {listed : Array Bool} {a : Act} {w : World} (hi : ops[i]? = some oi) (hr : Region.ready md ops listed = [i]) (hw : Region.wanted oi (yielded ops a.tmps) = true)
    (h : ∀ K : Act → World → Prop, (∀ a w, (i < e → S w) → ((i < e → S w) → wpAnyM F n P md ops Q S e fuel (listed.setIfInBounds i true) a w) → K a w) → Oper.wpIn F n P oi a w K Q) : wpAnyM F n P md ops Q S e (fuel + 1) listed a w := by
  refine ⟨fun h0 => (by rw [hr] at h0; cases h0), fun j hj => ?_⟩
  rw [hr] at hj
  obtain rfl := List.mem_singleton.1 hj
  refine wpOpIn_step hi (fun K' hK' => ?_)
  rw [if_pos hw]
  exact h K' (fun a w hS hW => hK' a w ⟨hS, hW hS⟩)
/-- Number i is the only one that may come up, and is passed over. -/
theorem noneM {i : Nat} {oi : Oper} (d : Nat) {fuel : Nat} {listed : Array Bool} {a : Act} {w : World} (hi : ops[i]? = some oi) (hr : Region.ready md ops listed = [i]) (hdst : oi.dst = some d) (hw : Region.wanted oi (yielded ops a.tmps) = false) (hab : ∀ f, oi.about P w a.eval = some f → F.fn f) (hS : S w)
    (h : S w → wpAnyM F n P md ops Q S e fuel (listed.setIfInBounds i true) { a with tmps := a.tmps.setIfInBounds d undef } w) : wpAnyM F n P md ops Q S e (fuel + 1) listed a w := by
  refine ⟨fun h0 => (by rw [hr] at h0; cases h0), fun j hj => ?_⟩
  rw [hr] at hj
  obtain rfl := List.mem_singleton.1 hj
  refine wpOpIn_step hi (fun K' hK' => ?_)
  rw [if_neg (by simp [hw])]
  exact ⟨hab, hK' _ _ ⟨fun _ => hS, by rw [hdst]; exact h hS⟩⟩
/-- Q, but 'False' at a panic. -/
def NP (Q : Exit → Act → World → Prop) : Exit → Act → World → Prop
  | .panic _, _, _ => False
  | e, a, w => Q e a w
theorem NP.imp {Q : Exit → Act → World → Prop} : ∀ (e : Exit) (a : Act) (w : World), NP Q e a w → Q e a w := fun e a w h => by
  cases e <;> first | exact h | exact (h : False).elim
theorem doneM {listed : Array Bool} {a : Act} {w : World} (hr : Region.ready md ops listed = []) (h : Q .normal a w) : ∀ fuel, wpAnyM F n P md ops (NP Q) S e fuel listed a w
  | 0 => ⟨hr, h⟩
  | _ + 1 => ⟨fun _ => h, by rw [hr]; simp⟩
theorem regionM {id : Nat} {a : Act} {w : World} (S : World → Prop) (e : Nat) (hm : (P.follows .mixedOrders && ops.toList.all notDefer) = true) (hS : S w.drew)
    (h : PlainOps F ops → S w.drew → wpAnyM F n P .any ops (NP Q) S e ops.size (Array.replicate ops.size false) a w.drew) : (Code.region id ops true).wpIn F n P Q a w := by
  simp only [Bool.and_eq_true] at hm
  exact Code.wpIn_mono NP.imp (wpIn_region_any hm.1 (wpAnyIn_of_M _ _ _ _ (h (plainOps_of hm.2) hS)))
end
end Go.Proofs.YthmnffgjckpkiaaGreatDoor
