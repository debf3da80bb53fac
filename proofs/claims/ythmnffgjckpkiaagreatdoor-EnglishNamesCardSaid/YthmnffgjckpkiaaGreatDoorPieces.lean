/-
  The iterator 'pieces' of package words: which pieces it yields, for every loop body that keeps what lay before.
-/
import Derived.Test.YthmnffgjckpkiaaGreatDoorBytes
import Derived.RangeFuncNested
import Derived.RangeFuncBound
import Derived.RangeFuncCalls
import Derived.RangeFuncLeaves
import Derived.Shelf.Abstract
import Derived.Shelf.RegionOpen
import Derived.OwnWalkIn
import Derived.TacticsInMore
import Derived.LoopNIn
import Derived.LoopIn
namespace Go.Proofs.YthmnffgjckpkiaaGreatDoor
open Go Go.RowKit Go.Shelf
attribute [local go_sem] Oper.semAt_some

def isL (c : UInt8) : Bool := letterI c.toNat
/-- How many letters go on a piece that begins with c. -/
def moreS (c : UInt8) (r : List UInt8) : Nat := if isL c then (r.takeWhile isL).length else 0
/-- The pieces of a text, each with its place. -/
def piecesF : Nat → Nat → List UInt8 → List (Nat × List UInt8)
  | 0, _, _ => []
  | _ + 1, _, [] => []
  | f + 1, i, c :: r => (if c = 32 then [] else [(i, c :: r.take (moreS c r))]) ++ piecesF f (i + 1 + moreS c r) (r.drop (moreS c r))
def piecesS (l : List UInt8) : List (Nat × List UInt8) := piecesF l.length 0 l

theorem moreS_le (c : UInt8) (r : List UInt8) : moreS c r ≤ r.length := by
  unfold moreS; split
  · exact (List.takeWhile_prefix _).length_le
  · exact Nat.zero_le _
theorem piecesF_enough : ∀ (f : Nat) (i : Nat) (l : List UInt8), l.length ≤ f → piecesF f i l = piecesF l.length i l := by
  intro f
  induction f using Nat.strongRecOn with
  | _ f ih =>
    intro i l h
    cases l with
    | nil => cases f <;> rfl
    | cons c r =>
      cases f with
      | zero => simp at h
      | succ f =>
        have hm := moreS_le c r
        have h1 : (r.drop (moreS c r)).length ≤ f := by simp at h ⊢; omega
        have h2 : (r.drop (moreS c r)).length ≤ r.length := by simp
        have hl : r.length < f + 1 := by simp at h; omega
        simp only [piecesF, List.length_cons]
        rw [ih f (by omega) _ _ h1, ih r.length hl _ _ h2]

/-- A piece as it is handed to the loop's body. -/
abbrev Piece := { x : Nat × ByteArray // 0 < x.2.size ∧ x.2.size ≤ 1000 ∧ x.1 ≤ 1000 }
def Piece.enc (x : Piece) : Array Value := #[.int .i64 x.1.1, .string x.1.2]
def Piece.plain (x : Piece) : Nat × List UInt8 := (x.1.1, x.1.2.data.toList)

/-- Where a piece that begins at i ends: e. -/
structure EndsAt (s : ByteArray) (i e : Nat) : Prop where
  lt : i < e
  le : e ≤ s.size
  one : ∀ (h : i < s.size), letterI s[i].toNat = false → e = i + 1
  all : ∀ j (h : j < s.size), i < j → j < e → letterI s[j].toNat = true
  stop : ∀ (h : e < s.size) (h' : i < s.size), letterI s[i].toNat = true → letterI s[e].toNat = false

theorem takeWhile_len (p : UInt8 → Bool) : ∀ (r : List UInt8) (k : Nat), k ≤ r.length → (∀ j (h : j < r.length), j < k → p r[j] = true) → (∀ (h : k < r.length), p r[k] = false) → (r.takeWhile p).length = k := by
  intro r
  induction r with
  | nil => intro k h _ _; simp at h; simp [h]
  | cons c r ih =>
    intro k h h1 h2
    cases k with
    | zero =>
      have := h2 (by simp)
      simp only [List.getElem_cons_zero] at this
      simp [this]
    | succ k =>
      have h0 := h1 0 (by simp) (by omega)
      simp only [List.getElem_cons_zero] at h0
      rw [List.takeWhile_cons, if_pos h0, List.length_cons, ih k (by simpa using h) (fun j hj hk => by have := h1 (j + 1) (by simp; omega) (by omega); simpa using this) (fun hk => by have := h2 (by simp; omega); simpa using this)]

theorem EndsAt.more {s : ByteArray} {i e : Nat} (h : EndsAt s i e) (hi : i < s.size) : moreS s[i] (s.data.toList.drop (i + 1)) = e - (i + 1) := by
  have hl : s.data.toList.length = s.size := by simp
  have h1 := h.lt
  have h2 := h.le
  unfold moreS
  cases hc : isL s[i]
  · have := h.one hi hc
    simp; omega
  · simp only [if_true]
    refine takeWhile_len isL _ _ (by rw [List.length_drop, hl]; omega) (fun j hj hk => ?_) (fun hk => ?_)
    · have := h.all (i + 1 + j) (by rw [List.length_drop, hl] at hj; omega) (by omega) (by omega)
      rw [List.getElem_drop]
      simpa [isL, ByteArray.getElem_eq_getElem_data] using this
    · have h3 : e < s.size := by rw [List.length_drop, hl] at hk; omega
      have := h.stop h3 hi hc
      rw [List.getElem_drop]
      have e1 : i + 1 + (e - (i + 1)) = e := by omega
      simp only [isL, e1]
      simpa [ByteArray.getElem_eq_getElem_data] using this

theorem piece_step {s : ByteArray} {i e : Nat} (h : EndsAt s i e) (hi : i < s.size) :
    piecesF (s.size - i) i (s.data.toList.drop i) = (if s[i] = 32 then [] else [(i, (s.extract i e).data.toList)]) ++ piecesF (s.size - e) e (s.data.toList.drop e) := by
  have hl : s.data.toList.length = s.size := by simp
  have h1 := h.lt
  have h2 := h.le
  have hd : s.data.toList.drop i = s[i] :: s.data.toList.drop (i + 1) := by
    rw [List.drop_eq_getElem_cons (by rw [hl]; exact hi)]; simp [ByteArray.getElem_eq_getElem_data]
  have hm := h.more hi
  rw [show s.size - i = (s.size - i - 1) + 1 by omega, hd]
  simp only [piecesF, hm]
  have e1 : i + 1 + (e - (i + 1)) = e := by omega
  have e2 : (s.data.toList.drop (i + 1)).drop (e - (i + 1)) = s.data.toList.drop e := by rw [List.drop_drop]; congr 1
  have e3 : s[i] :: (s.data.toList.drop (i + 1)).take (e - (i + 1)) = (s.extract i e).data.toList := by
    have : (s.extract i e).data.toList = (s.data.toList.drop i).take (e - i) := by simp
    rw [this, hd, show e - i = (e - (i + 1)) + 1 by omega, List.take_succ_cons]
  rw [e1, e2, e3]
  congr 1
  rw [piecesF_enough _ _ _ (by rw [List.length_drop, hl]; omega), piecesF_enough (s.size - e) _ _ (by rw [List.length_drop, hl]; omega)]

/-- A block is as it was. -/
def KeepB (b : Nat) (W W' : World) : Prop := W'.heap[b]? = W.heap[b]?
theorem keepB_t {b : Nat} {A B C : World} (h : KeepB b A B) (k : KeepB b B C) : KeepB b A C := Eq.trans k h
theorem keepB_below {b : Nat} {A B : World} (h : Below A.heap.size A B) (hb : b < A.heap.size) : KeepB b A B := h.block b hb

/-- What has come and what is still to come. -/
def Came (s : ByteArray) (pre : List Piece) (i : Nat) : Prop := pre.map Piece.plain ++ piecesF (s.size - i) i (s.data.toList.drop i) = piecesS s.data.toList ∧ pre.length ≤ i

theorem extract_size' (s : ByteArray) (i e : Nat) (h : e ≤ s.size) : (s.extract i e).size = e - i := by simp [ByteArray.size_extract]; omega

theorem came_blank {s : ByteArray} {pre : List Piece} {i e : Nat} (h : Came s pre i) (he : EndsAt s i e) (hi : i < s.size) (h32 : s[i] = 32) : Came s pre e := by
  obtain ⟨h1, h2⟩ := h
  rw [piece_step he hi, if_pos h32] at h1
  exact ⟨by simpa using h1, by have := he.lt; omega⟩
theorem came_piece {s : ByteArray} {pre : List Piece} {i e : Nat} (hx : 0 < (s.extract i e).size ∧ (s.extract i e).size ≤ 1000 ∧ i ≤ 1000) (h : Came s pre i) (he : EndsAt s i e) (hi : i < s.size) (h32 : ¬ s[i] = 32) : Came s (pre ++ [(⟨(i, s.extract i e), hx⟩ : Piece)]) e := by
  obtain ⟨h1, h2⟩ := h
  rw [piece_step he hi, if_neg h32] at h1
  exact ⟨by rw [← h1]; simp [Piece.plain], by have := he.lt; simp; omega⟩
theorem came_prefix {s : ByteArray} {pre : List Piece} {i e : Nat} (hx : 0 < (s.extract i e).size ∧ (s.extract i e).size ≤ 1000 ∧ i ≤ 1000) (h : Came s pre i) (he : EndsAt s i e) (hi : i < s.size) (h32 : ¬ s[i] = 32) : (pre ++ [(⟨(i, s.extract i e), hx⟩ : Piece)]).map Piece.plain <+: piecesS s.data.toList :=
  ⟨_, (came_piece hx h he hi h32).1⟩

set_option maxRecDepth 100000 in
set_option maxHeartbeats 4000000 in
theorem pieces1_in (n : Nat) (hn : 1 ≤ n) (l Bs : Nat) (s : ByteArray) (hs : s.size ≤ 1000) (J Jx : List Piece → World → Prop)
    (hY : ∀ pre x W, J pre W → pre.length < s.size → YieldAt Fence.wide (n - 1) Tryz.prog l x.enc W fun e W' =>
      (e = .returned (.bool true) ∧ J (pre ++ [x]) W' ∧ KeepB Bs W W') ∨ (e = .returned (.bool false) ∧ Jx (pre ++ [x]) W'))
    (W : World) (hc : W.cell? ⟨Bs, 0, none⟩ = some (.string s)) (h0 : J [] W) :
    CallsIn Fence.wide n Tryz.prog 102 #[.func (.yield l) #[] #[], .pointer (some ⟨Bs, 0, none⟩)] W fun e W' => (∃ v, e = .returned v) ∧
      ((∃ ys : List Piece, ys.map Piece.plain = piecesS s.data.toList ∧ J ys W') ∨ (∃ pre : List Piece, pre.map Piece.plain <+: piecesS s.data.toList ∧ Jx pre W')) := by
  refine callsIn_of_wp Tryz.func102 rfl trivial ?_ rfl
  simp only [Tryz.ntmps102, List.size_toArray, List.length_cons, List.length_nil, Nat.reduceAdd, Nat.reduceSub, Array.replicate_succ, Array.replicate_zero, List.push_toArray, List.append_toArray, List.nil_append, List.cons_append]
  have hfw : ∀ f, Fence.wide.fn f := fun _ => trivial
  have HY := Lib.hid hY
  clear hY
  gi_wp2
  gi_loopw [3, 4] (fun i _ wr => ∃ (k : Nat) (pre : List Piece), k ≤ s.size ∧ i = .int .i64 k ∧ Came s pre k ∧ J pre wr ∧ KeepB Bs W wr)
    (fun i _ _ => s.size - (intOf i).toNat)
  case atStart => exact ⟨0, [], Nat.zero_le _, rfl, ⟨by simp [piecesS], Nat.le_refl _⟩, h0, rfl⟩
  case round =>
    obtain ⟨k, pre, hk, rfl, hcame, hJ, hnx⟩ := hrel
    have hcx : wr.cell? ⟨Bs, 0, none⟩ = some (.string s) := (World.cell?_of_block (a := ⟨Bs, 0, none⟩) hnx).trans hc
    have HC := Lib.hid hcame
    have HJ := Lib.hid hJ
    clear hcame hJ h0 hc
    by_cases hlt : k < s.size
    · gi_wp2
      have hkk : k + 1 ≤ s.size := hlt
      gi_loop [4] (fun e => ∃ m : Nat, k + 1 ≤ m ∧ m ≤ s.size ∧ e = .int .i64 m ∧ (letterI s[k].toNat = false → m = k + 1) ∧ (∀ j (h : j < s.size), k < j → j < m → letterI s[j].toNat = true))
        (fun e => s.size - (intOf e).toNat)
      case atStart => exact ⟨k + 1, Nat.le_refl _, hkk, by go_num, fun _ => rfl, fun j _ h1 h2 => absurd h2 (by omega)⟩
      case round =>
        obtain ⟨m, hm1, hm2, rfl, hone, hall⟩ := hrel
        have HOne := Lib.hid hone
        have HAll := Lib.hid hall
        clear hone hall
        have hcy := hcx
        cases hl : letterI s[k].toNat
        · have he : EndsAt s k m := ⟨by omega, hm2, fun _ _ => HOne.out hl, HAll.out, fun _ _ h => absurd (hl.symm.trans h) (by simp)⟩
          have HE' := Lib.hid he
          clear he
          by_cases h32 : s[k] = 32
          · have d32 : ((s[k].toNat : Int) != 32) = false := by rw [h32]; rfl
            have H32 := Lib.hid h32
            clear h32 hcy
            gi_wp2_with (gi_at_call 64; refine (callsIn_wide.2 (letter_any _ _)).mono ?_; rintro e w' ⟨rfl, rfl⟩)
            go_roundw
            case rel => exact ⟨m, pre, HE'.out.le, rfl, came_blank HC.out HE'.out hlt H32.out, HJ.out, hnx⟩
            case measure => have := HE'.out.lt; simp [intOf]; omega
          · have d32 : ((s[k].toNat : Int) != 32) = true := by simp; intro h; exact h32 (UInt8.toNat_inj.1 (by rw [show (32 : UInt8).toNat = 32 from rfl]; omega))
            have H32 := Lib.hid h32
            have hpl := HC.out.2
            have hsz := extract_size' s k m HE'.out.le
            have hx : 0 < (s.extract k m).size ∧ (s.extract k m).size ≤ 1000 ∧ k ≤ 1000 := ⟨by rw [hsz]; have := HE'.out.lt; omega, by rw [hsz]; omega, by omega⟩
            obtain ⟨fn, tmps, assign, body, hy, hR⟩ := HY.out pre ⟨(k, s.extract k m), hx⟩ wr HJ.out (by omega)
            clear h32 hsz hpl
            simp only [Piece.enc] at hy
            have b1 : (k : Int) ≤ (m : Int) := by omega
            gi_wp2_with (gi_at_call 64; refine (callsIn_wide.2 (letter_any _ _)).mono ?_; rintro e w' ⟨rfl, rfl⟩)
            refine hR.mono ?_
            rintro e W3 (⟨rfl, hJ3, hk3⟩ | ⟨rfl, hJx3⟩)
            · gi_wp2
              go_roundw
              case rel => exact ⟨m, pre ++ [⟨(k, s.extract k m), hx⟩], HE'.out.le, rfl, came_piece hx HC.out HE'.out hlt H32.out, hJ3, keepB_t hnx hk3⟩
              case measure => have := HE'.out.lt; simp [intOf]; omega
            · gi_wp2
              refine bodyPost_ret (results_none rfl _ _ _) rfl ?_
              exact ⟨⟨_, rfl⟩, .inr ⟨_, came_prefix hx HC.out HE'.out hlt H32.out, hJx3⟩⟩
        · by_cases hme : m < s.size
          · cases hl2 : letterI s[m].toNat
            · have he : EndsAt s k m := ⟨by omega, hm2, fun _ h => absurd (h.symm.trans hl) (by simp), HAll.out, fun _ _ _ => hl2⟩
              have HE' := Lib.hid he
              clear he
              by_cases h32 : s[k] = 32
              · have d32 : ((s[k].toNat : Int) != 32) = false := by rw [h32]; rfl
                have H32 := Lib.hid h32
                clear h32 hcy
                gi_wp2_with (gi_at_call 64; refine (callsIn_wide.2 (letter_any _ _)).mono ?_; rintro e w' ⟨rfl, rfl⟩)
                go_roundw
                case rel => exact ⟨m, pre, HE'.out.le, rfl, came_blank HC.out HE'.out hlt H32.out, HJ.out, hnx⟩
                case measure => have := HE'.out.lt; simp [intOf]; omega
              · have d32 : ((s[k].toNat : Int) != 32) = true := by simp; intro h; exact h32 (UInt8.toNat_inj.1 (by rw [show (32 : UInt8).toNat = 32 from rfl]; omega))
                have H32 := Lib.hid h32
                have hpl := HC.out.2
                have hsz := extract_size' s k m HE'.out.le
                have hx : 0 < (s.extract k m).size ∧ (s.extract k m).size ≤ 1000 ∧ k ≤ 1000 := ⟨by rw [hsz]; have := HE'.out.lt; omega, by rw [hsz]; omega, by omega⟩
                obtain ⟨fn, tmps, assign, body, hy, hR⟩ := HY.out pre ⟨(k, s.extract k m), hx⟩ wr HJ.out (by omega)
                clear h32 hsz hpl
                simp only [Piece.enc] at hy
                have b1 : (k : Int) ≤ (m : Int) := by omega
                gi_wp2_with (gi_at_call 64; refine (callsIn_wide.2 (letter_any _ _)).mono ?_; rintro e w' ⟨rfl, rfl⟩)
                refine hR.mono ?_
                rintro e W3 (⟨rfl, hJ3, hk3⟩ | ⟨rfl, hJx3⟩)
                · gi_wp2
                  go_roundw
                  case rel => exact ⟨m, pre ++ [⟨(k, s.extract k m), hx⟩], HE'.out.le, rfl, came_piece hx HC.out HE'.out hlt H32.out, hJ3, keepB_t hnx hk3⟩
                  case measure => have := HE'.out.lt; simp [intOf]; omega
                · gi_wp2
                  refine bodyPost_ret (results_none rfl _ _ _) rfl ?_
                  exact ⟨⟨_, rfl⟩, .inr ⟨_, came_prefix hx HC.out HE'.out hlt H32.out, hJx3⟩⟩
            · have HAll2 : Hid (∀ j (h : j < s.size), k < j → j < m + 1 → letterI s[j].toNat = true) := fun j h h1 h2 => by
                rcases Nat.lt_succ_iff_lt_or_eq.1 h2 with h3 | rfl
                · exact HAll.out j h h1 h3
                · exact hl2
              have HL := Lib.hid hl
              gi_wp2_with (gi_at_call 64; refine (callsIn_wide.2 (letter_any _ _)).mono ?_; rintro e w' ⟨rfl, rfl⟩)
              go_round
              case rel => exact ⟨m + 1, by omega, by omega, by go_num, fun h => by first | cases h | exact absurd (h.symm.trans HL.out) (by simp), HAll2.out⟩
              case measure => simp [intOf]; omega
          · have he : EndsAt s k m := ⟨by omega, hm2, fun _ h => absurd (h.symm.trans hl) (by simp), HAll.out, fun h _ _ => absurd h hme⟩
            obtain rfl : m = s.size := by omega
            have HE' := Lib.hid he
            clear he
            by_cases h32 : s[k] = 32
            · have d32 : ((s[k].toNat : Int) != 32) = false := by rw [h32]; rfl
              have H32 := Lib.hid h32
              clear h32 hcy
              gi_wp2_with (gi_at_call 64; refine (callsIn_wide.2 (letter_any _ _)).mono ?_; rintro e w' ⟨rfl, rfl⟩)
              go_roundw
              case rel => exact ⟨s.size, pre, HE'.out.le, rfl, came_blank HC.out HE'.out hlt H32.out, HJ.out, hnx⟩
              case measure => have := HE'.out.lt; simp [intOf]; omega
            · have d32 : ((s[k].toNat : Int) != 32) = true := by simp; intro h; exact h32 (UInt8.toNat_inj.1 (by rw [show (32 : UInt8).toNat = 32 from rfl]; omega))
              have H32 := Lib.hid h32
              have hpl := HC.out.2
              have hsz := extract_size' s k s.size HE'.out.le
              have hx : 0 < (s.extract k s.size).size ∧ (s.extract k s.size).size ≤ 1000 ∧ k ≤ 1000 := ⟨by rw [hsz]; have := HE'.out.lt; omega, by rw [hsz]; omega, by omega⟩
              obtain ⟨fn, tmps, assign, body, hy, hR⟩ := HY.out pre ⟨(k, s.extract k s.size), hx⟩ wr HJ.out (by omega)
              clear h32 hsz hpl
              simp only [Piece.enc] at hy
              have b1 : (k : Int) ≤ (s.size : Int) := by omega
              gi_wp2_with (gi_at_call 64; refine (callsIn_wide.2 (letter_any _ _)).mono ?_; rintro e w' ⟨rfl, rfl⟩)
              refine hR.mono ?_
              rintro e W3 (⟨rfl, hJ3, hk3⟩ | ⟨rfl, hJx3⟩)
              · gi_wp2
                go_roundw
                case rel => exact ⟨s.size, pre ++ [⟨(k, s.extract k s.size), hx⟩], HE'.out.le, rfl, came_piece hx HC.out HE'.out hlt H32.out, hJ3, keepB_t hnx hk3⟩
                case measure => have := HE'.out.lt; simp [intOf]; omega
              · gi_wp2
                refine bodyPost_ret (results_none rfl _ _ _) rfl ?_
                exact ⟨⟨_, rfl⟩, .inr ⟨_, came_prefix hx HC.out HE'.out hlt H32.out, hJx3⟩⟩
    · obtain rfl : k = s.size := by omega
      gi_wp2
      go_end0
      exact ⟨⟨_, rfl⟩, .inl ⟨pre, by have := HC.out.1; simpa [piecesF] using this, HJ.out⟩⟩
end Go.Proofs.YthmnffgjckpkiaaGreatDoor
