/-
  The iterator 'pieces' of package words: which pieces it yields, for every loop body that keeps what lay before.
  Contract of 'first' of package words.
  Contract of 'Tokens' of package words.
-/
import Derived.Test.YthmnffgjckpkiaaGreatDoorGLow
import Derived.RangeFuncNested
import Derived.RangeFuncBound
import Derived.RangeFuncCalls
import Derived.RangeFuncLeaves
import Derived.Shelf.Abstract
import Derived.Shelf.RegionOpen
import Derived.OwnWalkIn
import Derived.TacticsInMore
import Derived.LoopNIn
import Derived.LoopIn
import Derived.RangeFuncBox
import Derived.Maps.AppendAt
namespace Go.Proofs.YthmnffgjckpkiaaGreatDoor
open Go Go.RowKit Go.Shelf
attribute [local go_sem] Oper.semAt_some

def isL (c : UInt8) : Bool := letterI c.toNat
/-- How many letters go on a piece that begins with c. -/
def moreS (c : UInt8) (r : List UInt8) : Nat := if isL c then (r.takeWhile isL).length else 0
/-- The pieces of a text, each with its place. -/
def piecesF : Nat → Nat → List UInt8 → List (Nat × List UInt8)
  | 0, _, _ => []
  | _ + 1, _, [] => []
  | f + 1, i, c :: r => (if c = 32 then [] else [(i, c :: r.take (moreS c r))]) ++ piecesF f (i + 1 + moreS c r) (r.drop (moreS c r))
def piecesS (l : List UInt8) : List (Nat × List UInt8) := piecesF l.length 0 l

theorem moreS_le (c : UInt8) (r : List UInt8) : moreS c r ≤ r.length := by
  unfold moreS; split
  · exact (List.takeWhile_prefix _).length_le
  · exact Nat.zero_le _
theorem piecesF_enough : ∀ (f : Nat) (i : Nat) (l : List UInt8), l.length ≤ f → piecesF f i l = piecesF l.length i l := by
  intro f
  induction f using Nat.strongRecOn with
  | _ f ih =>
    intro i l h
    cases l with
    | nil => cases f <;> rfl
    | cons c r =>
      cases f with
      | zero => simp at h
      | succ f =>
        have hm := moreS_le c r
        have h1 : (r.drop (moreS c r)).length ≤ f := by simp at h ⊢; omega
        have h2 : (r.drop (moreS c r)).length ≤ r.length := by simp
        have hl : r.length < f + 1 := by simp at h; omega
        simp only [piecesF, List.length_cons]
        rw [ih f (by omega) _ _ h1, ih r.length hl _ _ h2]

/-- A piece as it is handed to the loop's body. -/
abbrev Piece := { x : Nat × ByteArray // 0 < x.2.size ∧ x.2.size ≤ 1000 ∧ x.1 ≤ 1000 }
def Piece.enc (x : Piece) : Array Value := #[.int .i64 x.1.1, .string x.1.2]
def Piece.plain (x : Piece) : Nat × List UInt8 := (x.1.1, x.1.2.data.toList)

/-- Where a piece that begins at i ends: e. -/
structure EndsAt (s : ByteArray) (i e : Nat) : Prop where
  lt : i < e
  le : e ≤ s.size
  one : ∀ (h : i < s.size), letterI s[i].toNat = false → e = i + 1
  all : ∀ j (h : j < s.size), i < j → j < e → letterI s[j].toNat = true
  stop : ∀ (h : e < s.size) (h' : i < s.size), letterI s[i].toNat = true → letterI s[e].toNat = false

theorem takeWhile_len (p : UInt8 → Bool) : ∀ (r : List UInt8) (k : Nat), k ≤ r.length → (∀ j (h : j < r.length), j < k → p r[j] = true) → (∀ (h : k < r.length), p r[k] = false) → (r.takeWhile p).length = k := by
  intro r
  induction r with
  | nil => intro k h _ _; simp at h; simp [h]
  | cons c r ih =>
    intro k h h1 h2
    cases k with
    | zero =>
      have := h2 (by simp)
      simp only [List.getElem_cons_zero] at this
      simp [this]
    | succ k =>
      have h0 := h1 0 (by simp) (by omega)
      simp only [List.getElem_cons_zero] at h0
      rw [List.takeWhile_cons, if_pos h0, List.length_cons, ih k (by simpa using h) (fun j hj hk => by have := h1 (j + 1) (by simp; omega) (by omega); simpa using this) (fun hk => by have := h2 (by simp; omega); simpa using this)]

theorem EndsAt.more {s : ByteArray} {i e : Nat} (h : EndsAt s i e) (hi : i < s.size) : moreS s[i] (s.data.toList.drop (i + 1)) = e - (i + 1) := by
  have hl : s.data.toList.length = s.size := by simp
  have h1 := h.lt
  have h2 := h.le
  unfold moreS
  cases hc : isL s[i]
  · have := h.one hi hc
    simp; omega
  · simp only [if_true]
    refine takeWhile_len isL _ _ (by rw [List.length_drop, hl]; omega) (fun j hj hk => ?_) (fun hk => ?_)
    · have := h.all (i + 1 + j) (by rw [List.length_drop, hl] at hj; omega) (by omega) (by omega)
      rw [List.getElem_drop]
      simpa [isL, ByteArray.getElem_eq_getElem_data] using this
    · have h3 : e < s.size := by rw [List.length_drop, hl] at hk; omega
      have := h.stop h3 hi hc
      rw [List.getElem_drop]
      have e1 : i + 1 + (e - (i + 1)) = e := by omega
      simp only [isL, e1]
      simpa [ByteArray.getElem_eq_getElem_data] using this

theorem piece_step {s : ByteArray} {i e : Nat} (h : EndsAt s i e) (hi : i < s.size) :
    piecesF (s.size - i) i (s.data.toList.drop i) = (if s[i] = 32 then [] else [(i, (s.extract i e).data.toList)]) ++ piecesF (s.size - e) e (s.data.toList.drop e) := by
  have hl : s.data.toList.length = s.size := by simp
  have h1 := h.lt
  have h2 := h.le
  have hd : s.data.toList.drop i = s[i] :: s.data.toList.drop (i + 1) := by
    rw [List.drop_eq_getElem_cons (by rw [hl]; exact hi)]; simp [ByteArray.getElem_eq_getElem_data]
  have hm := h.more hi
  rw [show s.size - i = (s.size - i - 1) + 1 by omega, hd]
  simp only [piecesF, hm]
  have e1 : i + 1 + (e - (i + 1)) = e := by omega
  have e2 : (s.data.toList.drop (i + 1)).drop (e - (i + 1)) = s.data.toList.drop e := by rw [List.drop_drop]; congr 1
  have e3 : s[i] :: (s.data.toList.drop (i + 1)).take (e - (i + 1)) = (s.extract i e).data.toList := by
    have : (s.extract i e).data.toList = (s.data.toList.drop i).take (e - i) := by simp
    rw [this, hd, show e - i = (e - (i + 1)) + 1 by omega, List.take_succ_cons]
  rw [e1, e2, e3]
  congr 1
  rw [piecesF_enough _ _ _ (by rw [List.length_drop, hl]; omega), piecesF_enough (s.size - e) _ _ (by rw [List.length_drop, hl]; omega)]

/-- A block is as it was. -/
def KeepB (b : Nat) (W W' : World) : Prop := W'.heap[b]? = W.heap[b]?
theorem keepB_t {b : Nat} {A B C : World} (h : KeepB b A B) (k : KeepB b B C) : KeepB b A C := Eq.trans k h
theorem keepB_below {b : Nat} {A B : World} (h : Below A.heap.size A B) (hb : b < A.heap.size) : KeepB b A B := h.block b hb

/-- What has come and what is still to come. -/
def Came (s : ByteArray) (pre : List Piece) (i : Nat) : Prop := pre.map Piece.plain ++ piecesF (s.size - i) i (s.data.toList.drop i) = piecesS s.data.toList ∧ pre.length ≤ i

theorem extract_size' (s : ByteArray) (i e : Nat) (h : e ≤ s.size) : (s.extract i e).size = e - i := by simp [ByteArray.size_extract]; omega

theorem came_blank {s : ByteArray} {pre : List Piece} {i e : Nat} (h : Came s pre i) (he : EndsAt s i e) (hi : i < s.size) (h32 : s[i] = 32) : Came s pre e := by
  obtain ⟨h1, h2⟩ := h
  rw [piece_step he hi, if_pos h32] at h1
  exact ⟨by simpa using h1, by have := he.lt; omega⟩
theorem came_piece {s : ByteArray} {pre : List Piece} {i e : Nat} (hx : 0 < (s.extract i e).size ∧ (s.extract i e).size ≤ 1000 ∧ i ≤ 1000) (h : Came s pre i) (he : EndsAt s i e) (hi : i < s.size) (h32 : ¬ s[i] = 32) : Came s (pre ++ [(⟨(i, s.extract i e), hx⟩ : Piece)]) e := by
  obtain ⟨h1, h2⟩ := h
  rw [piece_step he hi, if_neg h32] at h1
  exact ⟨by rw [← h1]; simp [Piece.plain], by have := he.lt; simp; omega⟩
theorem came_prefix {s : ByteArray} {pre : List Piece} {i e : Nat} (hx : 0 < (s.extract i e).size ∧ (s.extract i e).size ≤ 1000 ∧ i ≤ 1000) (h : Came s pre i) (he : EndsAt s i e) (hi : i < s.size) (h32 : ¬ s[i] = 32) : (pre ++ [(⟨(i, s.extract i e), hx⟩ : Piece)]).map Piece.plain <+: piecesS s.data.toList :=
  ⟨_, (came_piece hx h he hi h32).1⟩

set_option maxRecDepth 100000 in
set_option maxHeartbeats 4000000 in
theorem pieces1_in (n : Nat) (hn : 1 ≤ n) (l Bs : Nat) (s : ByteArray) (hs : s.size ≤ 1000) (J Jx : List Piece → World → Prop)
    (hY : ∀ pre x W, J pre W → pre.length < s.size → YieldAt Fence.wide (n - 1) Tryz.prog l x.enc W fun e W' =>
      (e = .returned (.bool true) ∧ J (pre ++ [x]) W' ∧ KeepB Bs W W') ∨ (e = .returned (.bool false) ∧ Jx (pre ++ [x]) W'))
    (W : World) (hc : W.cell? ⟨Bs, 0, none⟩ = some (.string s)) (h0 : J [] W) :
    CallsIn Fence.wide n Tryz.prog 102 #[.func (.yield l) #[] #[], .pointer (some ⟨Bs, 0, none⟩)] W fun e W' => (∃ v, e = .returned v) ∧
      ((∃ ys : List Piece, ys.map Piece.plain = piecesS s.data.toList ∧ J ys W') ∨ (∃ pre : List Piece, pre.map Piece.plain <+: piecesS s.data.toList ∧ Jx pre W')) := by
  refine callsIn_of_wp Tryz.func102 rfl trivial ?_ rfl
  simp only [Tryz.ntmps102, List.size_toArray, List.length_cons, List.length_nil, Nat.reduceAdd, Nat.reduceSub, Array.replicate_succ, Array.replicate_zero, List.push_toArray, List.append_toArray, List.nil_append, List.cons_append]
  have hfw : ∀ f, Fence.wide.fn f := fun _ => trivial
  have HY := Lib.hid hY
  clear hY
  gi_wp2
  gi_loopw [3, 4] (fun i _ wr => ∃ (k : Nat) (pre : List Piece), k ≤ s.size ∧ i = .int .i64 k ∧ Came s pre k ∧ J pre wr ∧ KeepB Bs W wr)
    (fun i _ _ => s.size - (intOf i).toNat)
  case atStart => exact ⟨0, [], Nat.zero_le _, rfl, ⟨by simp [piecesS], Nat.le_refl _⟩, h0, rfl⟩
  case round =>
    obtain ⟨k, pre, hk, rfl, hcame, hJ, hnx⟩ := hrel
    have hcx : wr.cell? ⟨Bs, 0, none⟩ = some (.string s) := (World.cell?_of_block (a := ⟨Bs, 0, none⟩) hnx).trans hc
    have HC := Lib.hid hcame
    have HJ := Lib.hid hJ
    clear hcame hJ h0 hc
    by_cases hlt : k < s.size
    · gi_wp2
      have hkk : k + 1 ≤ s.size := hlt
      gi_loop [4] (fun e => ∃ m : Nat, k + 1 ≤ m ∧ m ≤ s.size ∧ e = .int .i64 m ∧ (letterI s[k].toNat = false → m = k + 1) ∧ (∀ j (h : j < s.size), k < j → j < m → letterI s[j].toNat = true))
        (fun e => s.size - (intOf e).toNat)
      case atStart => exact ⟨k + 1, Nat.le_refl _, hkk, by go_num, fun _ => rfl, fun j _ h1 h2 => absurd h2 (by omega)⟩
      case round =>
        obtain ⟨m, hm1, hm2, rfl, hone, hall⟩ := hrel
        have HOne := Lib.hid hone
        have HAll := Lib.hid hall
        clear hone hall
        have hcy := hcx
        cases hl : letterI s[k].toNat
        · have he : EndsAt s k m := ⟨by omega, hm2, fun _ _ => HOne.out hl, HAll.out, fun _ _ h => absurd (hl.symm.trans h) (by simp)⟩
          have HE' := Lib.hid he
          clear he
          by_cases h32 : s[k] = 32
          · have d32 : ((s[k].toNat : Int) != 32) = false := by rw [h32]; rfl
            have H32 := Lib.hid h32
            clear h32 hcy
            gi_wp2_with (gi_at_call 64; refine (callsIn_wide.2 (letter_any _ _)).mono ?_; rintro e w' ⟨rfl, rfl⟩)
            go_roundw
            case rel => exact ⟨m, pre, HE'.out.le, rfl, came_blank HC.out HE'.out hlt H32.out, HJ.out, hnx⟩
            case measure => have := HE'.out.lt; simp [intOf]; omega
          · have d32 : ((s[k].toNat : Int) != 32) = true := by simp; intro h; exact h32 (UInt8.toNat_inj.1 (by rw [show (32 : UInt8).toNat = 32 from rfl]; omega))
            have H32 := Lib.hid h32
            have hpl := HC.out.2
            have hsz := extract_size' s k m HE'.out.le
            have hx : 0 < (s.extract k m).size ∧ (s.extract k m).size ≤ 1000 ∧ k ≤ 1000 := ⟨by rw [hsz]; have := HE'.out.lt; omega, by rw [hsz]; omega, by omega⟩
            obtain ⟨fn, tmps, assign, body, hy, hR⟩ := HY.out pre ⟨(k, s.extract k m), hx⟩ wr HJ.out (by omega)
            clear h32 hsz hpl
            simp only [Piece.enc] at hy
            have b1 : (k : Int) ≤ (m : Int) := by omega
            gi_wp2_with (gi_at_call 64; refine (callsIn_wide.2 (letter_any _ _)).mono ?_; rintro e w' ⟨rfl, rfl⟩)
            refine hR.mono ?_
            rintro e W3 (⟨rfl, hJ3, hk3⟩ | ⟨rfl, hJx3⟩)
            · gi_wp2
              go_roundw
              case rel => exact ⟨m, pre ++ [⟨(k, s.extract k m), hx⟩], HE'.out.le, rfl, came_piece hx HC.out HE'.out hlt H32.out, hJ3, keepB_t hnx hk3⟩
              case measure => have := HE'.out.lt; simp [intOf]; omega
            · gi_wp2
              refine bodyPost_ret (results_none rfl _ _ _) rfl ?_
              exact ⟨⟨_, rfl⟩, .inr ⟨_, came_prefix hx HC.out HE'.out hlt H32.out, hJx3⟩⟩
        · by_cases hme : m < s.size
          · cases hl2 : letterI s[m].toNat
            · have he : EndsAt s k m := ⟨by omega, hm2, fun _ h => absurd (h.symm.trans hl) (by simp), HAll.out, fun _ _ _ => hl2⟩
              have HE' := Lib.hid he
              clear he
              by_cases h32 : s[k] = 32
              · have d32 : ((s[k].toNat : Int) != 32) = false := by rw [h32]; rfl
                have H32 := Lib.hid h32
                clear h32 hcy
                gi_wp2_with (gi_at_call 64; refine (callsIn_wide.2 (letter_any _ _)).mono ?_; rintro e w' ⟨rfl, rfl⟩)
                go_roundw
                case rel => exact ⟨m, pre, HE'.out.le, rfl, came_blank HC.out HE'.out hlt H32.out, HJ.out, hnx⟩
                case measure => have := HE'.out.lt; simp [intOf]; omega
              · have d32 : ((s[k].toNat : Int) != 32) = true := by simp; intro h; exact h32 (UInt8.toNat_inj.1 (by rw [show (32 : UInt8).toNat = 32 from rfl]; omega))
                have H32 := Lib.hid h32
                have hpl := HC.out.2
                have hsz := extract_size' s k m HE'.out.le
                have hx : 0 < (s.extract k m).size ∧ (s.extract k m).size ≤ 1000 ∧ k ≤ 1000 := ⟨by rw [hsz]; have := HE'.out.lt; omega, by rw [hsz]; omega, by omega⟩
                obtain ⟨fn, tmps, assign, body, hy, hR⟩ := HY.out pre ⟨(k, s.extract k m), hx⟩ wr HJ.out (by omega)
                clear h32 hsz hpl
                simp only [Piece.enc] at hy
                have b1 : (k : Int) ≤ (m : Int) := by omega
                gi_wp2_with (gi_at_call 64; refine (callsIn_wide.2 (letter_any _ _)).mono ?_; rintro e w' ⟨rfl, rfl⟩)
                refine hR.mono ?_
                rintro e W3 (⟨rfl, hJ3, hk3⟩ | ⟨rfl, hJx3⟩)
                · gi_wp2
                  go_roundw
                  case rel => exact ⟨m, pre ++ [⟨(k, s.extract k m), hx⟩], HE'.out.le, rfl, came_piece hx HC.out HE'.out hlt H32.out, hJ3, keepB_t hnx hk3⟩
                  case measure => have := HE'.out.lt; simp [intOf]; omega
                · gi_wp2
                  refine bodyPost_ret (results_none rfl _ _ _) rfl ?_
                  exact ⟨⟨_, rfl⟩, .inr ⟨_, came_prefix hx HC.out HE'.out hlt H32.out, hJx3⟩⟩
            · have HAll2 : Hid (∀ j (h : j < s.size), k < j → j < m + 1 → letterI s[j].toNat = true) := fun j h h1 h2 => by
                rcases Nat.lt_succ_iff_lt_or_eq.1 h2 with h3 | rfl
                · exact HAll.out j h h1 h3
                · exact hl2
              have HL := Lib.hid hl
              gi_wp2_with (gi_at_call 64; refine (callsIn_wide.2 (letter_any _ _)).mono ?_; rintro e w' ⟨rfl, rfl⟩)
              go_round
              case rel => exact ⟨m + 1, by omega, by omega, by go_num, fun h => by first | cases h | exact absurd (h.symm.trans HL.out) (by simp), HAll2.out⟩
              case measure => simp [intOf]; omega
          · have he : EndsAt s k m := ⟨by omega, hm2, fun _ h => absurd (h.symm.trans hl) (by simp), HAll.out, fun h _ _ => absurd h hme⟩
            obtain rfl : m = s.size := by omega
            have HE' := Lib.hid he
            clear he
            by_cases h32 : s[k] = 32
            · have d32 : ((s[k].toNat : Int) != 32) = false := by rw [h32]; rfl
              have H32 := Lib.hid h32
              clear h32 hcy
              gi_wp2_with (gi_at_call 64; refine (callsIn_wide.2 (letter_any _ _)).mono ?_; rintro e w' ⟨rfl, rfl⟩)
              go_roundw
              case rel => exact ⟨s.size, pre, HE'.out.le, rfl, came_blank HC.out HE'.out hlt H32.out, HJ.out, hnx⟩
              case measure => have := HE'.out.lt; simp [intOf]; omega
            · have d32 : ((s[k].toNat : Int) != 32) = true := by simp; intro h; exact h32 (UInt8.toNat_inj.1 (by rw [show (32 : UInt8).toNat = 32 from rfl]; omega))
              have H32 := Lib.hid h32
              have hpl := HC.out.2
              have hsz := extract_size' s k s.size HE'.out.le
              have hx : 0 < (s.extract k s.size).size ∧ (s.extract k s.size).size ≤ 1000 ∧ k ≤ 1000 := ⟨by rw [hsz]; have := HE'.out.lt; omega, by rw [hsz]; omega, by omega⟩
              obtain ⟨fn, tmps, assign, body, hy, hR⟩ := HY.out pre ⟨(k, s.extract k s.size), hx⟩ wr HJ.out (by omega)
              clear h32 hsz hpl
              simp only [Piece.enc] at hy
              have b1 : (k : Int) ≤ (s.size : Int) := by omega
              gi_wp2_with (gi_at_call 64; refine (callsIn_wide.2 (letter_any _ _)).mono ?_; rintro e w' ⟨rfl, rfl⟩)
              refine hR.mono ?_
              rintro e W3 (⟨rfl, hJ3, hk3⟩ | ⟨rfl, hJx3⟩)
              · gi_wp2
                go_roundw
                case rel => exact ⟨s.size, pre ++ [⟨(k, s.extract k s.size), hx⟩], HE'.out.le, rfl, came_piece hx HC.out HE'.out hlt H32.out, hJ3, keepB_t hnx hk3⟩
                case measure => have := HE'.out.lt; simp [intOf]; omega
              · gi_wp2
                refine bodyPost_ret (results_none rfl _ _ _) rfl ?_
                exact ⟨⟨_, rfl⟩, .inr ⟨_, came_prefix hx HC.out HE'.out hlt H32.out, hJx3⟩⟩
    · obtain rfl : k = s.size := by omega
      gi_wp2
      go_end0
      exact ⟨⟨_, rfl⟩, .inl ⟨pre, by have := HC.out.1; simpa [piecesF] using this, HJ.out⟩⟩
end Go.Proofs.YthmnffgjckpkiaaGreatDoor
namespace Go.Proofs.YthmnffgjckpkiaaGreatDoor
open Go Go.RowKit

theorem encode_len (r : Int) : (Lib.encodeRune r).length ≤ 4 := by
  unfold Lib.encodeRune Lib.encodeRuneZ
  repeat' split
  all_goals simp
theorem mapGo_len (f : Int → Int) : ∀ (n : Nat) (l : List UInt8), (Lib.mapGoD f n l).length ≤ 4 * n
  | 0, _ => by simp [Lib.mapGoD]
  | n + 1, l => by
    have ih := mapGo_len f n
    unfold Lib.mapGoD
    split
    · simp
    · rw [List.length_append]
      have h1 := ih (l.drop (Lib.decodeL l).2)
      have h2 := encode_len (f (Lib.decodeL l).1)
      split
      · omega
      · simp; omega
theorem lower_len (l : List UInt8) : (Lib.toLowerD l).length ≤ 4 * l.length := mapGo_len _ _ _
theorem upper_len (l : List UInt8) : (Lib.toUpperD l).length ≤ 4 * l.length := mapGo_len _ _ _

theorem bytes_size (l : List UInt8) : (⟨l.toArray⟩ : ByteArray).size = l.length := by show Array.size _ = _; exact List.size_toArray

/-- The first word of a sentence as a token. -/
def firstS (l : List UInt8) : List UInt8 := if isFn (Lib.toLowerD l) then Lib.toLowerD l else l

set_option maxHeartbeats 1000000 in
theorem first_any (W0 w : World) (ht : Tabs W0 w) (s : ByteArray) (hs : s.size < 35184372088832) :
    Calls Tryz.prog 65 #[.string s] w fun e w' => e = .returned (.string ⟨(firstS s.data.toList).toArray⟩) ∧ Below w.heap.size w w' := by
  have hlow : (⟨(Lib.toLowerD s.data.toList).toArray⟩ : ByteArray).size ≤ maxLen := by
    rw [bytes_size]
    have := lower_len s.data.toList
    have e : s.data.toList.length = s.size := by simp
    unfold maxLen; omega
  have hL := Lib.hid (Tryz.strings_ToLower_any s w hs ht.t0.case ht.t0.utf8)
  cases hf : isFn (Lib.toLowerD s.data.toList)
  · have hfs : firstS s.data.toList = s.data.toList := by simp [firstS, hf]
    rw [hfs]
    have HF := Lib.hid hf
    clear hf hfs
    go_enter Tryz.func65, Tryz.ntmps65
    go_wp2_with fail
    refine (hL.out).mono ?_
    rintro e w1 ⟨rfl, hb1⟩
    go_wp2_with fail
    refine (Function_any W0 w1 (ht.next hb1) _ hlow).mono ?_
    rintro e w2 ⟨rfl, hb2⟩
    rw [show isFn (⟨(Lib.toLowerD s.data.toList).toArray⟩ : ByteArray).data.toList = false from HF.out]
    go_wp2
    go_ret
    exact ⟨rfl, hb1.trans (hb2.mono hb1.size)⟩
  · have hfs : firstS s.data.toList = Lib.toLowerD s.data.toList := by simp [firstS, hf]
    rw [hfs]
    have HF := Lib.hid hf
    clear hf hfs
    go_enter Tryz.func65, Tryz.ntmps65
    go_wp2_with fail
    refine (hL.out).mono ?_
    rintro e w1 ⟨rfl, hb1⟩
    go_wp2_with fail
    refine (Function_any W0 w1 (ht.next hb1) _ hlow).mono ?_
    rintro e w2 ⟨rfl, hb2⟩
    rw [show isFn (⟨(Lib.toLowerD s.data.toList).toArray⟩ : ByteArray).data.toList = true from HF.out]
    go_wp2
    go_ret
    exact ⟨rfl, hb1.trans (hb2.mono hb1.size)⟩
end Go.Proofs.YthmnffgjckpkiaaGreatDoor
namespace Go.Proofs.YthmnffgjckpkiaaGreatDoor
open Go Go.RowKit Go.Shelf
attribute [local go_sem] Oper.semAt_some

/-- What 'Tokens' does with one piece: the tokens so far, and whether the period was there. -/
def stepT (st : List (List UInt8) × Bool) (x : Nat × List UInt8) : Option (List (List UInt8) × Bool) :=
  if st.2 || (!isL (x.2.headD 0) && !((x.2 == [44] || x.2 == [46]) && decide (0 < st.1.length))) then none
  else some (st.1 ++ [if st.1 = [] then firstS x.2 else x.2], (if st.1 = [] then firstS x.2 else x.2) == [46])
/-- All pieces: the place of the one that cannot stand there, or what has come. -/
def runT (st : List (List UInt8) × Bool) : List (Nat × List UInt8) → Nat ⊕ (List (List UInt8) × Bool)
  | [] => .inr st
  | x :: xs => match stepT st x with
    | none => .inl x.1
    | some st' => runT st' xs
theorem runT_snoc : ∀ (xs : List (Nat × List UInt8)) (st : List (List UInt8) × Bool) (x : Nat × List UInt8),
    runT st (xs ++ [x]) = match runT st xs with | .inl k => .inl k | .inr st' => (match stepT st' x with | none => .inl x.1 | some st'' => .inr st'')
  | [], st, x => by
    simp only [List.nil_append, runT]
  | y :: xs, st, x => by
    simp only [List.cons_append, runT]
    cases stepT st y with
    | none => rfl
    | some st' => exact runT_snoc xs st' x
theorem runT_prefix : ∀ (xs ys : List (Nat × List UInt8)) (st : List (List UInt8) × Bool) (k : Nat), runT st xs = .inl k → runT st (xs ++ ys) = .inl k
  | [], _, _, _, h => by simp [runT] at h
  | x :: xs, ys, st, k, h => by
    simp only [List.cons_append, runT] at h ⊢
    cases hs : stepT st x with
    | none => rw [hs] at h; exact h
    | some st' => rw [hs] at h; exact runT_prefix xs ys st' k h

/-- What 'Tokens' returns: the tokens, the place, the error. -/
def tokensS (l : List UInt8) : List (List UInt8) × Int × Int :=
  if 1000 < l.length then ([], 0, 3) else match runT ([], false) (piecesS l) with
    | .inl k => ([], k, 332)
    | .inr (toks, ended) => if ended then (toks, 0, 0) else ([], l.length, 332)

/-- The slice value v denotes the list of texts. -/
def StrSlice (w : World) (v : Value) (l : List (List UInt8)) : Prop :=
  ∃ a cap, v = .slice a l.length cap ∧ l.length ≤ cap ∧ cap ≤ maxLen ∧ (l = [] ∨ ∃ b off, a = some ⟨b, off, none⟩ ∧ ∀ j (h : j < l.length), w.cell? ⟨b, off + j, none⟩ = some (.string ⟨l[j].toArray⟩))
theorem StrSlice.below {w w' : World} {v : Value} {l : List (List UInt8)} (h : StrSlice w v l) (hb : Below w.heap.size w w') : StrSlice w' v l := by
  obtain ⟨a, cap, hv, h1, h2, h⟩ := h
  refine ⟨a, cap, hv, h1, h2, ?_⟩
  rcases h with h | ⟨b, off, ha, hc⟩
  · exact .inl h
  · exact .inr ⟨b, off, ha, fun j hj => cell_kept' hb (hc j hj)⟩
def strVal (l : List UInt8) : Value := .string ⟨l.toArray⟩
theorem strSlice_of_owns {w : World} {base : Nat} {v : Value} {l : List (List UInt8)} {t : TypeId} (h : w.ownsRow base t 1 v l.length (l.map strVal)) : StrSlice w v l := by
  rcases h.2 with ⟨rfl, h0⟩ | ⟨g, cap, cur, rfl, hbg, hg, hnc, hcm, hcs, htake⟩
  · have : l = [] := List.eq_nil_of_length_eq_zero h0
    subst this
    exact ⟨none, 0, rfl, Nat.le_refl _, Nat.zero_le _, .inl rfl⟩
  · refine ⟨_, cap, rfl, hnc, hcm, .inr ⟨g, 0, rfl, fun j hj => ?_⟩⟩
    have hc := h.cells (g := g) rfl j (strVal l[j]) (by simp [hj])
    have hadd : (⟨g, 0, none⟩ : Addr).add j = ⟨g, j, none⟩ := by unfold Addr.add; split <;> simp_all
    rw [hadd] at hc
    rw [Nat.zero_add]
    exact hc

theorem pieces_any (w : World) (s : ByteArray) :
    Calls Tryz.prog 63 #[.string s] w fun e w' => e = .returned (.func (.func 102) #[] #[.pointer (some ⟨w.heap.size, 0, none⟩)]) ∧ w.alloc (.cells #[.string s] 9) = w' := by
  go_enter Tryz.func63, Tryz.ntmps63
  go_wp2
  go_ret
  exact ⟨rfl, rfl⟩

theorem pieces_stops (n : Nat) (hn : 1 ≤ n) (Bs : Nat) (s : ByteArray) (hs : s.size ≤ 1000) (w : World) (hc : w.cell? ⟨Bs, 0, none⟩ = some (.string s)) :
    SeqStopsK Fence.wide n Tryz.prog 102 #[.pointer (some ⟨Bs, 0, none⟩)] Piece.enc (KeepB Bs) (fun ys => ys.map Piece.plain = piecesS s.data.toList) (fun pre => pre.map Piece.plain <+: piecesS s.data.toList) s.size w := fun l J Jx W hW _ _ hY h0 =>
  pieces1_in n hn l Bs s hs J Jx hY W (cell_kept' hW hc) h0
theorem keepB_b {w : World} {b : Nat} (hb : b < w.heap.size) (W : World) (l : Nat) (o o' : Obj) (hl : w.heap.size ≤ l) (_ : W.heap[l]? = some o) (_ : o.isCells = false) (_ : o.isWalk = false) : KeepB b W (W.putObj l o') :=
  World.putObj_heap_other (by omega)

/-- The state of the loop of 'Tokens' behind some pieces: five boxes from block B on, and the tokens' row. -/
def TokI (B : Nat) (pre : List Piece) (W : World) : Prop :=
  ∃ toks ended v, runT ([], false) (pre.map Piece.plain) = .inr (toks, ended) ∧ toks.length = pre.length ∧ B + 6 ≤ W.heap.size ∧ Boxed W B 41 (.slice none 0 0) ∧ Boxed W (B + 1) 3 (.int .i64 0) ∧ Boxed W (B + 1 + 1) 26 (.int .i64 0) ∧
    Boxed W (B + 1 + 1 + 1) 41 v ∧ Boxed W (B + 1 + 1 + 1 + 1) 4 (.bool ended) ∧ W.ownsRow (B + 6) 9 1 v toks.length (toks.map strVal)
/-- The loop was left: the results. -/
def TokX (B : Nat) (pre : List Piece) (W : World) : Prop :=
  ∃ k, runT ([], false) (pre.map Piece.plain) = .inl k ∧ Boxed W B 41 (.slice none 0 0) ∧ Boxed W (B + 1) 3 (.int .i64 k) ∧ Boxed W (B + 1 + 1) 26 (.int .i64 332)

theorem boxed_kept' {W W' : World} {row : Option Nat} {B : Nat} {t : TypeId} {v : Value} (h : Boxed W B t v) (hg : W.grownBy W' row) (hr : ∀ r, row = some r → ∃ o : Obj, W.heap[r]? = some o ∧ o.isCells = false) : Boxed W' B t v :=
  h.kept hg (fun e => by obtain ⟨o, ho, hc⟩ := hr B e.symm; rw [show W.heap[B]? = _ from h] at ho; cases ho; cases hc)
theorem owns_kept' {W W' : World} {row : Option Nat} {base : Nat} {e : TypeId} {size : Nat} {v : Value} {k : Nat} {xs : List Value} (h : W.ownsRow base e size v k xs) (hg : W.grownBy W' row) (hr : ∀ r, row = some r → ∃ o : Obj, W.heap[r]? = some o ∧ o.isCells = false) : W'.ownsRow base e size v k xs := by
  refine h.kept hg ?_
  rcases h.2 with ⟨rfl, _⟩ | ⟨g, cap, cur, rfl, _, hgb, _⟩
  · exact .inl rfl
  · refine .inr fun e' => ?_
    obtain ⟨o, ho, hc⟩ := hr g (by simpa [Value.ownBlock] using e'.symm)
    rw [hgb] at ho; cases ho; cases hc
/-- The token that a piece becomes. -/
def tokOf (toks : List (List UInt8)) (x : Piece) : List UInt8 := if toks = [] then firstS x.1.2.data.toList else x.1.2.data.toList
theorem headD_get {s : ByteArray} (h : 0 < s.size) : s.data.toList.headD 0 = s[0] := by
  have h' : 0 < s.data.toList.length := by simpa using h
  cases hs : s.data.toList with
  | nil => rw [hs] at h'; simp at h'
  | cons a b =>
    have : s[0] = s.data.toList[0] := by simp [ByteArray.getElem_eq_getElem_data]
    rw [this]; simp [hs]
theorem step_none_of {toks : List (List UInt8)} {ended : Bool} {x : Piece} (h : ended = true ∨ (letterI (x.1.2[0]'x.2.1).toNat = false ∧ (toks = [] ∨ ((x.1.2.toList == [44]) = false ∧ (x.1.2.toList == [46]) = false)))) : stepT (toks, ended) x.plain = none := by
  unfold stepT Piece.plain
  simp only [headD_get x.2.1, isL]
  rcases h with rfl | ⟨h1, rfl | ⟨h2, h3⟩⟩
  · simp
  · simp [h1]
  · rw [ByteArray.toList_eq] at h2 h3
    simp [h1, h2, h3]
theorem step_some_of {toks : List (List UInt8)} {x : Piece} (h : letterI (x.1.2[0]'x.2.1).toNat = true ∨ (toks ≠ [] ∧ ((x.1.2.toList == [44]) = true ∨ (x.1.2.toList == [46]) = true))) : stepT (toks, false) x.plain = some (toks ++ [tokOf toks x], tokOf toks x == [46]) := by
  unfold stepT Piece.plain tokOf
  simp only [headD_get x.2.1, isL]
  rcases h with h1 | ⟨h1, h2 | h2⟩
  · simp [h1]
  · rw [ByteArray.toList_eq] at h2
    have : 0 < toks.length := List.length_pos_iff.2 h1
    rw [h2]; simp [this]
  · rw [ByteArray.toList_eq] at h2
    have : 0 < toks.length := List.length_pos_iff.2 h1
    rw [h2]; simp [this]
theorem tok_run_fail {pre : List Piece} {x : Piece} {st : List (List UInt8) × Bool} (h : runT ([], false) (pre.map Piece.plain) = .inr st) (hs : stepT st x.plain = none) : runT ([], false) ((pre ++ [x]).map Piece.plain) = .inl x.1.1 := by
  rw [List.map_append, List.map_singleton, runT_snoc, h]
  simp only [hs]
  rfl
theorem tok_run_ok {pre : List Piece} {x : Piece} {st st' : List (List UInt8) × Bool} (h : runT ([], false) (pre.map Piece.plain) = .inr st) (hs : stepT st x.plain = some st') : runT ([], false) ((pre ++ [x]).map Piece.plain) = .inr st' := by
  rw [List.map_append, List.map_singleton, runT_snoc, h]
  simp only [hs]
theorem owns_form {w : World} {base : Nat} {e : TypeId} {size : Nat} {v : Value} {n : Nat} {xs : List Value} (h : w.ownsRow base e size v n xs) : ∃ a cap, v = .slice a n cap := by
  rcases h.2 with ⟨rfl, rfl⟩ | ⟨g, cap, cur, rfl, _⟩
  · exact ⟨none, 0, rfl⟩
  · exact ⟨_, cap, rfl⟩
theorem boxed_below {W W' : World} {B : Nat} {t : TypeId} {v : Value} (h : Boxed W B t v) (hb : Below W.heap.size W W') : Boxed W' B t v := (hb.block B h.lt).trans h
theorem boxed_append {W w1 : World} {B : Nat} {t e : TypeId} {size base n : Nat} {u v : Value} {xs : List Value} {tmp : Obj} (h : Boxed W B t u) (hr : W.ownsRow base e size v n xs) (hgrow : (W.alloc tmp).grownBy w1 v.ownBlock) (hte : t ≠ e) : Boxed w1 B t u :=
  (h.alloc tmp).kept hgrow (h.not_row hte hr)

theorem tok_fail {w W : World} {B : Nat} {pre : List Piece} {k : Nat} {u0 u1 u2 : Value} (hB : Below B w W) (b0 : Boxed W B 41 u0) (b1 : Boxed W (B + 1) 3 u1) (b2 : Boxed W (B + 1 + 1) 26 u2)
    (hrun : runT ([], false) (pre.map Piece.plain) = .inl k) :
    KeepsOthers W (((W.setCell ⟨B, 0, none⟩ (.slice none 0 0)).setCell ⟨B + 1, 0, none⟩ (.int .i64 k)).setCell ⟨B + 1 + 1, 0, none⟩ (.int .i64 332)) ∧
    TokX B pre (((W.setCell ⟨B, 0, none⟩ (.slice none 0 0)).setCell ⟨B + 1, 0, none⟩ (.int .i64 k)).setCell ⟨B + 1 + 1, 0, none⟩ (.int .i64 332)) ∧
    Below B w (((W.setCell ⟨B, 0, none⟩ (.slice none 0 0)).setCell ⟨B + 1, 0, none⟩ (.int .i64 k)).setCell ⟨B + 1 + 1, 0, none⟩ (.int .i64 332)) := by
  refine ⟨((KeepsOthers.setCell _ _ _).trans (KeepsOthers.setCell _ _ _)).trans (KeepsOthers.setCell _ _ _), ⟨k, hrun, ?_, ?_, ?_⟩, ?_⟩
  · exact ((b0.set _).other (by omega) _).other (by omega) _
  · exact ((b1.other (by omega) _).set _).other (by omega) _
  · exact ((b2.other (by omega) _).other (by omega) _).set _
  · exact ((hB.setCell (p := ⟨B, 0, none⟩) (Nat.le_refl _) _).setCell (p := ⟨B + 1, 0, none⟩) (by simp) _).setCell (p := ⟨B + 1 + 1, 0, none⟩) (by simp; omega) _

/-- A token has come. -/
theorem tok_done {w W w1 : World} {B : Nat} {pre : List Piece} {x : Piece} {toks : List (List UInt8)} {ended e2 : Bool} {v v' u : Value} {tmp : Obj} {n : Nat} {xs : List Value} (hB : Below B w W) (hsz : B + 6 ≤ W.heap.size)
    (b0 : Boxed W B 41 (.slice none 0 0)) (b1 : Boxed W (B + 1) 3 (.int .i64 0)) (b2 : Boxed W (B + 1 + 1) 26 (.int .i64 0)) (b3 : Boxed W (B + 1 + 1 + 1) 41 v) (b4 : Boxed W (B + 1 + 1 + 1 + 1) 4 (.bool ended))
    (hr : W.ownsRow (B + 6) 9 1 v n xs) (hown' : w1.ownsRow (B + 6) 9 1 v' (toks.length + 1) (toks.map strVal ++ [u])) (hgrow : (W.alloc tmp).grownBy w1 v.ownBlock)
    (hu : u = strVal (tokOf toks x))
    (h0 : runT ([], false) (pre.map Piece.plain) = .inr (toks, ended)) (hs : stepT (toks, ended) x.plain = some (toks ++ [tokOf toks x], tokOf toks x == [46])) (hl : toks.length = pre.length) (he : e2 = (tokOf toks x == [46])) :
    KeepsOthers W ((w1.setCell ⟨B + 1 + 1 + 1, 0, none⟩ v').setCell ⟨B + 1 + 1 + 1 + 1, 0, none⟩ (.bool e2)) ∧ KeepB (B + 1 + 1 + 1 + 1 + 1) W ((w1.setCell ⟨B + 1 + 1 + 1, 0, none⟩ v').setCell ⟨B + 1 + 1 + 1 + 1, 0, none⟩ (.bool e2)) ∧
    TokI B (pre ++ [x]) ((w1.setCell ⟨B + 1 + 1 + 1, 0, none⟩ v').setCell ⟨B + 1 + 1 + 1 + 1, 0, none⟩ (.bool e2)) ∧ Below B w ((w1.setCell ⟨B + 1 + 1 + 1, 0, none⟩ v').setCell ⟨B + 1 + 1 + 1 + 1, 0, none⟩ (.bool e2)) := by
  subst he hu
  have c0 := boxed_append b0 hr hgrow (by decide)
  have c1 := boxed_append b1 hr hgrow (by decide)
  have c2 := boxed_append b2 hr hgrow (by decide)
  have c3 := boxed_append b3 hr hgrow (by decide)
  have c4 := boxed_append b4 hr hgrow (by decide)
  have hown2 := hown'.kept (grownBy_setCell' w1 (B + 1 + 1 + 1) v') (.inr (c3.not_row (by decide) hown').symm)
  have d4 := c4.other (B' := B + 1 + 1 + 1) (by omega) v'
  have hown3 := hown2.kept (grownBy_setCell' (w1.setCell ⟨B + 1 + 1 + 1, 0, none⟩ v') (B + 1 + 1 + 1 + 1) (.bool (tokOf toks x == [46]))) (.inr (d4.not_row (by decide) hown2).symm)
  have hblk : ∀ j, v.ownBlock = some j → B + 6 ≤ j := by
    intro j ej
    rcases hr.2 with ⟨rfl, _⟩ | ⟨g, cap, cur, rfl, hb, _, _⟩
    · simp [Value.ownBlock] at ej
    · obtain rfl : g = j := by simpa [Value.ownBlock] using ej
      exact hb
  refine ⟨?_, ?_, ?_, ?_⟩
  · refine (((KeepsOthers.alloc W tmp).trans (KeepsOthers.of_grownBy hgrow fun j o ej hj => ?_)).trans (KeepsOthers.setCell _ _ _)).trans (KeepsOthers.setCell _ _ _)
    rcases (hr.alloc tmp).2 with ⟨rfl, _⟩ | ⟨g, cap, cur, rfl, _, hgb, _⟩
    · simp [Value.ownBlock] at ej
    · obtain rfl : g = j := by simpa [Value.ownBlock] using ej
      rw [hgb] at hj; cases hj; rfl
  · have e1 : w1.heap[B + 1 + 1 + 1 + 1 + 1]? = (W.alloc tmp).heap[B + 1 + 1 + 1 + 1 + 1]? := hgrow.block _ (by simp; omega) (fun e => by have := hblk _ e.symm; omega)
    have e2 : (W.alloc tmp).heap[B + 1 + 1 + 1 + 1 + 1]? = W.heap[B + 1 + 1 + 1 + 1 + 1]? := (World.grownBy_alloc W tmp none).block _ (by omega) (by simp)
    have e3 := (grownBy_setCell' w1 (B + 1 + 1 + 1) v').block (B + 1 + 1 + 1 + 1 + 1) (by have := hgrow.size; simp at this; omega) (fun e => by have := Option.some.inj e; omega)
    have e4 := (grownBy_setCell' (w1.setCell ⟨B + 1 + 1 + 1, 0, none⟩ v') (B + 1 + 1 + 1 + 1) (.bool (tokOf toks x == [46]))).block (B + 1 + 1 + 1 + 1 + 1) (by have := hgrow.size; have := (grownBy_setCell' w1 (B + 1 + 1 + 1) v').size; simp at *; omega) (fun e => by have := Option.some.inj e; omega)
    exact ((e4.trans e3).trans e1).trans e2
  · refine ⟨toks ++ [tokOf toks x], tokOf toks x == [46], v', tok_run_ok h0 hs, by simp [hl], ?_, ?_, ?_, ?_, ?_, d4.set _, ?_⟩
    · have := hgrow.size
      have := (grownBy_setCell' w1 (B + 1 + 1 + 1) v').size
      have := (grownBy_setCell' (w1.setCell ⟨B + 1 + 1 + 1, 0, none⟩ v') (B + 1 + 1 + 1 + 1) (.bool (tokOf toks x == [46]))).size
      simp at *; omega
    · exact (c0.other (by omega) _).other (by omega) _
    · exact (c1.other (by omega) _).other (by omega) _
    · exact (c2.other (by omega) _).other (by omega) _
    · exact (c3.set _).other (by omega) _
    · simpa using hown3
  · exact hB.trans (((((Below.refl B W).alloc (by omega) tmp).grown hgrow (by simp; omega) fun j ej => by have := hblk j ej; omega).setCell (p := ⟨B + 1 + 1 + 1, 0, none⟩) (by simp; omega) v').setCell (p := ⟨B + 1 + 1 + 1 + 1, 0, none⟩) (by simp; omega) _)
theorem tok_first {w W W2 w1 : World} {B : Nat} {pre : List Piece} {x : Piece} {toks : List (List UInt8)} {ended e2 : Bool} {v v' u : Value} {tmp : Obj} {n : Nat} {xs : List Value} (hB : Below B w W) (hsz : B + 6 ≤ W.heap.size)
    (hq : Below W.heap.size W W2) (b0 : Boxed W2 B 41 (.slice none 0 0)) (b1 : Boxed W2 (B + 1) 3 (.int .i64 0)) (b2 : Boxed W2 (B + 1 + 1) 26 (.int .i64 0)) (b3 : Boxed W2 (B + 1 + 1 + 1) 41 v) (b4 : Boxed W2 (B + 1 + 1 + 1 + 1) 4 (.bool ended))
    (hr : W2.ownsRow (B + 6) 9 1 v n xs) (hown' : w1.ownsRow (B + 6) 9 1 v' (toks.length + 1) (toks.map strVal ++ [u])) (hgrow : (W2.alloc tmp).grownBy w1 v.ownBlock)
    (hu : u = strVal (tokOf toks x))
    (h0 : runT ([], false) (pre.map Piece.plain) = .inr (toks, ended)) (hs : stepT (toks, ended) x.plain = some (toks ++ [tokOf toks x], tokOf toks x == [46])) (hl : toks.length = pre.length) (he : e2 = (tokOf toks x == [46])) :
    KeepsOthers W ((w1.setCell ⟨B + 1 + 1 + 1, 0, none⟩ v').setCell ⟨B + 1 + 1 + 1 + 1, 0, none⟩ (.bool e2)) ∧ KeepB (B + 1 + 1 + 1 + 1 + 1) W ((w1.setCell ⟨B + 1 + 1 + 1, 0, none⟩ v').setCell ⟨B + 1 + 1 + 1 + 1, 0, none⟩ (.bool e2)) ∧
    TokI B (pre ++ [x]) ((w1.setCell ⟨B + 1 + 1 + 1, 0, none⟩ v').setCell ⟨B + 1 + 1 + 1 + 1, 0, none⟩ (.bool e2)) ∧ Below B w ((w1.setCell ⟨B + 1 + 1 + 1, 0, none⟩ v').setCell ⟨B + 1 + 1 + 1 + 1, 0, none⟩ (.bool e2)) := by
  have h4 := tok_done (hB.trans (hq.mono (by omega))) (Nat.le_trans hsz hq.size) b0 b1 b2 b3 b4 hr hown' hgrow hu h0 hs hl he
  exact ⟨(KeepsOthers.of_grownBy (grownBy_of_below (row := none) hq) (by simp)).trans h4.1, keepB_t (keepB_below hq (by omega)) h4.2.1, h4.2.2.1, h4.2.2.2⟩
theorem set_other {W : World} {B D : Nat} {v : Value} {o : Obj} (h : W.heap[D]? = some o) (hne : D ≠ B) : (W.setCell ⟨B, 0, none⟩ v).heap[D]? = some o :=
  ((grownBy_setCell' W B v).block D (Array.getElem?_eq_some_iff.1 h).1 (fun e => hne (Option.some.inj e))).trans h
theorem own_set {W : World} {B base n size : Nat} {e t : TypeId} {u v v' : Value} {xs : List Value} (b : Boxed W B t u) (hte : t ≠ e) (h : W.ownsRow base e size v n xs) : (W.setCell ⟨B, 0, none⟩ v').ownsRow base e size v n xs :=
  h.kept (grownBy_setCell' W B v') (.inr (b.not_row hte h).symm)
theorem tok_dot {toks : List (List UInt8)} {x : Piece} (h : toks ≠ []) : (tokOf toks x == [46]) = (x.1.2.toList == [46]) := by
  simp [tokOf, h, ByteArray.toList_eq]
theorem tok_val {toks : List (List UInt8)} {x : Piece} (h : toks ≠ []) : Value.string x.1.2 = strVal (tokOf toks x) := by
  simp [tokOf, h, strVal]
theorem tokI_own (B : Nat) : Own (TokI B) := by
  rintro pre W W' row ⟨toks, ended, v, h0, h1, hsz, b0, b1, b2, b3, b4, hr⟩ hg hrow
  exact ⟨toks, ended, v, h0, h1, Nat.le_trans hsz hg.size, boxed_kept' b0 hg hrow, boxed_kept' b1 hg hrow, boxed_kept' b2 hg hrow, boxed_kept' b3 hg hrow, boxed_kept' b4 hg hrow, owns_kept' hr hg hrow⟩
theorem tokX_own (B : Nat) : Own (TokX B) := by
  rintro pre W W' row ⟨k, h0, b0, b1, b2⟩ hg hrow
  exact ⟨k, h0, boxed_kept' b0 hg hrow, boxed_kept' b1 hg hrow, boxed_kept' b2 hg hrow⟩

theorem info_string : (Tryz.prog.info? 9).map (fun i => (i.zero, i.size, i.bytes)) = some (some (.string ByteArray.empty), 1, 16) := by kernel_rfl

theorem Tokens_long (w : World) (s : ByteArray) (h : 1000 < s.size) (hs : s.size ≤ 9223372036854775807) :
    Calls Tryz.prog 40 #[.string s] w fun e w' => e = .returned (.tuple #[.slice none 0 0, .int .i64 0, .int .i64 3]) ∧ Below w.heap.size w w' := by
  go_enter Tryz.func40, Tryz.ntmps40
  go_wp2
  refine bodyPost_ret (v := .tuple #[.slice none 0 0, .int .i64 0, .int .i64 3]) (by simp [results, Tryz.results40, go_sem]) rfl ⟨rfl, ?_⟩
  exact (((Below.refl _ _).alloc (Nat.le_refl _) _).alloc (by simp) _).alloc (by simp; omega) _

set_option maxRecDepth 100000 in
set_option maxHeartbeats 4000000 in
theorem Tokens_short (W0 w : World) (ht : Tabs W0 w) (s : ByteArray) (hs : s.size ≤ 1000) :
    Calls Tryz.prog 40 #[.string s] w fun e w' => ∃ v, e = .returned (.tuple #[v, .int .i64 (tokensS s.data.toList).2.1, .int .i64 (tokensS s.data.toList).2.2]) ∧ StrSlice w' v (tokensS s.data.toList).1 ∧ Below w.heap.size w w' := by
  obtain ⟨i0, hi, hz0, hz1, hz2⟩ := info_parts info_string
  refine (callsIn_wide (n := 3)).1 ?_
  refine callsIn_of_wp_marks Tryz.func40 rfl trivial ?_ rfl
  simp only [Tryz.ntmps40, List.size_toArray, List.length_cons, List.length_nil, Nat.reduceAdd, Nat.reduceSub, Array.replicate_succ, Array.replicate_zero, List.push_toArray, List.append_toArray, List.nil_append, List.cons_append]
  have hfw : ∀ f, Fence.wide.fn f := fun _ => trivial
  gi_wp2_with (gi_at_call 63; refine (callsIn_wide.2 (pieces_any _ _)).mono ?_; rintro e w' ⟨rfl, rfl⟩)
  have hb0 := Boxed.new w 41 (.slice none 0 0)
  have hb1 := Boxed.new (w.alloc (.cells #[.slice none 0 0] 41)) 3 (.int .i64 0)
  have hb2 := Boxed.new ((w.alloc (.cells #[.slice none 0 0] 41)).alloc (.cells #[.int .i64 0] 3)) 26 (.int .i64 0)
  have hb3 := Boxed.new (((w.alloc (.cells #[.slice none 0 0] 41)).alloc (.cells #[.int .i64 0] 3)).alloc (.cells #[.int .i64 0] 26)) 41 (.slice none 0 0)
  have hb4 := Boxed.new ((((w.alloc (.cells #[.slice none 0 0] 41)).alloc (.cells #[.int .i64 0] 3)).alloc (.cells #[.int .i64 0] 26)).alloc (.cells #[.slice none 0 0] 41)) 4 (.bool false)
  have hb5 := Boxed.new (((((w.alloc (.cells #[.slice none 0 0] 41)).alloc (.cells #[.int .i64 0] 3)).alloc (.cells #[.int .i64 0] 26)).alloc (.cells #[.slice none 0 0] 41)).alloc (.cells #[.bool false] 4)) 9 (.string s)
  simp only [World.size_alloc] at hb1 hb2 hb3 hb4 hb5
  have hBl : Below w.heap.size w ((((((w.alloc (.cells #[.slice none 0 0] 41)).alloc (.cells #[.int .i64 0] 3)).alloc (.cells #[.int .i64 0] 26)).alloc (.cells #[.slice none 0 0] 41)).alloc (.cells #[.bool false] 4)).alloc (.cells #[.string s] 9)) :=
    (((((((Below.refl _ w).alloc (Nat.le_refl _) _).alloc (by simp) _).alloc (by first | (simp; done) | (simp; omega)) _).alloc (by first | (simp; done) | (simp; omega)) _).alloc (by first | (simp; done) | (simp; omega)) _).alloc (by first | (simp; done) | (simp; omega)) _)
  refine wpIn_rangeFunc_ownF rfl (by decide) (gf := 102) (lb := #[.pointer (some ⟨w.heap.size + 1 + 1 + 1 + 1 + 1, 0, none⟩)]) rfl trivial (enters_of Tryz.func102 (by kernel_rfl) rfl)
    (pieces_stops _ (by decide) (w.heap.size + 1 + 1 + 1 + 1 + 1) s hs _ hb5.cell) keepB_t (keepB_b (by first | (simp; done) | (simp; omega))) (Below.refl _ _) (fun _ => rfl)
    (fun pre W => TokI w.heap.size pre W ∧ Below w.heap.size w W) (fun c pre W => (c = .ret ∧ TokX w.heap.size pre W) ∧ Below w.heap.size w W)
    (OwnFrom.and (Own.from (tokI_own _) _) (ownFrom_below (Nat.le_refl _) (by first | (simp; done) | (simp; omega))))
    (fun c => OwnFrom.and (fun pre W W' row h hg hr => ⟨h.1, (tokX_own _) pre W W' row h.2 hg (fun r e => (hr r e).2)⟩) (ownFrom_below (Nat.le_refl _) (by first | (simp; done) | (simp; omega))))
    ⟨⟨[], false, .slice none 0 0, rfl, rfl, by (first | (simp; done) | (simp; omega)), ((((hb0.alloc _).alloc _).alloc _).alloc _).alloc _, (((hb1.alloc _).alloc _).alloc _).alloc _, ((hb2.alloc _).alloc _).alloc _, (hb3.alloc _).alloc _, hb4.alloc _, World.ownsRow_nil _ _ _ _⟩, hBl⟩
    (fun x => { tmps := #[.string s, undef, .pointer (some ⟨w.heap.size, 0, none⟩), .pointer (some ⟨w.heap.size + 1, 0, none⟩), .pointer (some ⟨w.heap.size + 1 + 1, 0, none⟩), .pointer (some ⟨w.heap.size + 1 + 1 + 1, 0, none⟩), .pointer (some ⟨w.heap.size + 1 + 1 + 1 + 1, 0, none⟩), .int .i64 x.1.1, .string x.1.2, undef, undef, .string s, .int .i64 s.size, .bool (decide (1000 < (s.size : Int))), .string s, .func (.func 102) #[] #[.pointer (some ⟨w.heap.size + 1 + 1 + 1 + 1 + 1, 0, none⟩)], .int .i64 x.1.1, .string x.1.2, undef, undef, undef, undef, undef, undef, undef, undef, undef, undef, undef, undef, undef, undef, undef, undef, undef, undef, undef, undef, undef, undef, undef, undef, undef, undef, undef, undef, undef, undef, undef, undef, undef, undef, undef, undef, undef, undef, undef, undef], defers := [] }) ?assign ?body ?done ?stop
  case assign =>
    intro l x W K hK
    simp only [Piece.enc]
    gi_wp2
    exact hK
  case body =>
    rintro l pre x W ⟨⟨toks, ended, v, h0, h1, hsz, b0, b1, b2, b3, b4, hr⟩, hB⟩ hlen
    obtain ⟨a, cap, rfl⟩ := owns_form hr
    have hx : 0 < x.val.snd.size := x.2.1
    have hx2 : x.val.snd.size < 35184372088832 := by have := x.2.2.1; omega
    have ht1 := ht.next hB
    have hc0 := b0.cell
    have hc1 := b1.cell
    have hc2 := b2.cell
    have hc3 := b3.cell
    have hc4 := b4.cell
    have hf0 := b0.frozen
    have hf1 := b1.frozen
    have hf2 := b2.frozen
    have hn : toks.length ≤ 1000 := by omega
    have hsz' : w.heap.size + 6 ≤ W.heap.size := hsz
    have H0 := Lib.hid h0
    have H1 := Lib.hid h1
    clear h0 h1
    cases ended
    · cases hL : letterI x.val.snd[0].toNat
      · cases toks with
        | nil =>
          gi_wp2_with (gi_at_call 64; refine (CallsIn.inRound l (callsIn_wide.2 (letter_any _ _))).mono ?_; rintro e w' ⟨rfl, rfl⟩)
          all_goals
            have hst := tok_run_fail (x := x) H0.out (step_none_of (.inr ⟨hL, .inl rfl⟩))
            exact ⟨(tok_fail hB b0 b1 b2 hst).1, ⟨rfl, (tok_fail hB b0 b1 b2 hst).2.1⟩, (tok_fail hB b0 b1 b2 hst).2.2⟩
        | cons t0 ts =>
          simp only [List.length_cons] at *
          cases hC : (x.val.snd.toList == [44])
          · cases hD : (x.val.snd.toList == [46])
            · gi_wp2_with (gi_at_call 64; refine (CallsIn.inRound l (callsIn_wide.2 (letter_any _ _))).mono ?_; rintro e w' ⟨rfl, rfl⟩)
              have hst := tok_run_fail (x := x) H0.out (step_none_of (.inr ⟨hL, .inr ⟨hC, hD⟩⟩))
              exact ⟨(tok_fail hB b0 b1 b2 hst).1, ⟨rfl, (tok_fail hB b0 b1 b2 hst).2.1⟩, (tok_fail hB b0 b1 b2 hst).2.2⟩
            · gi_wp2_with (first | (gi_at_call 64; refine (CallsIn.inRound l (callsIn_wide.2 (letter_any _ _))).mono ?_; rintro e w' ⟨rfl, rfl⟩) | (gi_at_builtin; refine wpListIn_append_own _ rfl _ _ 41 rfl (w.heap.size + 6) 9 i0 (.string ByteArray.empty) 1 16 Tryz.underlying41 hi hz0 hz1 hz2 rfl (by decide) _ _ _ rfl (hr.alloc _) ⟨W.heap.size, 0, none⟩ 1 1 [.string x.val.snd] rfl rfl (cell_one_new _ _ _) (by simp [Value.oneCell']) (by unfold maxLen; omega) (by omega) (by simp; omega) ?_; intro v' w1 hown' hgrow _; obtain ⟨g', cap', rfl⟩ := ownsRow_succ hown'; have hcn := (boxed_append b3 hr hgrow (by decide)).cell; have hfn := (boxed_append b3 hr hgrow (by decide)).frozen; have hcm := (boxed_append b4 hr hgrow (by decide)).cell; have hfm := (boxed_append b4 hr hgrow (by decide)).frozen))
              exact tok_done hB hsz b0 b1 b2 b3 b4 hr hown' hgrow (tok_val (by simp)) H0.out (step_some_of (.inr ⟨by simp, .inr hD⟩)) H1.out (by rw [tok_dot (by simp), hD])
          · gi_wp2_with (first | (gi_at_call 64; refine (CallsIn.inRound l (callsIn_wide.2 (letter_any _ _))).mono ?_; rintro e w' ⟨rfl, rfl⟩) | (gi_at_builtin; refine wpListIn_append_own _ rfl _ _ 41 rfl (w.heap.size + 6) 9 i0 (.string ByteArray.empty) 1 16 Tryz.underlying41 hi hz0 hz1 hz2 rfl (by decide) _ _ _ rfl (hr.alloc _) ⟨W.heap.size, 0, none⟩ 1 1 [.string x.val.snd] rfl rfl (cell_one_new _ _ _) (by simp [Value.oneCell']) (by unfold maxLen; omega) (by omega) (by simp; omega) ?_; intro v' w1 hown' hgrow _; obtain ⟨g', cap', rfl⟩ := ownsRow_succ hown'; have hcn := (boxed_append b3 hr hgrow (by decide)).cell; have hfn := (boxed_append b3 hr hgrow (by decide)).frozen; have hcm := (boxed_append b4 hr hgrow (by decide)).cell; have hfm := (boxed_append b4 hr hgrow (by decide)).frozen))
            exact tok_done hB hsz b0 b1 b2 b3 b4 hr hown' hgrow (tok_val (by simp)) H0.out (step_some_of (.inr ⟨by simp, .inl hC⟩)) H1.out (by rw [tok_dot (by simp)])
      · cases toks with
        | nil =>
          simp only [List.length_nil] at *
          gi_wp2_with (first | (gi_at_call 64; refine (CallsIn.inRound l (callsIn_wide.2 (letter_any _ _))).mono ?_; rintro e w' ⟨rfl, rfl⟩) | (gi_at_call 65; go_loud (refine (CallsIn.inRound l (callsIn_wide.2 (first_any W0 _ ht1 x.val.snd hx2))).mono ?_; rintro e W2 ⟨rfl, hq2⟩; have d0 := boxed_below b0 hq2; have d1 := boxed_below b1 hq2; have d2 := boxed_below b2 hq2; have d3 := boxed_below b3 hq2; have d4 := boxed_below b4 hq2; have hr2 := ownsRow_below hr hq2; have hdc3 := d3.cell; have hdc4 := d4.cell; have hdf3 := d3.frozen; have hdf4 := d4.frozen)) | (gi_at_builtin; refine wpListIn_append_own _ rfl _ _ 41 rfl (w.heap.size + 6) 9 i0 (.string ByteArray.empty) 1 16 Tryz.underlying41 hi hz0 hz1 hz2 rfl (by decide) _ _ _ rfl (hr2.alloc _) ⟨W2.heap.size, 0, none⟩ 1 1 [.string ⟨(firstS x.val.snd.data.toList).toArray⟩] rfl rfl (cell_one_new _ _ _) (by simp [Value.oneCell']) (by unfold maxLen; omega) (by have := hq2.size; omega) (by have := hq2.size; simp; omega) ?_; intro v' w1 hown' hgrow _; obtain ⟨g', cap', rfl⟩ := ownsRow_succ hown'; have hcn := (boxed_append d3 hr2 hgrow (by decide)).cell; have hfn := (boxed_append d3 hr2 hgrow (by decide)).frozen; have hcm := (boxed_append d4 hr2 hgrow (by decide)).cell; have hfm := (boxed_append d4 hr2 hgrow (by decide)).frozen))
          all_goals
            exact tok_first hB hsz hq2 d0 d1 d2 d3 d4 hr2 hown' hgrow rfl H0.out (step_some_of (.inl hL)) H1.out (by simp [tokOf])
        | cons t0 ts =>
          simp only [List.length_cons] at *
          cases hC : (x.val.snd.toList == [44]) <;> cases hD : (x.val.snd.toList == [46])
          · gi_wp2_with (first | (gi_at_call 64; refine (CallsIn.inRound l (callsIn_wide.2 (letter_any _ _))).mono ?_; rintro e w' ⟨rfl, rfl⟩) | (gi_at_builtin; refine wpListIn_append_own _ rfl _ _ 41 rfl (w.heap.size + 6) 9 i0 (.string ByteArray.empty) 1 16 Tryz.underlying41 hi hz0 hz1 hz2 rfl (by decide) _ _ _ rfl (hr.alloc _) ⟨W.heap.size, 0, none⟩ 1 1 [.string x.val.snd] rfl rfl (cell_one_new _ _ _) (by simp [Value.oneCell']) (by unfold maxLen; omega) (by omega) (by simp; omega) ?_; intro v' w1 hown' hgrow _; obtain ⟨g', cap', rfl⟩ := ownsRow_succ hown'; have hcn := (boxed_append b3 hr hgrow (by decide)).cell; have hfn := (boxed_append b3 hr hgrow (by decide)).frozen; have hcm := (boxed_append b4 hr hgrow (by decide)).cell; have hfm := (boxed_append b4 hr hgrow (by decide)).frozen))
            all_goals exact tok_done hB hsz b0 b1 b2 b3 b4 hr hown' hgrow (tok_val (by simp)) H0.out (step_some_of (.inl hL)) H1.out (by rw [tok_dot (by simp), hD])
          · gi_wp2_with (first | (gi_at_call 64; refine (CallsIn.inRound l (callsIn_wide.2 (letter_any _ _))).mono ?_; rintro e w' ⟨rfl, rfl⟩) | (gi_at_builtin; refine wpListIn_append_own _ rfl _ _ 41 rfl (w.heap.size + 6) 9 i0 (.string ByteArray.empty) 1 16 Tryz.underlying41 hi hz0 hz1 hz2 rfl (by decide) _ _ _ rfl (hr.alloc _) ⟨W.heap.size, 0, none⟩ 1 1 [.string x.val.snd] rfl rfl (cell_one_new _ _ _) (by simp [Value.oneCell']) (by unfold maxLen; omega) (by omega) (by simp; omega) ?_; intro v' w1 hown' hgrow _; obtain ⟨g', cap', rfl⟩ := ownsRow_succ hown'; have hcn := (boxed_append b3 hr hgrow (by decide)).cell; have hfn := (boxed_append b3 hr hgrow (by decide)).frozen; have hcm := (boxed_append b4 hr hgrow (by decide)).cell; have hfm := (boxed_append b4 hr hgrow (by decide)).frozen))
            all_goals exact tok_done hB hsz b0 b1 b2 b3 b4 hr hown' hgrow (tok_val (by simp)) H0.out (step_some_of (.inl hL)) H1.out (by rw [tok_dot (by simp), hD])
          · gi_wp2_with (first | (gi_at_call 64; refine (CallsIn.inRound l (callsIn_wide.2 (letter_any _ _))).mono ?_; rintro e w' ⟨rfl, rfl⟩) | (gi_at_builtin; refine wpListIn_append_own _ rfl _ _ 41 rfl (w.heap.size + 6) 9 i0 (.string ByteArray.empty) 1 16 Tryz.underlying41 hi hz0 hz1 hz2 rfl (by decide) _ _ _ rfl (hr.alloc _) ⟨W.heap.size, 0, none⟩ 1 1 [.string x.val.snd] rfl rfl (cell_one_new _ _ _) (by simp [Value.oneCell']) (by unfold maxLen; omega) (by omega) (by simp; omega) ?_; intro v' w1 hown' hgrow _; obtain ⟨g', cap', rfl⟩ := ownsRow_succ hown'; have hcn := (boxed_append b3 hr hgrow (by decide)).cell; have hfn := (boxed_append b3 hr hgrow (by decide)).frozen; have hcm := (boxed_append b4 hr hgrow (by decide)).cell; have hfm := (boxed_append b4 hr hgrow (by decide)).frozen))
            all_goals exact tok_done hB hsz b0 b1 b2 b3 b4 hr hown' hgrow (tok_val (by simp)) H0.out (step_some_of (.inl hL)) H1.out (by rw [tok_dot (by simp), hD])
          · exfalso; simp only [beq_iff_eq] at hC hD; rw [hC] at hD; simp at hD
    · gi_wp2_with (gi_at_call 64; refine (CallsIn.inRound l (callsIn_wide.2 (letter_any _ _))).mono ?_; rintro e w' ⟨rfl, rfl⟩)
      all_goals
        have hst := tok_run_fail (x := x) H0.out (step_none_of (.inl rfl))
        exact ⟨(tok_fail hB b0 b1 b2 hst).1, ⟨rfl, (tok_fail hB b0 b1 b2 hst).2.1⟩, (tok_fail hB b0 b1 b2 hst).2.2⟩
  case done =>
    rintro D ys W hD hys ⟨⟨toks, ended, v, h0, h1, hsz, b0, b1, b2, b3, b4, hr⟩, hB⟩ hK
    have hc0 := b0.cell
    have hc1 := b1.cell
    have hc2 := b2.cell
    have hc3 := b3.cell
    have hc4 := b4.cell
    have hf0 := b0.frozen
    have hf1 := b1.frozen
    have hf2 := b2.frozen
    have hT : tokensS s.data.toList = if ended then (toks, (0 : Int), (0 : Int)) else ([], (s.size : Int), (332 : Int)) := by
      rw [hys] at h0
      unfold tokensS
      rw [if_neg (by simp; omega), h0]
      cases ended <;> simp
    clear h0 h1
    simp only [World.size_alloc] at hD
    obtain ⟨a, cap, rfl⟩ := owns_form hr
    cases ended
    · simp only [Bool.false_eq_true, if_false] at hT
      gi_wp2
      have q0 := ((b0.set (.slice none 0 0)).other (B' := w.heap.size + 1) (by omega) (.int .i64 s.size)).other (B' := w.heap.size + 1 + 1) (by omega) (.int .i64 332)
      have q1 := ((b1.other (B' := w.heap.size) (by omega) (.slice none 0 0)).set (.int .i64 s.size)).other (B' := w.heap.size + 1 + 1) (by omega) (.int .i64 332)
      have q2 := ((b2.other (B' := w.heap.size) (by omega) (.slice none 0 0)).other (B' := w.heap.size + 1) (by omega) (.int .i64 s.size)).set (.int .i64 332)
      have hK2 := set_other (B := w.heap.size + 1 + 1) (v := .int .i64 332) (set_other (B := w.heap.size + 1) (v := .int .i64 s.size) (set_other (B := w.heap.size) (v := .slice none 0 0) hK (by omega)) (by omega)) (by omega)
      have hB3 := ((hB.setCell (p := ⟨w.heap.size, 0, none⟩) (Nat.le_refl _) (.slice none 0 0)).setCell (p := ⟨w.heap.size + 1, 0, none⟩) (by simp) (.int .i64 s.size)).setCell (p := ⟨w.heap.size + 1 + 1, 0, none⟩) (by simp; omega) (.int .i64 332)
      refine ⟨by simp, .inl ⟨_, _, rfl, run_takeDeferred hK2, ?_⟩⟩
      have e0 := cell_kept q0.cell (grownBy_putObj' _ D (.deferred none)) (fun r e => by cases e; exact ⟨_, hK2, rfl⟩)
      have e1 := cell_kept q1.cell (grownBy_putObj' _ D (.deferred none)) (fun r e => by cases e; exact ⟨_, hK2, rfl⟩)
      have e2 := cell_kept q2.cell (grownBy_putObj' _ D (.deferred none)) (fun r e => by cases e; exact ⟨_, hK2, rfl⟩)
      refine ⟨.tuple #[.slice none 0 0, .int .i64 s.size, .int .i64 332], ?_, .slice none 0 0, by rw [hT], ?_, ?_⟩
      · simp [results, Tryz.results40, go_sem, e0, e1, e2]
      · rw [hT]
        exact ⟨none, 0, rfl, Nat.le_refl _, Nat.zero_le _, .inl rfl⟩
      · exact (hB3).trans (belowK_b (w := w) (Nat.le_refl _) _ D _ _ (by omega) hK2 rfl rfl)
    · simp only [if_true] at hT
      gi_wp2
      have q0 := ((b0.set (.slice a toks.length cap)).other (B' := w.heap.size + 1) (by omega) (.int .i64 0)).other (B' := w.heap.size + 1 + 1) (by omega) (.int .i64 0)
      have q1 := ((b1.other (B' := w.heap.size) (by omega) (.slice a toks.length cap)).set (.int .i64 0)).other (B' := w.heap.size + 1 + 1) (by omega) (.int .i64 0)
      have q2 := ((b2.other (B' := w.heap.size) (by omega) (.slice a toks.length cap)).other (B' := w.heap.size + 1) (by omega) (.int .i64 0)).set (.int .i64 0)
      have hK2 := set_other (B := w.heap.size + 1 + 1) (v := .int .i64 0) (set_other (B := w.heap.size + 1) (v := .int .i64 0) (set_other (B := w.heap.size) (v := .slice a toks.length cap) hK (by omega)) (by omega)) (by omega)
      have hB3 := ((hB.setCell (p := ⟨w.heap.size, 0, none⟩) (Nat.le_refl _) (.slice a toks.length cap)).setCell (p := ⟨w.heap.size + 1, 0, none⟩) (by simp) (.int .i64 0)).setCell (p := ⟨w.heap.size + 1 + 1, 0, none⟩) (by simp; omega) (.int .i64 0)
      have hr3 := own_set ((b2.other (B' := w.heap.size) (by omega) (.slice a toks.length cap)).other (B' := w.heap.size + 1) (by omega) (.int .i64 0)) (by decide) (v' := .int .i64 0) (own_set (b1.other (B' := w.heap.size) (by omega) (.slice a toks.length cap)) (by decide) (v' := .int .i64 0) (own_set b0 (by decide) (v' := .slice a toks.length cap) hr))
      refine ⟨by simp, .inl ⟨_, _, rfl, run_takeDeferred hK2, ?_⟩⟩
      have e0 := cell_kept q0.cell (grownBy_putObj' _ D (.deferred none)) (fun r e => by cases e; exact ⟨_, hK2, rfl⟩)
      have e1 := cell_kept q1.cell (grownBy_putObj' _ D (.deferred none)) (fun r e => by cases e; exact ⟨_, hK2, rfl⟩)
      have e2 := cell_kept q2.cell (grownBy_putObj' _ D (.deferred none)) (fun r e => by cases e; exact ⟨_, hK2, rfl⟩)
      refine ⟨.tuple #[.slice a toks.length cap, .int .i64 0, .int .i64 0], ?_, .slice a toks.length cap, by rw [hT], ?_, ?_⟩
      · simp [results, Tryz.results40, go_sem, e0, e1, e2]
      · rw [hT]
        exact strSlice_of_owns (ownsRow_putObj hr3 _ hK2 rfl)
      · exact (hB3).trans (belowK_b (w := w) (Nat.le_refl _) _ D _ _ (by omega) hK2 rfl rfl)
  case stop =>
    rintro D c pre W hD hpre ⟨⟨rfl, k, h0, b0, b1, b2⟩, hB⟩ hK
    have hT : tokensS s.data.toList = ([], (k : Int), (332 : Int)) := by
      obtain ⟨ys, hys⟩ := hpre
      have := runT_prefix _ ys _ _ h0
      rw [hys] at this
      unfold tokensS
      rw [if_neg (by simp; omega), this]
    simp only [World.size_alloc] at hD
    gi_wp2
    · refine ⟨by simp, .inl ⟨_, _, rfl, run_takeDeferred hK, ?_⟩⟩
      have e0 := cell_kept b0.cell (grownBy_putObj' _ D (.deferred none)) (fun r e => by cases e; exact ⟨_, hK, rfl⟩)
      have e1 := cell_kept b1.cell (grownBy_putObj' _ D (.deferred none)) (fun r e => by cases e; exact ⟨_, hK, rfl⟩)
      have e2 := cell_kept b2.cell (grownBy_putObj' _ D (.deferred none)) (fun r e => by cases e; exact ⟨_, hK, rfl⟩)
      refine ⟨.tuple #[.slice none 0 0, .int .i64 k, .int .i64 332], ?_, .slice none 0 0, by rw [hT], ?_, ?_⟩
      · simp [results, Tryz.results40, go_sem, e0, e1, e2]
      · rw [hT]
        exact ⟨none, 0, rfl, Nat.le_refl _, Nat.zero_le _, .inl rfl⟩
      · exact (hB).trans (belowK_b (w := w) (Nat.le_refl _) _ D _ _ (by omega) hK rfl rfl)
end Go.Proofs.YthmnffgjckpkiaaGreatDoor
