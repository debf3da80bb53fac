/-
  Contracts of cmp.Compare at strings and bytes, of cmp.Or at two ints, of 'compare' and 'clash' of package words.
-/
import Derived.Test.YthmnffgjckpkiaaGreatDoorRight
import Derived.StillTailTactics
namespace Go.Proofs.YthmnffgjckpkiaaGreatDoor
open Go Go.RowKit

theorem sameE {P : Program} {f : FuncId} {args : Array Value} {w : World} {v : Value}
    (h : Calls P f args w fun e w' => e = .returned v ∧ w = w') : Calls P f args w fun e w' => e = .returned v ∧ w' = w :=
  h.mono fun _ _ ⟨he, hm⟩ => ⟨he, hm.symm⟩

theorem still_tail {P : Program} {id : Nat} {Q : Exit → Act → World → Prop} {a : Act} {w : World} {l : List Oper} (n : Nat) (hm : P.follows .mixedOrders = true) (hB : Region.lexTailB .any l.toArray n = true)
    (h : wpStill P l.toArray w.drew (fun a' => wpList P l.toArray Q (l.drop n) a' w.drew) (l.take n) a) : (Code.region id l.toArray true).wp P Q a w :=
  wp_region_still_tail n hm hB h

def cmpStr (a b : List UInt8) : Int := if Op.bytesLess a b then -1 else if a == b then 0 else 1
def cmpInt (a b : Int) : Int := if a < b then -1 else if b < a then 1 else 0

theorem isNaN_str (s : ByteArray) (w : World) :
    Calls Tryz.prog 139 #[.string s] w fun e w' => e = .returned (.bool false) ∧ w = w' := by
  go_enter Tryz.func139, Tryz.ntmps139
  go_wp2
  go_ret
  simp
theorem isNaN_u8 (c : Int) (w : World) :
    Calls Tryz.prog 140 #[.int .u8 c] w fun e w' => e = .returned (.bool false) ∧ w = w' := by
  go_enter Tryz.func140, Tryz.ntmps140
  go_wp2
  go_ret
  simp

theorem Compare_str (a b : ByteArray) (w : World) :
    Calls Tryz.prog 100 #[.string a, .string b] w fun e w' => e = .returned (.int .i64 (cmpStr a.data.toList b.data.toList)) ∧ w = w' := by
  go_enter Tryz.func100, Tryz.ntmps100
  go_wp2_with (go_at_call 139; refine (isNaN_str _ _).mono ?_; rintro e w' ⟨rfl, rfl⟩)
  all_goals
    go_ret
    refine ⟨ret_int ?_, rfl⟩
    rw [← ByteArray.toList_eq, ← ByteArray.toList_eq]
    unfold cmpStr
    simp_all
theorem Compare_u8 (a b : Int) (w : World) :
    Calls Tryz.prog 101 #[.int .u8 a, .int .u8 b] w fun e w' => e = .returned (.int .i64 (cmpInt a b)) ∧ w = w' := by
  go_enter Tryz.func101, Tryz.ntmps101
  go_wp2_with (go_at_call 140; refine (isNaN_u8 _ _).mono ?_; rintro e w' ⟨rfl, rfl⟩)
  all_goals
    go_ret
    refine ⟨ret_int ?_, rfl⟩
    unfold cmpInt
    repeat' split
    all_goals omega

def orInt (x y : Int) : Int := if x = 0 then y else x
theorem Or_two (b : Nat) (x y : Int) (w : World) (h0 : w.cell? ⟨b, 0, none⟩ = some (.int .i64 x)) (h1 : w.cell? ⟨b, 1, none⟩ = some (.int .i64 y)) :
    Calls Tryz.prog 99 #[.slice (some ⟨b, 0, none⟩) 2 2] w fun e w' => e = .returned (.int .i64 (orInt x y)) ∧ w = w' := by
  go_enter Tryz.func99, Tryz.ntmps99
  go_wp2
  go_loop [8] (fun i => ∃ k : Nat, k ≤ 2 ∧ i = .int .i64 k ∧ (1 ≤ k → x = 0) ∧ (2 ≤ k → y = 0)) (fun i => 2 - (intOf i).toNat)
  case atStart => exact ⟨0, by omega, rfl, by omega, by omega⟩
  case round =>
    obtain ⟨k, hk, rfl, hx, hy⟩ := hrel
    have HX := Lib.hid hx
    have HY := Lib.hid hy
    clear hx hy
    have hk3 : k = 0 ∨ k = 1 ∨ k = 2 := by omega
    rcases hk3 with rfl | rfl | rfl
    · by_cases e : x = 0
      · have e' : (x != 0) = false := by simp [e]
        have E := Lib.hid e
        clear e h1
        go_wp2
        go_round
        case rel => exact ⟨1, by omega, rfl, fun _ => E.out, fun h => absurd h (by omega)⟩
        case measure => simp [intOf]
      · have e' : (x != 0) = true := by simp [e]
        have E := Lib.hid e
        clear e h1
        go_wp2
        go_ret
        exact ⟨ret_int (by unfold orInt; rw [if_neg E.out]), rfl⟩
    · have X0 := Lib.hid (HX.out (by omega))
      by_cases e : y = 0
      · have e' : (y != 0) = false := by simp [e]
        have E := Lib.hid e
        clear e h0
        go_wp2
        go_round
        case rel => exact ⟨2, by omega, rfl, fun _ => X0.out, fun _ => E.out⟩
        case measure => simp [intOf]
      · have e' : (y != 0) = true := by simp [e]
        have E := Lib.hid e
        clear e h0
        go_wp2
        go_ret
        exact ⟨ret_int (by unfold orInt; rw [if_pos X0.out]), rfl⟩
    · have X0 := Lib.hid (HX.out (by omega))
      have Y0 := Lib.hid (HY.out (by omega))
      go_wp2
      go_ret
      exact ⟨ret_int (by unfold orInt; rw [if_pos X0.out, Y0.out]), rfl⟩

/-- The order of entries. -/
def compareS (a b : Ent) : Int := orInt (cmpStr a.w b.w) (cmpInt a.cat b.cat)

set_option maxHeartbeats 1000000 in
set_option maxRecDepth 100000 in
theorem compare_any (w : World) (a b : Ent) :
    Calls Tryz.prog 59 #[.agg #[.string a.word, .int .u8 a.cat, .string a.sym], .agg #[.string b.word, .int .u8 b.cat, .string b.sym]] w fun e w' => e = .returned (.int .i64 (compareS a b)) ∧ Below w.heap.size w w' := by
  obtain ⟨aw, ac, as'⟩ := a
  obtain ⟨bw, bc, bs⟩ := b
  simp only [compareS, Ent.w]
  go_enter Tryz.func59, Tryz.ntmps59
  go_wp2
  refine still_tail 10 (by kernel_rfl) (by kernel_rfl) ?_
  simp only [List.take_succ_cons, List.take_zero, List.drop_succ_cons, List.drop_zero]
  repeat still_step
  still_call (sameE (Compare_str _ _ _))
  repeat still_step
  still_call (sameE (Compare_u8 _ _ _))
  repeat still_step
  refine wpStill_nil ?_
  go_wp2_with (go_at_call 99; refine (Or_two _ (cmpStr aw.data.toList bw.data.toList) (cmpInt ac bc) _ ?_ ?_).mono ?_)
  case refine_1 => show World.cell? (World.alloc _ _) _ = _; rw [World.cell?_alloc_at _ _ _ _ (by simp)]; rfl
  case refine_2 => show World.cell? (World.alloc _ _) _ = _; rw [World.cell?_alloc_at _ _ _ _ (by simp)]; rfl
  rintro e w' ⟨rfl, rfl⟩
  go_wp2
  go_ret
  exact ⟨rfl, ((((Below.refl _ _).alloc (Nat.le_refl _) _).alloc (by simp) _).alloc (by simp; omega) _).drew⟩

/-- Two entries whose symbols cannot be the same. -/
def clashS (a b : Ent) : Bool := (a.s == b.s) && ((a.cat != 3) && ((b.cat != 3) && ((a.cat == 5) != (b.cat == 5))))

set_option maxHeartbeats 1000000 in
theorem clash_any (w : World) (a b : Ent) :
    Calls Tryz.prog 62 #[.agg #[.string a.word, .int .u8 a.cat, .string a.sym], .agg #[.string b.word, .int .u8 b.cat, .string b.sym]] w fun e w' => e = .returned (.bool (clashS a b)) ∧ Below w.heap.size w w' := by
  obtain ⟨aw, ac, as'⟩ := a
  obtain ⟨bw, bc, bs⟩ := b
  simp only [clashS, Ent.s]
  go_enter Tryz.func62, Tryz.ntmps62
  go_wp2
  all_goals
    go_ret
    refine ⟨ret_bool ?_, ((Below.refl _ _).alloc (Nat.le_refl _) _).alloc (by simp) _⟩
    rw [← ByteArray.toList_eq, ← ByteArray.toList_eq]
    simp_all
  all_goals (rw [Bool.and_assoc]; rfl)
end Go.Proofs.YthmnffgjckpkiaaGreatDoor
