/-
  What makes the rows: the makers of openings.
-/
import Derived.Test.YthmnffgjckpkiaaGreatDoorBeside
namespace Go.Proofs.YthmnffgjckpkiaaGreatDoor
open Go Go.RowKit Go.Shelf

theorem Since.of_below {m : Nat} {w w' : World} (hm : ∃ es c, w.heap[m]? = some (.map es c)) (hb : Below w.heap.size w w') : Since m w w' := (Since.refl hm).below hb
theorem Pre.below {m gb : Nat} {g : Gr} {w w' : World} (h : Pre m gb g w) (hb : Below w.heap.size w w') : Pre m gb g w' := by
  refine h.since (Since.of_below h.map hb) ?_
  obtain ⟨es, c, hm⟩ := h.map
  exact ⟨es, c, (hb.block m (Array.getElem?_eq_some_iff.1 hm).1).trans hm⟩

theorem says_step {m gb : Nat} {g : Gr} {w0 w : World} (hp : Pre m gb g w0) (hb : Below w0.heap.size w0 w) (list : List (List UInt8)) (h24 : list.length ≤ 24) (la : Option Addr) (ln lc : Nat) (hls : StrSlice w (.slice la ln lc) list) (hne : ∀ x, la = some x → w0.heap.size ≤ x.block) :
    Calls Tryz.prog 116 #[.pointer (some ⟨gb, 0, none⟩), .slice la ln lc] w fun e w' =>
      ∃ caps, e = .returned (.func (.func 155) #[] caps) ∧ Below w.heap.size w w' ∧ Pre m gb g w' ∧ MakesOk m gb g w' (.func (.func 155) #[] caps) (saysS g list) := by
  have HP0 := Lib.hid hp
  have HP := Lib.hid (hp.below hb)
  have HL := Lib.hid hls
  have HNe := Lib.hid hne
  have HSz := Lib.hid hb.size
  clear hp hb hls hne
  go_enter Tryz.func116, Tryz.ntmps116
  go_wp2
  go_ret
  obtain ⟨w', hw'⟩ : ∃ w', w' = (w.alloc (.cells #[.pointer (some ⟨gb, 0, none⟩)] 77)).alloc (.cells #[.slice la ln lc] 41) := ⟨_, rfl⟩
  have hbw : Below w.heap.size w w' := by rw [hw']; exact ((Below.refl _ _).alloc (Nat.le_refl _) _).alloc (by simp) _
  have c0 : w'.cell? ⟨w.heap.size, 0, none⟩ = some (.pointer (some ⟨gb, 0, none⟩)) := by
    apply cell_box
    rw [hw', Below.heap_alloc _ _ _ (by simp)]
    exact heap_at2 rfl
  have c1 : w'.cell? ⟨w.heap.size + 1, 0, none⟩ = some (.slice la ln lc) := by
    apply cell_box
    rw [hw']
    exact heap_at2 (by simp)
  have hP := HP.out.below hbw
  have hL := HL.out.since (Since.of_below HP.out.map hbw)
  rw [← hw']
  have hsz := HSz.out
  exact ⟨_, rfl, hbw, hP, says_makes HP0.out list h24 la ln lc _ _ hL HNe.out hsz (by omega) c0 c1⟩
theorem entry_step {m gb : Nat} {g : Gr} {w0 w : World} (hp : Pre m gb g w0) (hb : Below w0.heap.size w0 w) (cat : Int) (third : Bool) :
    Calls Tryz.prog 117 #[.pointer (some ⟨gb, 0, none⟩), .int .u8 cat, .bool third] w fun e w' =>
      ∃ caps, e = .returned (.func (.func 157) #[] caps) ∧ Below w.heap.size w w' ∧ Pre m gb g w' ∧ MakesOk m gb g w' (.func (.func 157) #[] caps) (entryS g cat third) := by
  refine (entry_make w gb cat third).mono ?_
  rintro _ w' ⟨rfl, hbw, _, x0, x1, x2⟩
  have hP := (hp.below hb).below hbw
  have hsz := hb.size
  exact ⟨_, rfl, hbw, hP, entry_makes hp _ _ _ cat third (by omega) (by omega) (by omega) x0 x1 x2⟩
theorem behind_step {m gb : Nat} {g : Gr} {w0 w : World} (hp : Pre m gb g w0) (hb : Below w0.heap.size w0 w) (word : List UInt8) (bs : Array UInt8) (hbs : bs = word.toArray) (fo : Nat) (bd caps : Array Value) (op : Nat → Nat → List Opn) (hop : MakesOk m gb g w0 (.func (.func fo) bd caps) op) :
    Calls Tryz.prog 120 #[.pointer (some ⟨gb, 0, none⟩), .string ⟨bs⟩, .func (.func fo) bd caps] w fun e w' =>
      ∃ caps, e = .returned (.func (.func 158) #[] caps) ∧ Below w.heap.size w w' ∧ Pre m gb g w' ∧ MakesOk m gb g w' (.func (.func 158) #[] caps) (behindS g word op) := by
  subst hbs
  have HP0 := Lib.hid hp
  have HP := Lib.hid (hp.below hb)
  have HO := Lib.hid (hop.later hb)
  have HSz := Lib.hid hb.size
  clear hp hb hop
  go_enter Tryz.func120, Tryz.ntmps120
  go_wp2
  go_ret
  obtain ⟨w', hw'⟩ : ∃ w', w' = ((w.alloc (.cells #[.pointer (some ⟨gb, 0, none⟩)] 77)).alloc (.cells #[.string ⟨word.toArray⟩] 9)).alloc (.cells #[.func (.func fo) bd caps] 122) := ⟨_, rfl⟩
  have hbw : Below w.heap.size w w' := by rw [hw']; exact (((Below.refl _ _).alloc (Nat.le_refl _) _).alloc (by simp) _).alloc (by simp; omega) _
  have c0 : w'.cell? ⟨w.heap.size, 0, none⟩ = some (.pointer (some ⟨gb, 0, none⟩)) := by
    apply cell_box
    rw [hw', Below.heap_alloc _ _ _ (by simp; omega), Below.heap_alloc _ _ _ (by simp)]
    exact heap_at2 rfl
  have c1 : w'.cell? ⟨w.heap.size + 1, 0, none⟩ = some (.string ⟨word.toArray⟩) := by
    apply cell_box
    rw [hw', Below.heap_alloc _ _ _ (by simp)]
    exact heap_at2 (by simp)
  have c2 : w'.cell? ⟨w.heap.size + 1 + 1, 0, none⟩ = some (.func (.func fo) bd caps) := by
    apply cell_box
    rw [hw']
    exact heap_at2 (by simp)
  have hP := HP.out.below hbw
  have hO := HO.out.later hbw
  have hsz := HSz.out
  rw [← hw']
  exact ⟨_, rfl, hbw, hP, behind_makes HP0.out _ _ _ word _ op (by omega) (by omega) (by omega) hO c0 c1 c2⟩

theorem parts_0 (w : World) : PartsAt w (.slice none 0 0) [] := ⟨_, _, rfl, .inl rfl⟩
theorem parts_1 {w : World} {b a : Nat} {T : TypeId} (h : w.heap[b]? = some (.cells #[.int .u8 a] T (0, 0))) : PartsAt w (.slice (some ⟨b, 0, none⟩) 1 1) [a] := by
  refine ⟨_, _, rfl, .inr ⟨b, rfl, fun j hj => ?_⟩⟩
  obtain rfl : j = 0 := by simp at hj; omega
  simp [World.cell?, h]
theorem parts_2 {w : World} {b a c : Nat} {T : TypeId} (h : w.heap[b]? = some (.cells #[.int .u8 a, .int .u8 c] T (0, 0))) : PartsAt w (.slice (some ⟨b, 0, none⟩) 2 2) [a, c] := by
  refine ⟨_, _, rfl, .inr ⟨b, rfl, fun j hj => ?_⟩⟩
  rcases j with _ | _ | j
  · simp [World.cell?, h]
  · simp [World.cell?, h]
  · simp at hj; omega
theorem list_1 {w : World} {b : Nat} {a : List UInt8} {T : TypeId} (h : w.heap[b]? = some (.cells #[.string ⟨a.toArray⟩] T (0, 0))) : StrSlice w (.slice (some ⟨b, 0, none⟩) 1 1) [a] := by
  refine ⟨_, _, rfl, by simp, by unfold maxLen; omega, .inr ⟨b, 0, rfl, fun j hj => ?_⟩⟩
  obtain rfl : j = 0 := by simp at hj; omega
  simp [World.cell?, h]
theorem list_2 {w : World} {b : Nat} {a c : List UInt8} {T : TypeId} (h : w.heap[b]? = some (.cells #[.string ⟨a.toArray⟩, .string ⟨c.toArray⟩] T (0, 0))) : StrSlice w (.slice (some ⟨b, 0, none⟩) 2 2) [a, c] := by
  refine ⟨_, _, rfl, by simp, by unfold maxLen; omega, .inr ⟨b, 0, rfl, fun j hj => ?_⟩⟩
  rcases j with _ | _ | j
  · simp [World.cell?, h]
  · simp [World.cell?, h]
  · simp at hj; omega
theorem list_0 (w : World) : StrSlice w (.slice none 0 0) [] := ⟨_, _, rfl, by simp, by unfold maxLen; omega, .inl rfl⟩
end Go.Proofs.YthmnffgjckpkiaaGreatDoor
