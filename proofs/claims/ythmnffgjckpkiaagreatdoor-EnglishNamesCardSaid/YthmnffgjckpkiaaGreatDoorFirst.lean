/-
  Contract of 'first' of package words.
-/
import Derived.Test.YthmnffgjckpkiaaGreatDoorLater
import Derived.Test.YthmnffgjckpkiaaGreatDoorFn
import Derived.Test.YthmnffgjckpkiaaGreatDoorThird
namespace Go.Proofs.YthmnffgjckpkiaaGreatDoor
open Go Go.RowKit

theorem encode_len (r : Int) : (Lib.encodeRune r).length ≤ 4 := by
  unfold Lib.encodeRune Lib.encodeRuneZ
  repeat' split
  all_goals simp
theorem mapGo_len (f : Int → Int) : ∀ (n : Nat) (l : List UInt8), (Lib.mapGoD f n l).length ≤ 4 * n
  | 0, _ => by simp [Lib.mapGoD]
  | n + 1, l => by
    have ih := mapGo_len f n
    unfold Lib.mapGoD
    split
    · simp
    · rw [List.length_append]
      have h1 := ih (l.drop (Lib.decodeL l).2)
      have h2 := encode_len (f (Lib.decodeL l).1)
      split
      · omega
      · simp; omega
theorem lower_len (l : List UInt8) : (Lib.toLowerD l).length ≤ 4 * l.length := mapGo_len _ _ _
theorem upper_len (l : List UInt8) : (Lib.toUpperD l).length ≤ 4 * l.length := mapGo_len _ _ _

theorem bytes_size (l : List UInt8) : (⟨l.toArray⟩ : ByteArray).size = l.length := by show Array.size _ = _; exact List.size_toArray

/-- The first word of a sentence as a token. -/
def firstS (l : List UInt8) : List UInt8 := if isFn (Lib.toLowerD l) then Lib.toLowerD l else l

set_option maxHeartbeats 1000000 in
theorem first_any (W0 w : World) (ht : Tabs W0 w) (s : ByteArray) (hs : s.size < 35184372088832) :
    Calls Tryz.prog 65 #[.string s] w fun e w' => e = .returned (.string ⟨(firstS s.data.toList).toArray⟩) ∧ Below w.heap.size w w' := by
  have hlow : (⟨(Lib.toLowerD s.data.toList).toArray⟩ : ByteArray).size ≤ maxLen := by
    rw [bytes_size]
    have := lower_len s.data.toList
    have e : s.data.toList.length = s.size := by simp
    unfold maxLen; omega
  have hL := Lib.hid (Tryz.strings_ToLower_any s w hs ht.t0.case ht.t0.utf8)
  cases hf : isFn (Lib.toLowerD s.data.toList)
  · have hfs : firstS s.data.toList = s.data.toList := by simp [firstS, hf]
    rw [hfs]
    have HF := Lib.hid hf
    clear hf hfs
    go_enter Tryz.func65, Tryz.ntmps65
    go_wp2_with fail
    refine (hL.out).mono ?_
    rintro e w1 ⟨rfl, hb1⟩
    go_wp2_with fail
    refine (Function_any W0 w1 (ht.next hb1) _ hlow).mono ?_
    rintro e w2 ⟨rfl, hb2⟩
    rw [show isFn (⟨(Lib.toLowerD s.data.toList).toArray⟩ : ByteArray).data.toList = false from HF.out]
    go_wp2
    go_ret
    exact ⟨rfl, hb1.trans (hb2.mono hb1.size)⟩
  · have hfs : firstS s.data.toList = Lib.toLowerD s.data.toList := by simp [firstS, hf]
    rw [hfs]
    have HF := Lib.hid hf
    clear hf hfs
    go_enter Tryz.func65, Tryz.ntmps65
    go_wp2_with fail
    refine (hL.out).mono ?_
    rintro e w1 ⟨rfl, hb1⟩
    go_wp2_with fail
    refine (Function_any W0 w1 (ht.next hb1) _ hlow).mono ?_
    rintro e w2 ⟨rfl, hb2⟩
    rw [show isFn (⟨(Lib.toLowerD s.data.toList).toArray⟩ : ByteArray).data.toList = true from HF.out]
    go_wp2
    go_ret
    exact ⟨rfl, hb1.trans (hb2.mono hb1.size)⟩
end Go.Proofs.YthmnffgjckpkiaaGreatDoor
