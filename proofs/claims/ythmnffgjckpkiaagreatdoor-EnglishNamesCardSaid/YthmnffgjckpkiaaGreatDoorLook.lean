/-
  Contract of 'Look' of package words.
-/
import Derived.Test.YthmnffgjckpkiaaGreatDoorValid
import Derived.Deep.RegionHeld3
import Derived.Deep.AppendLies
namespace Go.Proofs.YthmnffgjckpkiaaGreatDoor
open Go Go.RowKit

def thirdV (l : List UInt8) : List UInt8 := if plainS l then thirdS l else []
def thirdE (l : List UInt8) : Int := if plainS l then 0 else 2
theorem Third_any (W0 w : World) (ht : Tabs W0 w) (s : ByteArray) (hs : s.size ≤ 9223372036854775807) :
    Calls Tryz.prog 114 #[.string s] w fun e w' => e = .returned (.tuple #[.string ⟨(thirdV s.data.toList).toArray⟩, .int .i64 (thirdE s.data.toList)]) ∧ Below w.heap.size w w' := by
  cases hp : plainS s.data.toList
  · refine (Third_bad w s hs hp).mono ?_
    rintro e w' ⟨rfl, rfl⟩
    exact ⟨by simp [thirdV, thirdE, hp], Below.refl _ _⟩
  · have h := hp
    simp only [plainS, Bool.and_eq_true, decide_eq_true_eq] at h
    obtain ⟨⟨h1, h2⟩, _⟩ := h
    rw [len_size] at h1 h2
    refine (Third_good W0 w ht s hp h1 h2).mono ?_
    rintro e w' ⟨rfl, hb⟩
    exact ⟨by simp [thirdV, thirdE, hp], hb⟩

/-- Whether a token is the third form of a verb's entry; whether it is a form of an entry. -/
def isThird (tok : List UInt8) (e : Ent) : Bool := (e.cat == 4 || e.cat == 5) && (thirdE e.w == 0 && thirdV e.w == tok)
def formS (tok : List UInt8) (e : Ent) : Bool := e.w == tok || isThird tok e

set_option maxHeartbeats 1000000 in
theorem Look1_any (W0 w : World) (ht : Tabs W0 w) (e : Ent) (he : e.ok) (tok : ByteArray) (b : Nat) (hc : w.cell? ⟨b, 0, none⟩ = some (.string tok)) :
    Calls Tryz.prog 113 #[.agg #[.string e.word, .int .u8 e.cat, .string e.sym], .pointer (some ⟨b, 0, none⟩)] w fun r w' => r = .returned (.bool (isThird tok.data.toList e)) ∧ Below w.heap.size w w' := by
  obtain ⟨word, c, sym⟩ := e
  have hw : word.size ≤ 9223372036854775807 := by have := he.1; unfold maxLen at this; exact Nat.le_trans this (by omega)
  have hlt := cell_lt hc
  simp only [isThird, Ent.w] at hlt ⊢
  by_cases h4 : c = 4 ∨ c = 5
  · have hc1 : (c == 4 || c == 5) = true := by simpa using h4
    rw [hc1, Bool.true_and]
    clear hc1 he
    rcases h4 with rfl | rfl
    all_goals
      go_enter Tryz.func113, Tryz.ntmps113
      go_wp2_with (go_at_call 114; refine (Third_any W0 _ (ht.alloc _) word hw).mono ?_; rintro e w1 ⟨rfl, hb1⟩; obtain ⟨hc1, hf1⟩ := bcell hb1)
      all_goals
        go_ret
        refine ⟨ret_bool ?_, ((Below.refl _ _).alloc (Nat.le_refl _) _).trans (hb1.mono (by simp))⟩
        simp_all [ByteArray.toList_eq]
  · have hc1 : (c == 4 || c == 5) = false := by simpa using h4
    rw [hc1, Bool.false_and]
    have k4 : (c != 4) = true := by simp; omega
    have k5 : (c != 5) = true := by simp; omega
    clear hc1 he h4
    go_enter Tryz.func113, Tryz.ntmps113
    go_wp2
    go_ret
    exact ⟨rfl, (Below.refl _ _).alloc (Nat.le_refl _) _⟩

theorem Look2_any (W0 w : World) (ht : Tabs W0 w) (e : Ent) (he : e.ok) (tok : ByteArray) (b c : Nat) (hc : w.cell? ⟨b, 0, none⟩ = some (.string tok)) (hf : w.cell? ⟨c, 0, none⟩ = some (.func (.func 113) #[] #[.pointer (some ⟨b, 0, none⟩)])) :
    Calls Tryz.prog 115 #[.agg #[.string e.word, .int .u8 e.cat, .string e.sym], .pointer (some ⟨b, 0, none⟩), .pointer (some ⟨c, 0, none⟩)] w fun r w' => r = .returned (.bool (formS tok.data.toList e)) ∧ Below w.heap.size w w' := by
  have hb := cell_lt hc
  have hcl := cell_lt hf
  simp only at hb hcl
  have hfs : formS tok.data.toList e = (e.word.toList == tok.toList || isThird tok.data.toList e) := by simp [formS, Ent.w, ByteArray.toList_eq]
  rw [hfs]
  clear hfs
  cases hq : (e.word.toList == tok.toList)
  · go_enter Tryz.func115, Tryz.ntmps115
    go_wp2_with (go_at_call 113; refine (Look1_any W0 _ (ht.alloc _) e he tok b ?_).mono ?_)
    case refine_1 => exact cell_kept' ((Below.refl _ _).alloc (Nat.le_refl _) _) hc
    rintro r w1 ⟨rfl, hb1⟩
    go_wp2
    go_ret
    exact ⟨ret_bool (by simp), ((Below.refl _ _).alloc (Nat.le_refl _) _).trans (hb1.mono (by simp))⟩
  · go_enter Tryz.func115, Tryz.ntmps115
    go_wp2
    go_ret
    exact ⟨rfl, (Below.refl _ _).alloc (Nat.le_refl _) _⟩

/-- What 'Look' returns: the places, and whether it is the third form. -/
def formAt (tok : List UInt8) (l : List Ent) (i : Nat) : Nat × Bool := (i, match l[i]? with | some e => e.w != tok | none => false)
def lookS (tok : List UInt8) (l : List Ent) : List (Nat × Bool) := (thoseS (formS tok) l).map (formAt tok l)
def formCells (f : Nat × Bool) : List Value := [.int .i64 f.1, .bool f.2]
/-- The slice value v denotes the list of forms. -/
def FormSlice (w : World) (v : Value) (fs : List (Nat × Bool)) : Prop :=
  ∃ a cap, v = .slice a fs.length cap ∧ (fs = [] ∨ ∃ g, a = some ⟨g, 0, none⟩ ∧ ∀ j (h : j < fs.length), w.cell? ⟨g, j * 2, none⟩ = some (.int .i64 fs[j].1) ∧ w.cell? ⟨g, j * 2 + 1, none⟩ = some (.bool fs[j].2))
theorem FormSlice.below {w w' : World} {v : Value} {fs : List (Nat × Bool)} (h : FormSlice w v fs) (hb : Below w.heap.size w w') : FormSlice w' v fs := by
  obtain ⟨a, cap, hv, h⟩ := h
  refine ⟨a, cap, hv, ?_⟩
  rcases h with h | ⟨g, ha, hc⟩
  · exact .inl h
  · exact .inr ⟨g, ha, fun j hj => ⟨cell_kept' hb (hc j hj).1, cell_kept' hb (hc j hj).2⟩⟩
theorem flat2 (fs : List (Nat × Bool)) : ∀ j (h : j < fs.length), (fs.flatMap formCells)[j * 2]? = some (.int .i64 fs[j].1) ∧ (fs.flatMap formCells)[j * 2 + 1]? = some (.bool fs[j].2) := by
  induction fs with
  | nil => intro j h; simp at h
  | cons f fs ih =>
    intro j h
    cases j with
    | zero => simp [formCells]
    | succ j =>
      have := ih j (by simpa using h)
      simp only [List.flatMap_cons, formCells, List.cons_append, List.nil_append]
      rw [show (j + 1) * 2 = j * 2 + 1 + 1 by omega, show j * 2 + 1 + 1 + 1 = (j * 2 + 1) + 1 + 1 by omega]
      simpa using this
theorem formSlice_of_owns {w : World} {base : Nat} {v : Value} {fs : List (Nat × Bool)} {t : TypeId} (h : w.ownsRow base t 2 v fs.length (fs.flatMap formCells)) : FormSlice w v fs := by
  rcases h.2 with ⟨rfl, h0⟩ | ⟨g, cap, cur, rfl, hbg, hg, hnc, hcm, hcs, htake⟩
  · have : fs = [] := List.eq_nil_of_length_eq_zero h0
    subst this
    exact ⟨none, 0, rfl, .inl rfl⟩
  · refine ⟨_, cap, rfl, .inr ⟨g, rfl, fun j hj => ?_⟩⟩
    have hadd : ∀ j, (⟨g, 0, none⟩ : Addr).add j = ⟨g, j, none⟩ := fun j => by unfold Addr.add; split <;> simp_all
    have h0 := h.cells (g := g) rfl (j * 2) _ (flat2 fs j hj).1
    have h1 := h.cells (g := g) rfl (j * 2 + 1) _ (flat2 fs j hj).2
    rw [hadd] at h0 h1
    exact ⟨h0, h1⟩
theorem flat_len (fs : List (Nat × Bool)) : (fs.flatMap formCells).length = fs.length * 2 := by
  induction fs with
  | nil => rfl
  | cons f fs ih => simp [formCells, ih]; omega

theorem news_at {w : World} {B : Nat} {cs : Array Value} {t : TypeId} {fr : Nat × Nat} (hb : w.heap[B]? = some (.cells cs t fr)) : ∀ j u, cs.toList[j]? = some u → w.cell? ((⟨B, 0, none⟩ : Addr).add j) = some u := fun j u hu => by
  have hadd : (⟨B, 0, none⟩ : Addr).add j = ⟨B, j, none⟩ := by unfold Addr.add; split <;> simp_all
  rw [hadd, cell_of_row w B j cs t fr hb]
  simpa using hu
theorem ownsRow_drew {w : World} {base : Nat} {e : TypeId} {size : Nat} {v : Value} {n : Nat} {xs : List Value} (h : w.ownsRow base e size v n xs) : w.drew.ownsRow base e size v n xs := h
theorem heap_new_drew (w : World) (o : Obj) : (w.alloc o).drew.heap[w.heap.size]? = some o := heap_alloc_new w o
theorem look_held {w3 wr w4 : World} {o : Obj} {t : TypeId} {size : Nat} {v : Value} {n : Nat} {xs : List Value} (hb : Below w3.heap.size w3 wr) (hown : wr.ownsRow w3.heap.size t size v n xs) (hgrow : (wr.alloc o).drew.grownBy w4 v.ownBlock) : Below w3.heap.size w3 w4 :=
  ((hb.alloc hb.size _).drew).grown hgrow (by have := hb.size; simp; omega) (fun k hk => (hown.lt k hk).1)
theorem take_len {idx : List Nat} {k : Nat} (h : k ≤ idx.length) : (idx.take k).length = k := by rw [List.length_take]; omega
theorem formAt_eq {l : List Ent} {i : Nat} (tok : List UInt8) (h : i < l.length) : formAt tok l i = (i, l[i].w != tok) := by simp [formAt, List.getElem?_eq_getElem h]
theorem step_look (tok : List UInt8) (l : List Ent) (idx : List Nat) (k : Nat) (hlt : k < idx.length) (_h : idx[k] < l.length) :
    ((idx.take (k + 1)).map (formAt tok l)).flatMap formCells = ((idx.take k).map (formAt tok l)).flatMap formCells ++ formCells (formAt tok l idx[k]) := by
  rw [List.take_succ_eq_append_getElem hlt, List.map_append, List.flatMap_append]
  simp
theorem take_len_succ {idx : List Nat} {k : Nat} (h : k < idx.length) : (idx.take (k + 1)).length = (idx.take k).length + 1 := by
  rw [List.length_take, List.length_take]; omega
theorem ownsRow_zero {w : World} {base : Nat} {e : TypeId} {size : Nat} {v : Value} {n : Nat} {xs : List Value} (h : w.ownsRow base e size v n xs) : w.ownsRow 0 e size v n xs := by
  refine ⟨h.1, ?_⟩
  rcases h.2 with h2 | ⟨g, cap, cur, h1, _, h3⟩
  · exact .inl h2
  · exact .inr ⟨g, cap, cur, h1, Nat.zero_le _, h3⟩
theorem info_form : (Tryz.prog.info? 154).map (fun i => (i.zero, i.size, i.bytes)) = some (some (.agg #[.int .i64 0, .bool false]), 2, 16) := by kernel_rfl

theorem Look_bad (w : World) (v : Value) (tok : ByteArray)
    (hV : ∀ w', Below w.heap.size w w' → Calls Tryz.prog 37 #[v] w' fun r w'' => r = .returned (.bool false) ∧ Below w'.heap.size w' w'') :
    Calls Tryz.prog 76 #[v, .string tok] w fun r w' => r = .returned (.tuple #[.slice none 0 0, .int .i64 2]) ∧ Below w.heap.size w w' := by
  have HV := Lib.hid hV
  clear hV
  go_enter Tryz.func76, Tryz.ntmps76
  go_wp2_with (go_at_call 37; refine (HV.out _ ((Below.refl _ _).alloc (Nat.le_refl _) _)).mono ?_; rintro r w1 ⟨rfl, hb⟩)
  go_ret2
  exact ⟨rfl, ((Below.refl _ _).alloc (Nat.le_refl _) _).trans (hb.mono (by simp))⟩

set_option maxRecDepth 100000 in
set_option maxHeartbeats 4000000 in
theorem Look_owns (W0 w : World) (ht : Tabs W0 w) (v : Value) (l : List Ent) (hl : EntSlice w v l) (h100 : l.length ≤ 100) (hv : validS l = true) (tok : ByteArray) :
    Calls Tryz.prog 76 #[v, .string tok] w fun r w' => ∃ r', r = .returned (.tuple #[r', .int .i64 0]) ∧ w'.ownsRow 0 154 2 r' (lookS tok.data.toList l).length ((lookS tok.data.toList l).flatMap formCells) ∧ Below w.heap.size w w' := by
  obtain ⟨i0, hi, hz0, hz1, hz2⟩ := info_parts info_form
  have hl0 := Lib.hid hl
  have hV := Lib.hid (fun (w' : World) (hb : Below w.heap.size w w') => hv ▸ Valid_short W0 w' (ht.next hb) v l (hl.below hb) h100)
  clear hl
  go_enter Tryz.func76, Tryz.ntmps76
  go_wp2_with (go_at_call 37; refine (hV.out _ ((Below.refl _ _).alloc (Nat.le_refl _) _)).mono ?_; rintro r w1 ⟨rfl, hb1⟩)
  have hw1 : Below w.heap.size w w1 := ((Below.refl _ _).alloc (Nat.le_refl _) _).trans (hb1.mono (by simp))
  have ht1 := ht.next hw1
  have hs1 : w.heap.size + 1 ≤ w1.heap.size := by have := hb1.size; simpa using this
  have hcT : w1.cell? ⟨w.heap.size, 0, none⟩ = some (.string tok) := cell_kept' hb1 (by simp)
  have hes := hl0.out.below (hw1.trans ((Below.refl w1.heap.size w1).alloc (Nat.le_refl _) (.cells #[.func (.func 113) #[] #[.pointer (some ⟨w.heap.size, 0, none⟩)]] 98) |>.mono hw1.size))
  have hcF : (w1.alloc (.cells #[.func (.func 113) #[] #[.pointer (some ⟨w.heap.size, 0, none⟩)]] 98)).cell? ⟨w1.heap.size, 0, none⟩ = some (.func (.func 113) #[] #[.pointer (some ⟨w.heap.size, 0, none⟩)]) := by simp
  have hcT2 := cell_kept' ((Below.refl w1.heap.size w1).alloc (Nat.le_refl _) (.cells #[.func (.func 113) #[] #[.pointer (some ⟨w.heap.size, 0, none⟩)]] 98)) hcT
  have ht2 := ht1.alloc (.cells #[.func (.func 113) #[] #[.pointer (some ⟨w.heap.size, 0, none⟩)]] 98)
  have HT := those_any _ v l hes (by omega) 115 #[.pointer (some ⟨w.heap.size, 0, none⟩), .pointer (some ⟨w1.heap.size, 0, none⟩)] (formS tok.data.toList) (fun _ _ => by kernel_rfl)
    (fun w' e hw' he => Look2_any W0 w' (ht2.next hw') e (hl0.out.ok e he) tok w.heap.size w1.heap.size (cell_kept' hw' hcT2) (cell_kept' hw' hcF))
  refine HT.mono ?_
  rintro r w3 ⟨r', rfl, hidx, hb3⟩
  have hw3 : Below w.heap.size w w3 := (hw1.alloc hw1.size _).trans (hb3.mono (by have := hw1.size; simp; omega))
  have hcT3 := cell_kept' hb3 hcT2
  obtain ⟨a', cap', rfl, hidx'⟩ := hidx
  have hle : (thoseS (formS tok.data.toList) l).length ≤ 100 := Nat.le_trans (thoseTo_len _ _ _) h100
  obtain ⟨idx, hix⟩ : ∃ idx, idx = thoseS (formS tok.data.toList) l := ⟨_, rfl⟩
  have hmem : ∀ j (h : j < idx.length), idx[j] < l.length := fun j h => by
    have : idx[j] ∈ thoseS (formS tok.data.toList) l := hix ▸ List.getElem_mem h
    unfold thoseS thoseTo at this
    simpa using (List.mem_filter.1 this).1
  rw [← hix] at hidx' hle ⊢
  have HX := Lib.hid hix
  have HI := Lib.hid hidx'
  have HM := Lib.hid hmem
  clear hix hidx' hmem HT hes hcF hcT hcT2 hb3 hb1 hv
  go_wp2
  go_loopw [7, 18] (fun r i wr => ∃ k : Nat, k ≤ idx.length ∧ i = .int .i64 k ∧ wr.ownsRow w3.heap.size 154 2 r (idx.take k).length (((idx.take k).map (formAt tok.data.toList l)).flatMap formCells) ∧ Below w3.heap.size w3 wr) (fun _ i _ => idx.length - (intOf i).toNat)
  case atStart => exact ⟨0, Nat.zero_le _, rfl, World.ownsRow_nil _ _ _ _, Below.refl _ _⟩
  case round =>
    obtain ⟨k, hk, rfl, hown, hb⟩ := hrel
    have HOwn := Lib.hid hown
    clear hown
    by_cases hlt : k < idx.length
    · rcases HI.out with h0 | ⟨g, rfl, hcg⟩
      · rw [h0] at hlt; exact absurd hlt (by simp)
      · have hcg' := cell_kept' hb (hcg k hlt)
        have hil := HM.out k hlt
        obtain ⟨⟨a, cap, rfl, hcap, hcm, hform⟩, _⟩ := hl0.out
        rcases hform with h0 | ⟨b, off, rfl, hbl, hc⟩
        · rw [h0] at hil; exact absurd hil (by simp)
        · have c00 := cell_kept' hw3 (hc idx[k] hil).1
          have c0 := cell_kept' hb c00
          have cT := cell_kept' hb hcT3
          obtain ⟨i, hi'⟩ : ∃ i, i = idx[k] := ⟨_, rfl⟩
          obtain ⟨e, he⟩ : ∃ e, e = l[idx[k]] := ⟨_, rfl⟩
          rw [← he, ← hi'] at c0 c00
          have C1 := Lib.hid c00
          have C2 := Lib.hid hcT3
          clear c00 hcT3
          rw [← hi'] at hcg' hil
          have HIx := Lib.hid hi'
          have HE := Lib.hid he
          clear hi' he hc hcg
          go_wp2
          have hown0 := ownsRow_drew (HOwn.out.alloc (.cells #[.int .i64 i, .bool (!e.word.toList == tok.toList)] 154))
          have HOw := Lib.hid hown0
          clear hown0
          have htl := List.length_take_le k idx
          have hsz3 := hb.size
          go_region_held3 (fun w' => w'.cell? ⟨b, off + i * 3, none⟩ = some (.string e.word) ∧ w'.cell? ⟨w.heap.size, 0, none⟩ = some (.string tok))
            (first
              | go_keep
              | exact ⟨cell_kept' (look_held hb HOwn.out hgrow) C1.out, cell_kept' (look_held hb HOwn.out hgrow) C2.out⟩)
            ((refine step_append_lies _ (by rfl) _ _ _ (by rfl) w3.heap.size 154 i0 _ 2 16 Tryz.underlying117 hi hz0 hz1 hz2 rfl (by omega) _ _ _ (by rfl) HOw.out
                ⟨wr.heap.size, 0, none⟩ 1 1 [.int .i64 i, .bool (!e.word.toList == tok.toList)] (by rfl) (by rfl) (news_at (cs := #[.int .i64 i, .bool (!e.word.toList == tok.toList)]) (t := 154) (fr := (0, 0)) (heap_new_drew _ _)) (by simp [Value.oneCell'])
                (by omega) (by unfold maxLen; omega) (by omega) (by simp; omega) (wr.heap.size + 1) (by simp) ?_; intro gg cap4 w4 hown4 hgrow _ _))
          have hb4 := look_held hb HOwn.out hgrow
          have hs := step_look tok.data.toList l idx k hlt (HIx.out ▸ hil)
          have hcells : formCells (formAt tok.data.toList l idx[k]) = [.int .i64 i, .bool (!e.word.toList == tok.toList)] := by
            rw [formAt_eq _ (HIx.out ▸ hil), ← HE.out, ← HIx.out, ByteArray.toList_eq, ByteArray.toList_eq]; rfl
          rw [hcells] at hs
          have HS := Lib.hid hs
          clear hs hcells
          have HO4 := Lib.hid hown4
          clear hown4 hgrow
          go_wp2
          go_roundw
          case rel => exact ⟨k + 1, by omega, by go_num, by have e := HO4.out; rw [HS.out, take_len_succ hlt]; rw [take_len (Nat.le_of_lt hlt)] at e ⊢; exact e, hb4⟩
          case measure => simp [intOf]; omega
    · obtain rfl : k = idx.length := by omega
      go_wp2
      go_ret2
      have h1 := HOwn.out
      rw [List.take_length] at h1
      refine ⟨_, rfl, ?_, hw3.trans (hb.mono hw3.size)⟩
      have e : lookS tok.data.toList l = idx.map (formAt tok.data.toList l) := by rw [lookS, ← HX.out]
      rw [e]
      exact ownsRow_zero (by simpa using h1)
theorem Look_good (W0 w : World) (ht : Tabs W0 w) (v : Value) (l : List Ent) (hl : EntSlice w v l) (h100 : l.length ≤ 100) (hv : validS l = true) (tok : ByteArray) :
    Calls Tryz.prog 76 #[v, .string tok] w fun r w' => ∃ r', r = .returned (.tuple #[r', .int .i64 0]) ∧ FormSlice w' r' (lookS tok.data.toList l) ∧ Below w.heap.size w w' := by
  refine (Look_owns W0 w ht v l hl h100 hv tok).mono ?_
  rintro r w' ⟨r', rfl, h, hb⟩
  exact ⟨r', rfl, formSlice_of_owns h, hb⟩
end Go.Proofs.YthmnffgjckpkiaaGreatDoor
