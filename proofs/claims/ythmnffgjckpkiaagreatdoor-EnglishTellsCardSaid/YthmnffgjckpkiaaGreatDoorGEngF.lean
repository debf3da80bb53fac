/-
  The table of rows in memory: 'rows'.
  What 'begin' of package english returns: an error, or a grammar.
-/
import Derived.Test.YthmnffgjckpkiaaGreatDoorGEngE
import Derived.Great.Walk
import Derived.Great.BuildSlice
import Derived.Carry
import Derived.Deep.Cut
namespace Go.Proofs.YthmnffgjckpkiaaGreatDoor
open Go Go.RowKit Go.Shelf

theorem next1 {w w' : World} {o : Obj} (hb : Below (w.alloc o).heap.size (w.alloc o) w') : w'.heap[w.heap.size]? = some o ∧ Below w.heap.size w w' :=
  ⟨(hb.block _ (by simp)).trans (heap_at2 rfl), ((Below.refl _ _).alloc (Nat.le_refl _) o).trans (hb.mono (by simp))⟩
theorem next2 {w w' : World} {o o2 : Obj} (hb : Below ((w.alloc o).alloc o2).heap.size ((w.alloc o).alloc o2) w') : w'.heap[w.heap.size]? = some o ∧ w'.heap[w.heap.size + 1]? = some o2 ∧ Below w.heap.size w w' := by
  obtain ⟨h1, h2⟩ := next1 hb
  exact ⟨(h2.block _ (by simp)).trans (heap_at2 rfl), by simpa using h1, ((Below.refl _ _).alloc (Nat.le_refl _) o).trans (h2.mono (by simp))⟩
theorem next3 {w w' : World} {o o2 o3 : Obj} (hb : Below (((w.alloc o).alloc o2).alloc o3).heap.size (((w.alloc o).alloc o2).alloc o3) w') : w'.heap[w.heap.size]? = some o ∧ w'.heap[w.heap.size + 1]? = some o2 ∧ w'.heap[w.heap.size + 1 + 1]? = some o3 ∧ Below w.heap.size w w' := by
  obtain ⟨h1, h2⟩ := next1 hb
  obtain ⟨h3, h4, h5⟩ := next2 h2
  exact ⟨h3, h4, by simpa using h1, h5⟩

/-- The table at the end: the slice, and its rows, wherever field 4 of the grammar is stored besides. -/
def TableOk (m gb : Nat) (g : Gr) (w0 W : World) (v : Value) : Prop := ∃ tb, v = .slice (some ⟨tb, 0, none⟩) 24 24 ∧ w0.heap.size ≤ tb ∧ ∀ j (h : j < (rowsS g).length), ∃ fv pv, MakesOk m gb g W fv (rowsS g)[j].opn ∧ PartsMk m gb W pv (rowsS g)[j].parts ∧
    W.cell? ⟨tb, j * 5, none⟩ = some (.int .u8 (rowsS g)[j].rule) ∧ W.cell? ⟨tb, j * 5 + 1, none⟩ = some (.int .u8 (rowsS g)[j].kind) ∧ W.cell? ⟨tb, j * 5 + 2, none⟩ = some fv ∧ W.cell? ⟨tb, j * 5 + 3, none⟩ = some pv ∧ W.cell? ⟨tb, j * 5 + 4, none⟩ = some (strVal (rowsS g)[j].glue)

noncomputable def zTab : Array Value := (((Tryz.prog.info? 158).bind (·.zero)).map Value.cells).getD #[]

set_option maxRecDepth 100000 in
set_option maxHeartbeats 16000000 in
theorem rows_any {m gb : Nat} {g : Gr} {w0 : World} (hp : Pre m gb g w0) :
    Calls Tryz.prog 77 #[.pointer (some ⟨gb, 0, none⟩)] w0 fun e W' => ∃ v, e = .returned v ∧ Below w0.heap.size w0 W' ∧ TableOk m gb g w0 W' v := by
  have HP0 := Lib.hid hp
  clear hp
  go_enter Tryz.func77, Tryz.ntmps77
  go_wp2_with fail
  refine (says_step HP0.out ((Below.refl _ _).alloc (Nat.le_refl _) _) [wIf] (by simp) _ _ _ (list_1 (a := wIf) (heap_at2 (by simp))) (fun x hx => by cases hx; first | (simp; done) | (simp; omega))).mono ?_
  rintro _ w1 ⟨caps1, rfl, hb1, hp1, ho1⟩
  obtain ⟨q1_0, hbb1⟩ := next1 hb1
  have HB1 := Lib.hid hbb1
  have HP1 := Lib.hid hp1
  have HO1 := Lib.hid ho1
  clear hb1 hp1 ho1 hbb1 q1_0
  go_wp2_with fail
  refine (says_step HP1.out ((Below.refl _ _).alloc (Nat.le_refl _) _) [] (by simp) _ _ _ (list_0 _) (fun x hx => by cases hx)).mono ?_
  rintro _ w2 ⟨caps2, rfl, hb2, hp2, ho2⟩
  obtain ⟨q2_0, hbb2⟩ := next1 hb2
  have HB2 := Lib.hid hbb2
  have HQ0 := Lib.hid (partsMk_2 HP1.out (a := 1) (c := 1) (by omega) q2_0)
  have HP2 := Lib.hid hp2
  have HO2 := Lib.hid ho2
  clear hb2 hp2 ho2 hbb2 q2_0
  go_wp2_with fail
  refine (says_step HP2.out ((Below.refl _ _).alloc (Nat.le_refl _) _) [] (by simp) _ _ _ (list_0 _) (fun x hx => by cases hx)).mono ?_
  rintro _ w3 ⟨caps3, rfl, hb3, hp3, ho3⟩
  obtain ⟨q3_0, hbb3⟩ := next1 hb3
  have HB3 := Lib.hid hbb3
  have HQ1 := Lib.hid (partsMk_2 HP2.out (a := 1) (c := 1) (by omega) q3_0)
  have HP3 := Lib.hid hp3
  have HO3 := Lib.hid ho3
  clear hb3 hp3 ho3 hbb3 q3_0
  go_wp2_with fail
  refine (says_step HP3.out ((Below.refl _ _).alloc (Nat.le_refl _) _) [] (by simp) _ _ _ (list_0 _) (fun x hx => by cases hx)).mono ?_
  rintro _ w4 ⟨caps4, rfl, hb4, hp4, ho4⟩
  obtain ⟨q4_0, hbb4⟩ := next1 hb4
  have HB4 := Lib.hid hbb4
  have HQ2 := Lib.hid (partsMk_2 HP3.out (a := 1) (c := 1) (by omega) q4_0)
  have HP4 := Lib.hid hp4
  have HO4 := Lib.hid ho4
  clear hb4 hp4 ho4 hbb4 q4_0
  go_wp2_with fail
  refine (says_step HP4.out ((Below.refl _ _).alloc (Nat.le_refl _) _) [] (by simp) _ _ _ (list_0 _) (fun x hx => by cases hx)).mono ?_
  rintro _ w5 ⟨caps5, rfl, hb5, hp5, ho5⟩
  obtain ⟨q5_0, hbb5⟩ := next1 hb5
  have HB5 := Lib.hid hbb5
  have HQ3 := Lib.hid (partsMk_2 HP4.out (a := 1) (c := 1) (by omega) q5_0)
  have HP5 := Lib.hid hp5
  have HO5 := Lib.hid ho5
  clear hb5 hp5 ho5 hbb5 q5_0
  go_wp2_with fail
  refine (entry_step HP5.out ((Below.refl _ _).alloc (Nat.le_refl _) _) 3 false).mono ?_
  rintro _ w6 ⟨caps6, rfl, hb6, hp6, ho6⟩
  obtain ⟨q6_0, hbb6⟩ := next1 hb6
  have HB6 := Lib.hid hbb6
  have HQ4 := Lib.hid (partsMk_2 HP5.out (a := 2) (c := 4) (by omega) q6_0)
  have HP6 := Lib.hid hp6
  have HO6 := Lib.hid ho6
  clear hb6 hp6 ho6 hbb6 q6_0
  go_wp2_with fail
  refine (entry_step HP6.out ((Below.refl _ _).alloc (Nat.le_refl _) _) 1 false).mono ?_
  rintro _ w7 ⟨caps7, rfl, hb7, hp7, ho7⟩
  obtain ⟨q7_0, hbb7⟩ := next1 hb7
  have HB7 := Lib.hid hbb7
  have HQ6 := Lib.hid (partsMk_1 HP6.out (a := 3) (by omega) q7_0)
  have HP7 := Lib.hid hp7
  have HO7 := Lib.hid ho7
  clear hb7 hp7 ho7 hbb7 q7_0
  go_wp2_with fail
  refine (entry_step HP7.out (Below.refl _ _) 2 false).mono ?_
  rintro _ w8 ⟨caps8, rfl, hb8, hp8, ho8⟩
  have HB8 := Lib.hid hb8
  have HP8 := Lib.hid hp8
  have HO8 := Lib.hid ho8
  clear hb8 hp8 ho8
  go_wp2_with fail
  refine (entry_step HP8.out ((((Below.refl _ _).alloc (Nat.le_refl _) _).alloc (by simp) _).alloc (by simp; omega) _) 4 true).mono ?_
  rintro _ w9 ⟨caps9, rfl, hb9, hp9, ho9⟩
  obtain ⟨q9_0, q9_1, q9_2, hbb9⟩ := next3 hb9
  have HB9 := Lib.hid hbb9
  have HQ8 := Lib.hid (partsMk_1 HP8.out (a := 3) (by omega) q9_0)
  have HQ9 := Lib.hid (partsMk_1 HP8.out (a := 4) (by omega) q9_1)
  have HQ10 := Lib.hid (partsMk_2 HP8.out (a := 2) (c := 5) (by omega) q9_2)
  have HP9 := Lib.hid hp9
  have HO9 := Lib.hid ho9
  clear hb9 hp9 ho9 hbb9 q9_0 q9_1 q9_2
  go_wp2_with fail
  refine (entry_step HP9.out (Below.refl _ _) 4 false).mono ?_
  rintro _ w10 ⟨caps10, rfl, hb10, hp10, ho10⟩
  have HB10 := Lib.hid hb10
  have HP10 := Lib.hid hp10
  have HO10 := Lib.hid ho10
  clear hb10 hp10 ho10
  go_wp2_with fail
  refine (entry_step HP10.out (Below.refl _ _) 5 true).mono ?_
  rintro _ w11 ⟨caps11, rfl, hb11, hp11, ho11⟩
  have HB11 := Lib.hid hb11
  have HP11 := Lib.hid hp11
  have HO11 := Lib.hid ho11
  clear hb11 hp11 ho11
  go_wp2_with fail
  refine (entry_step HP11.out ((Below.refl _ _).alloc (Nat.le_refl _) _) 5 false).mono ?_
  rintro _ w12 ⟨caps12, rfl, hb12, hp12, ho12⟩
  obtain ⟨q12_0, hbb12⟩ := next1 hb12
  have HB12 := Lib.hid hbb12
  have HQ13 := Lib.hid (partsMk_1 HP11.out (a := 2) (by omega) q12_0)
  have HP12 := Lib.hid hp12
  have HO12 := Lib.hid ho12
  clear hb12 hp12 ho12 hbb12 q12_0
  go_wp2_with fail
  refine (entry_step HP12.out ((Below.refl _ _).alloc (Nat.le_refl _) _) 2 false).mono ?_
  rintro _ w13 ⟨caps13, rfl, hb13, hp13, ho13⟩
  obtain ⟨q13_0, hbb13⟩ := next1 hb13
  have HB13 := Lib.hid hbb13
  have HQ14 := Lib.hid (partsMk_1 HP12.out (a := 2) (by omega) q13_0)
  have HP13 := Lib.hid hp13
  have HO13 := Lib.hid ho13
  clear hb13 hp13 ho13 hbb13 q13_0
  go_wp2_with fail
  refine (behind_step HP13.out (Below.refl _ _) wIs _ rfl _ _ _ _ HO13.out).mono ?_
  rintro _ w14 ⟨caps14, rfl, hb14, hp14, ho14⟩
  have HB14 := Lib.hid hb14
  have HP14 := Lib.hid hp14
  have HO14 := Lib.hid ho14
  clear hb14 hp14 ho14
  go_wp2_with fail
  refine (entry_step HP14.out (Below.refl _ _) 2 false).mono ?_
  rintro _ w15 ⟨caps15, rfl, hb15, hp15, ho15⟩
  have HB15 := Lib.hid hb15
  have HP15 := Lib.hid hp15
  have HO15 := Lib.hid ho15
  clear hb15 hp15 ho15
  go_wp2_with fail
  refine (behind_step HP15.out (Below.refl _ _) wIs _ rfl _ _ _ _ (fun W hB hP => article_ok hP)).mono ?_
  rintro _ w16 ⟨caps16, rfl, hb16, hp16, ho16⟩
  have HB16 := Lib.hid hb16
  have HP16 := Lib.hid hp16
  have HO16 := Lib.hid ho16
  clear hb16 hp16 ho16
  go_wp2_with fail
  refine (says_step HP16.out ((((Below.refl _ _).alloc (Nat.le_refl _) _).alloc (by simp) _).alloc (by simp; omega) _) [wDoes, wNot] (by simp) _ _ _ (list_2 (a := wDoes) (c := wNot) (heap_at2 (by simp))) (fun x hx => by cases hx; first | (simp; done) | (simp; omega))).mono ?_
  rintro _ w17 ⟨caps17, rfl, hb17, hp17, ho17⟩
  obtain ⟨q17_0, q17_1, q17_2, hbb17⟩ := next3 hb17
  have HB17 := Lib.hid hbb17
  have HQ17 := Lib.hid (partsMk_1 HP16.out (a := 3) (by omega) q17_0)
  have HQ18 := Lib.hid (partsMk_1 HP16.out (a := 3) (by omega) q17_1)
  have HP17 := Lib.hid hp17
  have HO17 := Lib.hid ho17
  clear hb17 hp17 ho17 hbb17 q17_0 q17_1 q17_2
  go_wp2_with fail
  refine (says_step HP17.out (((Below.refl _ _).alloc (Nat.le_refl _) _).alloc (by simp) _) [wIs, wNot] (by simp) _ _ _ (list_2 (a := wIs) (c := wNot) (heap_at2 (by simp))) (fun x hx => by cases hx; first | (simp; done) | (simp; omega))).mono ?_
  rintro _ w18 ⟨caps18, rfl, hb18, hp18, ho18⟩
  obtain ⟨q18_0, q18_1, hbb18⟩ := next2 hb18
  have HB18 := Lib.hid hbb18
  have HQ19 := Lib.hid (partsMk_1 HP17.out (a := 6) (by omega) q18_0)
  have HP18 := Lib.hid hp18
  have HO18 := Lib.hid ho18
  clear hb18 hp18 ho18 hbb18 q18_0 q18_1
  go_wp2_with fail
  refine (says_step HP18.out ((Below.refl _ _).alloc (Nat.le_refl _) _) [] (by simp) _ _ _ (list_0 _) (fun x hx => by cases hx)).mono ?_
  rintro _ w19 ⟨caps19, rfl, hb19, hp19, ho19⟩
  obtain ⟨q19_0, hbb19⟩ := next1 hb19
  have HB19 := Lib.hid hbb19
  have HQ20 := Lib.hid (partsMk_1 HP18.out (a := 7) (by omega) q19_0)
  have HP19 := Lib.hid hp19
  have HO19 := Lib.hid ho19
  clear hb19 hp19 ho19 hbb19 q19_0
  go_wp2_with fail
  refine (says_step HP19.out ((Below.refl _ _).alloc (Nat.le_refl _) _) [] (by simp) _ _ _ (list_0 _) (fun x hx => by cases hx)).mono ?_
  rintro _ w20 ⟨caps20, rfl, hb20, hp20, ho20⟩
  obtain ⟨q20_0, hbb20⟩ := next1 hb20
  have HB20 := Lib.hid hbb20
  have HQ21 := Lib.hid (partsMk_2 HP19.out (a := 4) (c := 4) (by omega) q20_0)
  have HP20 := Lib.hid hp20
  have HO20 := Lib.hid ho20
  clear hb20 hp20 ho20 hbb20 q20_0
  go_wp2_with fail
  refine (entry_step HP20.out ((Below.refl _ _).alloc (Nat.le_refl _) _) 5 true).mono ?_
  rintro _ w21 ⟨caps21, rfl, hb21, hp21, ho21⟩
  obtain ⟨q21_0, hbb21⟩ := next1 hb21
  have HB21 := Lib.hid hbb21
  have HQ22 := Lib.hid (partsMk_2 HP20.out (a := 4) (c := 4) (by omega) q21_0)
  have HP21 := Lib.hid hp21
  have HO21 := Lib.hid ho21
  clear hb21 hp21 ho21 hbb21 q21_0
  obtain ⟨cells, hcells⟩ : ∃ cells : Array Value, cells = #[.int .u8 1, .int .u8 1, .func (.func 155) #[] caps1, .slice (some ⟨w1.heap.size, 0, none⟩) 2 2, .string ⟨#[116, 104, 101, 110]⟩, .int .u8 2, .int .u8 1, .func (.func 155) #[] caps2, .slice (some ⟨w2.heap.size, 0, none⟩) 2 2, .string ⟨#[105, 102, 102]⟩, .int .u8 3, .int .u8 1, .func (.func 155) #[] caps3, .slice (some ⟨w3.heap.size, 0, none⟩) 2 2, .string ⟨#[111, 114]⟩, .int .u8 4, .int .u8 1, .func (.func 155) #[] caps4, .slice (some ⟨w4.heap.size, 0, none⟩) 2 2, .string ⟨#[97, 110, 100]⟩, .int .u8 5, .int .u8 1, .func (.func 155) #[] caps5, .slice (some ⟨w5.heap.size, 0, none⟩) 2 2, .string ⟨#[]⟩, .int .u8 6, .int .u8 2, .func (.func 157) #[] caps6, .slice none 0 0, .string ⟨#[]⟩, .int .u8 7, .int .u8 2, .func (.func 118) #[.pointer (some ⟨gb, 0, none⟩)] #[], .slice (some ⟨w6.heap.size, 0, none⟩) 1 1, .string ⟨#[]⟩, .int .u8 8, .int .u8 3, .func (.func 157) #[] caps7, .slice none 0 0, .string ⟨#[]⟩, .int .u8 9, .int .u8 3, .func (.func 157) #[] caps8, .slice (some ⟨w8.heap.size, 0, none⟩) 1 1, .string ⟨#[]⟩, .int .u8 10, .int .u8 3, .func (.func 119) #[.pointer (some ⟨gb, 0, none⟩)] #[], .slice (some ⟨w8.heap.size + 1, 0, none⟩) 1 1, .string ⟨#[]⟩, .int .u8 11, .int .u8 3, .func (.func 119) #[.pointer (some ⟨gb, 0, none⟩)] #[], .slice (some ⟨w8.heap.size + 1 + 1, 0, none⟩) 2 2, .string ⟨#[]⟩, .int .u8 12, .int .u8 4, .func (.func 157) #[] caps9, .slice none 0 0, .string ⟨#[]⟩, .int .u8 12, .int .u8 6, .func (.func 157) #[] caps10, .slice none 0 0, .string ⟨#[]⟩, .int .u8 13, .int .u8 4, .func (.func 157) #[] caps11, .slice (some ⟨w11.heap.size, 0, none⟩) 1 1, .string ⟨#[]⟩, .int .u8 13, .int .u8 6, .func (.func 157) #[] caps12, .slice (some ⟨w12.heap.size, 0, none⟩) 1 1, .string ⟨#[]⟩, .int .u8 14, .int .u8 4, .func (.func 158) #[] caps14, .slice none 0 0, .string ⟨#[]⟩, .int .u8 14, .int .u8 7, .func (.func 157) #[] caps15, .slice none 0 0, .string ⟨#[]⟩, .int .u8 15, .int .u8 4, .func (.func 158) #[] caps16, .slice (some ⟨w16.heap.size, 0, none⟩) 1 1, .string ⟨#[]⟩, .int .u8 15, .int .u8 7, .func (.func 121) #[.pointer (some ⟨gb, 0, none⟩)] #[], .slice (some ⟨w16.heap.size + 1, 0, none⟩) 1 1, .string ⟨#[]⟩, .int .u8 16, .int .u8 4, .func (.func 155) #[] caps17, .slice (some ⟨w17.heap.size, 0, none⟩) 1 1, .string ⟨#[]⟩, .int .u8 16, .int .u8 4, .func (.func 155) #[] caps18, .slice (some ⟨w18.heap.size, 0, none⟩) 1 1, .string ⟨#[]⟩, .int .u8 17, .int .u8 4, .func (.func 155) #[] caps19, .slice (some ⟨w19.heap.size, 0, none⟩) 2 2, .string ⟨#[111, 114]⟩, .int .u8 18, .int .u8 4, .func (.func 155) #[] caps20, .slice (some ⟨w20.heap.size, 0, none⟩) 2 2, .string ⟨#[97, 110, 100]⟩, .int .u8 19, .int .u8 5, .func (.func 157) #[] caps21, .slice none 0 0, .string ⟨#[]⟩] := ⟨_, rfl⟩
  have HCells := Lib.hid hcells
  have hsz : cells.size = 120 := by rw [hcells]; rfl
  have hone : cells.all (·.oneCell') = true := by rw [hcells]; simp [Value.oneCell']
  rename_i hK
  refine hK _ _ ?_
  refine wpList_buildTo rfl 124 _ rfl (some 99) rfl #[.int .u8 19, .int .u8 5, .func (.func 157) #[] caps21, .slice none 0 0, .string ⟨#[]⟩] (by kernel_rfl) ?_
  refine wpList_buildTo rfl 158 _ rfl (some 100) rfl cells (by rw [hcells]; kernel_rfl) ?_
  refine Great.wpList_allocTo rfl (some 3) rfl (.pointer (some ⟨w21.heap.size, 0, none⟩)) (.cells zTab 158) (by kernel_rfl) ?_
  refine wpList_store_rowTo rfl 158 _ _ rfl rfl w21.heap.size cells (by kernel_rfl) (by kernel_rfl) 158 zTab (heap_at2 rfl) (by rw [hsz]; kernel_rfl) (by rw [hsz]; kernel_rfl) hone ?_
  obtain ⟨wE, hwE⟩ : ∃ wE, wE = (w21.alloc (.cells zTab 158)).setRow w21.heap.size cells := ⟨_, rfl⟩
  rw [← hwE]
  have hrowE : wE.heap[w21.heap.size]? = some (.cells cells 158 (0, 0)) := by rw [hwE]; exact setRow_heap _ _ zTab _ _ _ (heap_at2 rfl)
  have B21 : Below w21.heap.size w21 wE := by rw [hwE]; exact ((Below.refl _ _).alloc (Nat.le_refl _) _).trans ⟨rfl, rfl, rfl, by simp, fun k hk => setRow_other _ _ _ _ (by omega)⟩
  have B20 : Below w20.heap.size w20 wE := HB21.out.trans (B21.mono HB21.out.size)
  have B19 : Below w19.heap.size w19 wE := HB20.out.trans (B20.mono HB20.out.size)
  have B18 : Below w18.heap.size w18 wE := HB19.out.trans (B19.mono HB19.out.size)
  have B17 : Below w17.heap.size w17 wE := HB18.out.trans (B18.mono HB18.out.size)
  have B16 : Below w16.heap.size w16 wE := HB17.out.trans (B17.mono HB17.out.size)
  have B15 : Below w15.heap.size w15 wE := HB16.out.trans (B16.mono HB16.out.size)
  have B14 : Below w14.heap.size w14 wE := HB15.out.trans (B15.mono HB15.out.size)
  have B13 : Below w13.heap.size w13 wE := HB14.out.trans (B14.mono HB14.out.size)
  have B12 : Below w12.heap.size w12 wE := HB13.out.trans (B13.mono HB13.out.size)
  have B11 : Below w11.heap.size w11 wE := HB12.out.trans (B12.mono HB12.out.size)
  have B10 : Below w10.heap.size w10 wE := HB11.out.trans (B11.mono HB11.out.size)
  have B9 : Below w9.heap.size w9 wE := HB10.out.trans (B10.mono HB10.out.size)
  have B8 : Below w8.heap.size w8 wE := HB9.out.trans (B9.mono HB9.out.size)
  have B7 : Below w7.heap.size w7 wE := HB8.out.trans (B8.mono HB8.out.size)
  have B6 : Below w6.heap.size w6 wE := HB7.out.trans (B7.mono HB7.out.size)
  have B5 : Below w5.heap.size w5 wE := HB6.out.trans (B6.mono HB6.out.size)
  have B4 : Below w4.heap.size w4 wE := HB5.out.trans (B5.mono HB5.out.size)
  have B3 : Below w3.heap.size w3 wE := HB4.out.trans (B4.mono HB4.out.size)
  have B2 : Below w2.heap.size w2 wE := HB3.out.trans (B3.mono HB3.out.size)
  have B1 : Below w1.heap.size w1 wE := HB2.out.trans (B2.mono HB2.out.size)
  have B0 : Below w0.heap.size w0 wE := HB1.out.trans (B1.mono HB1.out.size)
  have hSz21 : w0.heap.size ≤ w21.heap.size := Nat.le_trans (Nat.le_trans (Nat.le_trans (Nat.le_trans (Nat.le_trans (Nat.le_trans (Nat.le_trans (Nat.le_trans (Nat.le_trans (Nat.le_trans (Nat.le_trans (Nat.le_trans (Nat.le_trans (Nat.le_trans (Nat.le_trans (Nat.le_trans (Nat.le_trans (Nat.le_trans (Nat.le_trans (Nat.le_trans (HB1.out.size) HB2.out.size) HB3.out.size) HB4.out.size) HB5.out.size) HB6.out.size) HB7.out.size) HB8.out.size) HB9.out.size) HB10.out.size) HB11.out.size) HB12.out.size) HB13.out.size) HB14.out.size) HB15.out.size) HB16.out.size) HB17.out.size) HB18.out.size) HB19.out.size) HB20.out.size) HB21.out.size
  have HTab : Hid (TableOk m gb g w0 wE (.slice (some ⟨w21.heap.size, 0, none⟩) 24 24)) := by
    have cellE : ∀ (k : Nat) (v : Value), cells[k]? = some v → wE.cell? ⟨w21.heap.size, k, none⟩ = some v := fun k v h => (cell_of_row _ _ _ _ _ _ hrowE).trans h
    refine ⟨w21.heap.size, rfl, hSz21, fun j hj => ?_⟩
    rw [rowsS_len] at hj
    rcases j with _ | j
    · exact ⟨.func (.func 155) #[] caps1, .slice (some ⟨w1.heap.size, 0, none⟩) 2 2, HO1.out.later B1, HQ0.out.later B2, cellE _ _ (by rw [hcells]; rfl), cellE _ _ (by rw [hcells]; rfl), cellE _ _ (by rw [hcells]; rfl), cellE _ _ (by rw [hcells]; rfl), cellE _ _ (by rw [hcells]; rfl)⟩
    rcases j with _ | j
    · exact ⟨.func (.func 155) #[] caps2, .slice (some ⟨w2.heap.size, 0, none⟩) 2 2, HO2.out.later B2, HQ1.out.later B3, cellE _ _ (by rw [hcells]; rfl), cellE _ _ (by rw [hcells]; rfl), cellE _ _ (by rw [hcells]; rfl), cellE _ _ (by rw [hcells]; rfl), cellE _ _ (by rw [hcells]; rfl)⟩
    rcases j with _ | j
    · exact ⟨.func (.func 155) #[] caps3, .slice (some ⟨w3.heap.size, 0, none⟩) 2 2, HO3.out.later B3, HQ2.out.later B4, cellE _ _ (by rw [hcells]; rfl), cellE _ _ (by rw [hcells]; rfl), cellE _ _ (by rw [hcells]; rfl), cellE _ _ (by rw [hcells]; rfl), cellE _ _ (by rw [hcells]; rfl)⟩
    rcases j with _ | j
    · exact ⟨.func (.func 155) #[] caps4, .slice (some ⟨w4.heap.size, 0, none⟩) 2 2, HO4.out.later B4, HQ3.out.later B5, cellE _ _ (by rw [hcells]; rfl), cellE _ _ (by rw [hcells]; rfl), cellE _ _ (by rw [hcells]; rfl), cellE _ _ (by rw [hcells]; rfl), cellE _ _ (by rw [hcells]; rfl)⟩
    rcases j with _ | j
    · exact ⟨.func (.func 155) #[] caps5, .slice (some ⟨w5.heap.size, 0, none⟩) 2 2, HO5.out.later B5, HQ4.out.later B6, cellE _ _ (by rw [hcells]; rfl), cellE _ _ (by rw [hcells]; rfl), cellE _ _ (by rw [hcells]; rfl), cellE _ _ (by rw [hcells]; rfl), cellE _ _ (by rw [hcells]; rfl)⟩
    rcases j with _ | j
    · exact ⟨.func (.func 157) #[] caps6, .slice none 0 0, HO6.out.later B6, partsMk_0 _ _ _, cellE _ _ (by rw [hcells]; rfl), cellE _ _ (by rw [hcells]; rfl), cellE _ _ (by rw [hcells]; rfl), cellE _ _ (by rw [hcells]; rfl), cellE _ _ (by rw [hcells]; rfl)⟩
    rcases j with _ | j
    · exact ⟨.func (.func 118) #[.pointer (some ⟨gb, 0, none⟩)] #[], .slice (some ⟨w6.heap.size, 0, none⟩) 1 1, (fun W hB hP => determiner_ok hP), HQ6.out.later B7, cellE _ _ (by rw [hcells]; rfl), cellE _ _ (by rw [hcells]; rfl), cellE _ _ (by rw [hcells]; rfl), cellE _ _ (by rw [hcells]; rfl), cellE _ _ (by rw [hcells]; rfl)⟩
    rcases j with _ | j
    · exact ⟨.func (.func 157) #[] caps7, .slice none 0 0, HO7.out.later B7, partsMk_0 _ _ _, cellE _ _ (by rw [hcells]; rfl), cellE _ _ (by rw [hcells]; rfl), cellE _ _ (by rw [hcells]; rfl), cellE _ _ (by rw [hcells]; rfl), cellE _ _ (by rw [hcells]; rfl)⟩
    rcases j with _ | j
    · exact ⟨.func (.func 157) #[] caps8, .slice (some ⟨w8.heap.size, 0, none⟩) 1 1, HO8.out.later B8, HQ8.out.later B9, cellE _ _ (by rw [hcells]; rfl), cellE _ _ (by rw [hcells]; rfl), cellE _ _ (by rw [hcells]; rfl), cellE _ _ (by rw [hcells]; rfl), cellE _ _ (by rw [hcells]; rfl)⟩
    rcases j with _ | j
    · exact ⟨.func (.func 119) #[.pointer (some ⟨gb, 0, none⟩)] #[], .slice (some ⟨w8.heap.size + 1, 0, none⟩) 1 1, (fun W hB hP => relative_ok hP), HQ9.out.later B9, cellE _ _ (by rw [hcells]; rfl), cellE _ _ (by rw [hcells]; rfl), cellE _ _ (by rw [hcells]; rfl), cellE _ _ (by rw [hcells]; rfl), cellE _ _ (by rw [hcells]; rfl)⟩
    rcases j with _ | j
    · exact ⟨.func (.func 119) #[.pointer (some ⟨gb, 0, none⟩)] #[], .slice (some ⟨w8.heap.size + 1 + 1, 0, none⟩) 2 2, (fun W hB hP => relative_ok hP), HQ10.out.later B9, cellE _ _ (by rw [hcells]; rfl), cellE _ _ (by rw [hcells]; rfl), cellE _ _ (by rw [hcells]; rfl), cellE _ _ (by rw [hcells]; rfl), cellE _ _ (by rw [hcells]; rfl)⟩
    rcases j with _ | j
    · exact ⟨.func (.func 157) #[] caps9, .slice none 0 0, HO9.out.later B9, partsMk_0 _ _ _, cellE _ _ (by rw [hcells]; rfl), cellE _ _ (by rw [hcells]; rfl), cellE _ _ (by rw [hcells]; rfl), cellE _ _ (by rw [hcells]; rfl), cellE _ _ (by rw [hcells]; rfl)⟩
    rcases j with _ | j
    · exact ⟨.func (.func 157) #[] caps10, .slice none 0 0, HO10.out.later B10, partsMk_0 _ _ _, cellE _ _ (by rw [hcells]; rfl), cellE _ _ (by rw [hcells]; rfl), cellE _ _ (by rw [hcells]; rfl), cellE _ _ (by rw [hcells]; rfl), cellE _ _ (by rw [hcells]; rfl)⟩
    rcases j with _ | j
    · exact ⟨.func (.func 157) #[] caps11, .slice (some ⟨w11.heap.size, 0, none⟩) 1 1, HO11.out.later B11, HQ13.out.later B12, cellE _ _ (by rw [hcells]; rfl), cellE _ _ (by rw [hcells]; rfl), cellE _ _ (by rw [hcells]; rfl), cellE _ _ (by rw [hcells]; rfl), cellE _ _ (by rw [hcells]; rfl)⟩
    rcases j with _ | j
    · exact ⟨.func (.func 157) #[] caps12, .slice (some ⟨w12.heap.size, 0, none⟩) 1 1, HO12.out.later B12, HQ14.out.later B13, cellE _ _ (by rw [hcells]; rfl), cellE _ _ (by rw [hcells]; rfl), cellE _ _ (by rw [hcells]; rfl), cellE _ _ (by rw [hcells]; rfl), cellE _ _ (by rw [hcells]; rfl)⟩
    rcases j with _ | j
    · exact ⟨.func (.func 158) #[] caps14, .slice none 0 0, HO14.out.later B14, partsMk_0 _ _ _, cellE _ _ (by rw [hcells]; rfl), cellE _ _ (by rw [hcells]; rfl), cellE _ _ (by rw [hcells]; rfl), cellE _ _ (by rw [hcells]; rfl), cellE _ _ (by rw [hcells]; rfl)⟩
    rcases j with _ | j
    · exact ⟨.func (.func 157) #[] caps15, .slice none 0 0, HO15.out.later B15, partsMk_0 _ _ _, cellE _ _ (by rw [hcells]; rfl), cellE _ _ (by rw [hcells]; rfl), cellE _ _ (by rw [hcells]; rfl), cellE _ _ (by rw [hcells]; rfl), cellE _ _ (by rw [hcells]; rfl)⟩
    rcases j with _ | j
    · exact ⟨.func (.func 158) #[] caps16, .slice (some ⟨w16.heap.size, 0, none⟩) 1 1, HO16.out.later B16, HQ17.out.later B17, cellE _ _ (by rw [hcells]; rfl), cellE _ _ (by rw [hcells]; rfl), cellE _ _ (by rw [hcells]; rfl), cellE _ _ (by rw [hcells]; rfl), cellE _ _ (by rw [hcells]; rfl)⟩
    rcases j with _ | j
    · exact ⟨.func (.func 121) #[.pointer (some ⟨gb, 0, none⟩)] #[], .slice (some ⟨w16.heap.size + 1, 0, none⟩) 1 1, (fun W hB hP => article_ok hP), HQ18.out.later B17, cellE _ _ (by rw [hcells]; rfl), cellE _ _ (by rw [hcells]; rfl), cellE _ _ (by rw [hcells]; rfl), cellE _ _ (by rw [hcells]; rfl), cellE _ _ (by rw [hcells]; rfl)⟩
    rcases j with _ | j
    · exact ⟨.func (.func 155) #[] caps17, .slice (some ⟨w17.heap.size, 0, none⟩) 1 1, HO17.out.later B17, HQ19.out.later B18, cellE _ _ (by rw [hcells]; rfl), cellE _ _ (by rw [hcells]; rfl), cellE _ _ (by rw [hcells]; rfl), cellE _ _ (by rw [hcells]; rfl), cellE _ _ (by rw [hcells]; rfl)⟩
    rcases j with _ | j
    · exact ⟨.func (.func 155) #[] caps18, .slice (some ⟨w18.heap.size, 0, none⟩) 1 1, HO18.out.later B18, HQ20.out.later B19, cellE _ _ (by rw [hcells]; rfl), cellE _ _ (by rw [hcells]; rfl), cellE _ _ (by rw [hcells]; rfl), cellE _ _ (by rw [hcells]; rfl), cellE _ _ (by rw [hcells]; rfl)⟩
    rcases j with _ | j
    · exact ⟨.func (.func 155) #[] caps19, .slice (some ⟨w19.heap.size, 0, none⟩) 2 2, HO19.out.later B19, HQ21.out.later B20, cellE _ _ (by rw [hcells]; rfl), cellE _ _ (by rw [hcells]; rfl), cellE _ _ (by rw [hcells]; rfl), cellE _ _ (by rw [hcells]; rfl), cellE _ _ (by rw [hcells]; rfl)⟩
    rcases j with _ | j
    · exact ⟨.func (.func 155) #[] caps20, .slice (some ⟨w20.heap.size, 0, none⟩) 2 2, HO20.out.later B20, HQ22.out.later B21, cellE _ _ (by rw [hcells]; rfl), cellE _ _ (by rw [hcells]; rfl), cellE _ _ (by rw [hcells]; rfl), cellE _ _ (by rw [hcells]; rfl), cellE _ _ (by rw [hcells]; rfl)⟩
    rcases j with _ | j
    · exact ⟨.func (.func 157) #[] caps21, .slice none 0 0, HO21.out.later B21, partsMk_0 _ _ _, cellE _ _ (by rw [hcells]; rfl), cellE _ _ (by rw [hcells]; rfl), cellE _ _ (by rw [hcells]; rfl), cellE _ _ (by rw [hcells]; rfl), cellE _ _ (by rw [hcells]; rfl)⟩
    omega
  have HBE := Lib.hid B0
  clear hcells hsz hone hrowE hSz21 hwE B0 B1 B2 B3 B4 B5 B6 B7 B8 B9 B10 B11 B12 B13 B14 B15 B16 B17 B18 B19 B20 B21
  go_wp2
  go_ret
  exact ⟨_, rfl, HBE.out, HTab.out⟩
end Go.Proofs.YthmnffgjckpkiaaGreatDoor
namespace Go.Proofs.YthmnffgjckpkiaaGreatDoor
open Go Go.RowKit Go.Shelf

theorem Begin_bad (W0 w : World) (ht : Tabs W0 w) (v tv : Value) (l : List Ent) (hl : EntSlice w v l) (h100 : l.length ≤ 100) (hv : validS l = false) :
    Calls Tryz.prog 47 #[v, tv] w fun e w' => e = .returned (.tuple #[.pointer none, .int .i64 2]) ∧ Below w.heap.size w w' := by
  go_enter Tryz.func47, Tryz.ntmps47
  go_wp2_with (go_at_call 37; refine (hv ▸ Valid_short W0 _ ht v l hl h100).mono ?_; rintro r w1 ⟨rfl, hb⟩)
  go_ret2
  exact ⟨rfl, hb⟩
theorem Begin_long (W0 w : World) (ht : Tabs W0 w) (v : Value) (l : List Ent) (hl : EntSlice w v l) (h100 : l.length ≤ 100) (hv : validS l = true) (a : Option Addr) (n c : Nat) (hn : 24 < n) (_hn2 : n ≤ maxLen) :
    Calls Tryz.prog 47 #[v, .slice a n c] w fun e w' => e = .returned (.tuple #[.pointer none, .int .i64 3]) ∧ Below w.heap.size w w' := by
  have hd : decide (24 < (n : Int)) = true := by simp; omega
  have hd2 : decide (24 < n) = true := by simpa using hn
  have HV := Lib.hid hv
  clear hv hn
  go_enter Tryz.func47, Tryz.ntmps47
  go_wp2_with (go_at_call 37; refine (HV.out ▸ Valid_short W0 _ ht v l hl h100).mono ?_; rintro r w1 ⟨rfl, hb⟩)
  go_ret2
  exact ⟨rfl, hb⟩

/-- The grammar's block while the forms are looked up. -/
def begCells (v tkv fv : Value) (ended : Bool) (m : Nat) : Array Value := #[v, tkv, .bool ended, fv, .slice none 0 0, .map (some m)]
def BegI (w : World) (v tkv : Value) (bt : List (List UInt8)) (l : List Ent) (ended : Bool) (m gb k : Nat) (W : World) : Prop :=
  ∃ fv vs, vs.length = k ∧ W.heap[gb]? = some (.cells (begCells v tkv fv ended m) 88 (0, 0)) ∧ W.ownsRow (gb + 1) 117 1 fv k vs ∧
    (∀ j (h : j < vs.length) (h2 : j < bt.length), W.ownsRow 0 154 2 vs[j] (lookS bt[j] l).length ((lookS bt[j] l).flatMap formCells)) ∧ W.heap[m]? = some (.map #[] 0) ∧ Below w.heap.size w W
theorem BegI.below {w W W' : World} {v tkv : Value} {bt : List (List UInt8)} {l : List Ent} {ended : Bool} {m gb k : Nat} (h : BegI w v tkv bt l ended m gb k W) (hb : Below W.heap.size W W') : BegI w v tkv bt l ended m gb k W' := by
  obtain ⟨fv, vs, hk, hg, hown, hf, hm, hB⟩ := h
  exact ⟨fv, vs, hk, (hb.block _ (Array.getElem?_eq_some_iff.1 hg).1).trans hg, ownsRow_below hown hb, fun j h1 h2 => ownsRow_below (hf j h1 h2) hb, (hb.block _ (Array.getElem?_eq_some_iff.1 hm).1).trans hm, hB.trans (hb.mono hB.size)⟩
theorem row_not_cells {W : World} {base : Nat} {e t : TypeId} {size n : Nat} {v : Value} {xs : List Value} (h : W.ownsRow base e size v n xs) {b : Nat} {cs : Array Value} {fr : Nat × Nat} (hb : W.heap[b]? = some (.cells cs t fr)) (hne : t ≠ e) : v.ownBlock ≠ some b := by
  rcases h.2 with ⟨rfl, _⟩ | ⟨g, cap, cur, rfl, _, hg, _⟩
  · simp [Value.ownBlock]
  · intro e
    obtain rfl : g = b := by simpa [Value.ownBlock] using e
    rw [hg] at hb
    cases hb
    exact hne rfl
theorem row_of_row {W : World} {b1 b2 : Nat} {e1 e2 : TypeId} {s1 s2 n1 n2 : Nat} {v1 v2 : Value} {x1 x2 : List Value} (h1 : W.ownsRow b1 e1 s1 v1 n1 x1) (h2 : W.ownsRow b2 e2 s2 v2 n2 x2) (hne : e1 ≠ e2) : v1.ownBlock = none ∨ v1.ownBlock ≠ v2.ownBlock := by
  rcases h1.2 with ⟨rfl, _⟩ | ⟨g, cap, cur, rfl, _, hg, _⟩
  · exact .inl rfl
  · exact .inr (fun e => row_not_cells h2 hg hne e.symm)
/-- A form's row stays where another row grows, and where the grammar's block is written. -/
theorem beg_step {w W w4 : World} {v tkv fv v' r' : Value} {bt : List (List UInt8)} {l : List Ent} {ended : Bool} {m gb k : Nat} {vs : List Value} {tmp : Obj} (hk : vs.length = k) (hkb : k < bt.length) (hgm : gb = m + 1) (hwm : w.heap.size ≤ m)
    (hg : W.heap[gb]? = some (.cells (begCells v tkv fv ended m) 88 (0, 0))) (hown : W.ownsRow (gb + 1) 117 1 fv k vs)
    (hf : ∀ j (h : j < vs.length) (h2 : j < bt.length), W.ownsRow 0 154 2 vs[j] (lookS bt[j] l).length ((lookS bt[j] l).flatMap formCells)) (hm : W.heap[m]? = some (.map #[] 0)) (hB : Below w.heap.size w W)
    (hr : W.ownsRow 0 154 2 r' (lookS bt[k] l).length ((lookS bt[k] l).flatMap formCells)) (hgrow : (W.alloc tmp).grownBy w4 fv.ownBlock) (hown4 : w4.ownsRow (gb + 1) 117 1 v' (k + 1) (vs ++ [r'])) :
    BegI w v tkv bt l ended m gb (k + 1) (w4.setCell ⟨gb, 3, none⟩ v') := by
  have hglt := (Array.getElem?_eq_some_iff.1 hg).1
  have hmlt := (Array.getElem?_eq_some_iff.1 hm).1
  have hne : fv.ownBlock ≠ some gb := row_not_cells hown hg (by decide)
  have hnm : fv.ownBlock ≠ some m := by
    intro e
    rcases hown.2 with ⟨rfl, _⟩ | ⟨g, cap, cur, rfl, hb, _⟩
    · simp [Value.ownBlock] at e
    · obtain rfl : g = m := by simpa [Value.ownBlock] using e
      omega
  have hblk : ∀ b, b < W.heap.size → fv.ownBlock ≠ some b → w4.heap[b]? = W.heap[b]? := fun b hb hn => (hgrow.block b (by simp; omega) (fun e => hn e.symm)).trans (Below.heap_alloc _ _ _ (by omega))
  have hg4 := (hblk gb hglt hne).trans hg
  have hrows : ∀ {u : Value} {n : Nat} {xs : List Value}, W.ownsRow 0 154 2 u n xs → (w4.setCell ⟨gb, 3, none⟩ v').ownsRow 0 154 2 u n xs := by
    intro u n xs h
    have h4 : w4.ownsRow 0 154 2 u n xs := (h.alloc tmp).kept hgrow (row_of_row h hown (by decide))
    exact ownsRow_setCell_other h4 (row_not_cells h4 hg4 (by decide)) v'
  refine ⟨v', vs ++ [r'], by simp [hk], ?_, ?_, ?_, ?_, ?_⟩
  · rw [heap_setCell_same _ _ _ _ _ _ hg4]; rfl
  · exact ownsRow_setCell_other hown4 (row_not_cells hown4 hg4 (by decide)) v'
  · intro j h1 h2
    by_cases hj : j < vs.length
    · rw [List.getElem_append_left hj]; exact hrows (hf j hj h2)
    · obtain rfl : j = k := by simp at h1; omega
      rw [List.getElem_append_right (by omega)]
      simp only [hk, Nat.sub_self, List.getElem_cons_zero]
      exact hrows hr
  · exact (Below.heap_setCell _ _ _ _ (by simp; omega)).trans ((hblk m hmlt hnm).trans hm)
  · refine Below.setCell ?_ (by simp; omega) _
    exact hB.trans (((Below.refl W.heap.size W).alloc (Nat.le_refl _) tmp |>.mono hB.size).grown hgrow (by have := hB.size; simp; omega) (fun b hb => by
      rcases hown.2 with ⟨rfl, _⟩ | ⟨g, cap, cur, rfl, hbb, _⟩
      · simp [Value.ownBlock] at hb
      · obtain rfl : g = b := by simpa [Value.ownBlock] using hb
        omega))

theorem BegI.kept {w W : World} {v tkv : Value} {bt : List (List UInt8)} {l : List Ent} {ended : Bool} {m gb k : Nat} (h : BegI w v tkv bt l ended m gb k W) : Below w.heap.size w W := h.choose_spec.choose_spec.2.2.2.2.2
theorem cell_row {W : World} {b : Nat} {cs : Array Value} {T : TypeId} {fr : Nat × Nat} (h : W.heap[b]? = some (.cells cs T fr)) (k : Nat) : W.cell? ⟨b, k, none⟩ = cs[k]? := by simp [World.cell?, h]
/-- What stands when the table is made. -/
theorem beg_pre {w W : World} {v tkv : Value} {bt : List (List UInt8)} {l : List Ent} {ended : Bool} {m gb : Nat} {Wt : World} (h : BegI w v tkv bt l ended m gb bt.length W) (hl : EntSlice w v l) (hts : StrSlice w tkv bt) (hb24 : bt.length ≤ 24) (h100 : l.length ≤ 100) (ht : Tabs Wt w) (hwm : w.heap.size ≤ m) : Pre m gb ⟨l, bt⟩ W := by
  obtain ⟨fv, vs, hk, hg, hown, hf, hm, hB⟩ := h
  refine ⟨⟨_, _, hm⟩, ⟨v, by rw [cell_row hg]; rfl, hl.below hB⟩, ⟨tkv, by rw [cell_row hg]; rfl, hts.below hB⟩, ?_, hb24, h100, ⟨Wt, ht.next hB, Nat.le_trans ht.size hwm⟩⟩
  rcases hown.2 with ⟨rfl, h0⟩ | ⟨g, cap, cur, rfl, hbg, hgc, hnc, hcm, hcs, htake⟩
  · have : bt = [] := List.eq_nil_of_length_eq_zero h0
    subst this
    exact ⟨none, 0, by rw [cell_row hg]; rfl, .inl rfl⟩
  · refine ⟨_, cap, by rw [cell_row hg]; rfl, .inr ⟨g, rfl, fun j hj => ?_⟩⟩
    have hj : j < bt.length := hj
    refine ⟨vs[j], ?_, formSlice_of_owns (hf j (by omega) hj)⟩
    have h1 := hown.cells (g := g) rfl j vs[j] (by rw [List.getElem?_eq_getElem])
    have hadd : (⟨g, 0, none⟩ : Addr).add j = ⟨g, j, none⟩ := by unfold Addr.add; split <;> simp_all
    rwa [hadd] at h1
/-- The grammar stands, once the table is stored. -/
theorem beg_gram {w W W5 : World} {v tkv tv : Value} {bt : List (List UInt8)} {l : List Ent} {ended : Bool} {m gb : Nat} {Wt : World} (h : BegI w v tkv bt l ended m gb bt.length W) (hl : EntSlice w v l) (hts : StrSlice w tkv bt) (hb24 : bt.length ≤ 24) (h100 : l.length ≤ 100) (ht : Tabs Wt w) (hwm : w.heap.size ≤ m) (hgm : gb = m + 1)
    (hB5 : Below W.heap.size W W5) (hT : TableOk m gb ⟨l, bt⟩ W W5 tv) : Gram m gb ⟨l, bt⟩ ended (W5.setCell ⟨gb, 4, none⟩ tv) ∧ Below w.heap.size w (W5.setCell ⟨gb, 4, none⟩ tv) ∧ MapG ⟨l, bt⟩ (W5.setCell ⟨gb, 4, none⟩ tv).heap[m]? := by
  have hsub : ¬ gb = m := by omega
  obtain ⟨fv, vs, hk, hg, hown, hf, hm, hB⟩ := h.below hB5
  have hglt := (Array.getElem?_eq_some_iff.1 hg).1
  obtain ⟨W6, hW6⟩ : ∃ W6, W6 = W5.setCell ⟨gb, 4, none⟩ tv := ⟨_, rfl⟩
  have hg6 : W6.heap[gb]? = some (.cells #[v, tkv, .bool ended, fv, tv, .map (some m)] 88 (0, 0)) := by rw [hW6, heap_setCell_same _ _ _ _ _ _ hg]; rfl
  have hoth : ∀ b, b ≠ gb → W6.heap[b]? = W5.heap[b]? := fun b hb => by rw [hW6]; exact Below.heap_setCell _ _ _ _ hb
  have hB6 : Below w.heap.size w W6 := by rw [hW6]; exact hB.setCell (by simp; omega) _
  have hm6 : W6.heap[m]? = some (.map #[] 0) := (hoth m (fun e => hsub e.symm)).trans hm
  have hrow : ∀ {u : Value} {n : Nat} {xs : List Value}, W5.ownsRow 0 154 2 u n xs → W6.ownsRow 0 154 2 u n xs := fun hh => by rw [hW6]; exact ownsRow_setCell_other hh (row_not_cells hh hg (by decide)) tv
  have hown6 : W6.ownsRow (gb + 1) 117 1 fv bt.length vs := by rw [hW6]; exact ownsRow_setCell_other hown (row_not_cells hown hg (by decide)) tv
  have hp6 : Pre m gb ⟨l, bt⟩ W6 := by
    refine ⟨⟨_, _, hm6⟩, ⟨v, by rw [cell_row hg6]; rfl, hl.below hB6⟩, ⟨tkv, by rw [cell_row hg6]; rfl, hts.below hB6⟩, ?_, hb24, h100, ⟨Wt, ht.next hB6, Nat.le_trans ht.size hwm⟩⟩
    rcases hown6.2 with ⟨rfl, h0⟩ | ⟨g, cap, cur, rfl, hbg, hgc, hnc, hcm, hcs, htake⟩
    · have : bt = [] := List.eq_nil_of_length_eq_zero h0
      subst this
      exact ⟨none, 0, by rw [cell_row hg6]; rfl, .inl rfl⟩
    · refine ⟨_, cap, by rw [cell_row hg6]; rfl, .inr ⟨g, rfl, fun j hj => ?_⟩⟩
      have hj : j < bt.length := hj
      refine ⟨vs[j], ?_, formSlice_of_owns (hrow (hf j (by omega) hj))⟩
      have h1 := hown6.cells (g := g) rfl j vs[j] (by rw [List.getElem?_eq_getElem])
      have hadd : (⟨g, 0, none⟩ : Addr).add j = ⟨g, j, none⟩ := by unfold Addr.add; split <;> simp_all
      rwa [hadd] at h1
  have hBes : Besides m gb W5 W6 := ⟨by rw [hW6]; simp, fun b _ _ hb => hoth b hb⟩
  obtain ⟨tb, rfl, htb, hrows⟩ := hT
  have hWgb : gb < W.heap.size := by
    obtain ⟨_, _, _, hg', _⟩ := h
    exact (Array.getElem?_eq_some_iff.1 hg').1
  have htn : tb ≠ gb := by omega
  rw [← hW6]
  refine ⟨⟨⟨_, _, hm6⟩, ⟨v, by rw [cell_row hg6]; rfl, hl.below hB6⟩, ⟨tkv, by rw [cell_row hg6]; rfl, hts.below hB6⟩, by rw [cell_row hg6]; rfl, by rw [cell_row hg6]; rfl, hb24, tb, by rw [cell_row hg6]; rfl, fun j hj => ?_⟩, hB6, ⟨#[], 0, hm6, by simp⟩⟩
  obtain ⟨fv', pv, h1, h2, c0, c1, c2, c3, c4⟩ := hrows j hj
  have hc : ∀ {o : Nat} {x : Value}, W5.cell? ⟨tb, o, none⟩ = some x → W6.cell? ⟨tb, o, none⟩ = some x := fun {o x} hx => (World.cell?_of_block (a := ⟨tb, o, none⟩) (hoth tb htn)).trans hx
  exact ⟨fv', pv, ⟨h1 W6 hBes hp6, h2 W6 hBes⟩, hc c0, hc c1, hc c2, hc c3, hc c4⟩
/-- What begin returns. -/
def BeginOk (w : World) (l : List Ent) (bt : List (List UInt8)) (ended : Bool) (e : Ending) (w' : World) : Prop :=
  ∃ m gb, e = .returned (.tuple #[.pointer (some ⟨gb, 0, none⟩), .int .i64 0]) ∧ Below w.heap.size w w' ∧ Gram m gb ⟨l, bt⟩ ended w' ∧ MapG ⟨l, bt⟩ w'.heap[m]? ∧ w.heap.size ≤ m

theorem info_forms : (Tryz.prog.info? 117).map (fun i => (i.zero, i.size, i.bytes)) = some (some (.slice none 0 0), 1, 24) := by kernel_rfl

set_option maxRecDepth 100000 in
set_option maxHeartbeats 8000000 in
theorem Begin_dot (W0 w : World) (ht : Tabs W0 w) (v : Value) (l : List Ent) (hl : EntSlice w v l) (h100 : l.length ≤ 100) (hv : validS l = true) (ta : Option Addr) (tc : Nat) (bt : List (List UInt8)) (hts : StrSlice w (.slice ta (bt.length + 1) tc) (bt ++ [wDot])) (h24 : bt.length + 1 ≤ 24) :
    Calls Tryz.prog 47 #[v, .slice ta (bt.length + 1) tc] w fun e w' => BeginOk w l bt true e w' := by
  obtain ⟨ta', tc, he, htc, htm, htf⟩ := hts
  simp only [Value.slice.injEq] at he
  obtain ⟨rfl, -, rfl⟩ := he
  obtain ⟨tb, off, rfl, htcell⟩ := htf.resolve_left (by simp)
  have k0 := htcell bt.length (by simp)
  rw [List.getElem_append_right (by omega)] at k0
  simp only [Nat.sub_self, List.getElem_cons_zero] at k0
  have hts' : StrSlice w (.slice (some ⟨tb, off, none⟩) bt.length tc) bt := ⟨_, _, rfl, Nat.le_trans (Nat.le_succ _) (by rw [List.length_append, List.length_singleton] at htc; exact htc), htm, .inr ⟨tb, off, rfl, fun j hj => by have := htcell j (by rw [List.length_append]; omega); rw [List.getElem_append_left hj] at this; exact this⟩⟩
  obtain ⟨n, hn⟩ : ∃ n, n = bt.length := ⟨_, rfl⟩
  rw [← hn] at k0 hts' h24 ⊢
  obtain ⟨la, lc, rfl⟩ : ∃ la lc, v = .slice la l.length lc := by obtain ⟨⟨a, c, h, _⟩, _⟩ := hl; exact ⟨a, c, h⟩
  obtain ⟨ll, hll⟩ : ∃ ll, ll = l.length := ⟨_, rfl⟩
  have HLl := Lib.hid hll
  rw [← hll] at hl h100 ⊢
  have hcap : n + 1 ≤ tc := by rw [List.length_append, List.length_singleton] at htc; omega
  have hmm := @run_makeMap Tryz.prog
  have hd1 : decide (24 < ((n + 1 : Nat) : Int)) = false := by simp; omega
  have hd2 : decide (24 < n + 1) = false := by simp; omega
  have hd3 : decide (0 < ((n + 1 : Nat) : Int)) = true := decide_eq_true (by omega)
  have hdot : (wDot == [46]) = true := by decide
  have hw1 : IntKind.i64.wrap (((n + 1 : Nat) : Int) - 1) = (n : Int) := by rw [show ((n + 1 : Nat) : Int) - 1 = (n : Int) by omega]; exact IntWalk.i64_in _ (by omega)
  have hw2 : IntKind.i64.wrap ((n : Int) + 1 - 1) = (n : Int) := by rw [show (n : Int) + 1 - 1 = (n : Int) by omega]; exact IntWalk.i64_in _ (by omega)
  have HL := Lib.hid hl
  have HT := Lib.hid ht
  have HTS := Lib.hid hts'
  have HN := Lib.hid hn
  have HV := Lib.hid (fun (w' : World) (hb : Below w.heap.size w w') => hv ▸ Valid_short W0 w' (ht.next hb) (.slice la ll lc) l (hl.below hb) (by rw [← HLl.out]; exact h100))
  have HV2 := Lib.hid hv
  have HLook := Lib.hid (fun (w' : World) (hb : Below w.heap.size w w') (tok : ByteArray) => Look_owns W0 w' (ht.next hb) (.slice la ll lc) l (hl.below hb) (by rw [← HLl.out]; exact h100) hv tok)
  obtain ⟨i0, hi, hz0, hz1, hz2⟩ := info_parts info_forms
  clear hv hl ht htf htcell hts' hn htc hll
  go_enter Tryz.func47, Tryz.ntmps47
  go_upto_region 6 with (go_at_call 37; refine (HV.out _ (Below.refl _ _)).mono ?_; rintro r w1 ⟨rfl, hb1⟩)
  obtain ⟨W2, hW2⟩ : ∃ W2, W2 = (w1.alloc (.map #[] 0)).alloc (.cells (begCells (.slice la ll lc) (.slice none 0 0) (.slice none 0 0) false w1.heap.size) 88) := ⟨_, rfl⟩
  have hB2 : Below w.heap.size w W2 := by rw [hW2]; exact (hb1.alloc hb1.size _).alloc (by have := hb1.size; simp; omega) _
  have hg2 : W2.heap[w1.heap.size + 1]? = some (.cells (begCells (.slice la ll lc) (.slice none 0 0) (.slice none 0 0) false w1.heap.size) 88 (0, 0)) := by rw [hW2]; exact heap_at2 (by simp)
  have hm2 : W2.heap[w1.heap.size]? = some (.map #[] 0) := by rw [hW2, Below.heap_alloc _ _ _ (by simp)]; exact heap_at2 rfl
  have hwm : w.heap.size ≤ w1.heap.size := hb1.size
  have k2 := cell_kept' hB2 k0
  obtain ⟨m, hmm1⟩ : ∃ m, m = w1.heap.size := ⟨_, rfl⟩
  obtain ⟨gb, hgb⟩ : ∃ gb, gb = m + 1 := ⟨_, rfl⟩
  unfold begCells at hW2
  rw [← hW2, ← hmm1, ← hgb]
  rw [← hmm1] at hg2 hm2 hwm
  rw [← hgb] at hg2
  have HG2 := Lib.hid hg2
  have HM2 := Lib.hid hm2
  have HB2 := Lib.hid hB2
  have HGb := Lib.hid hgb
  have HWm := Lib.hid hwm
  clear hW2 hg2 hm2 hB2 hgb hwm hb1 k0 hmm1
  have g1 : W2.cell? ⟨gb, 1, none⟩ = some (.slice none 0 0) := by rw [cell_row HG2.out]; rfl
  have g2 : W2.cell? ⟨gb, 2, none⟩ = some (.bool false) := by rw [cell_row HG2.out]; rfl
  have z1 : W2.frozen? ⟨gb, 1, none⟩ = false := by simp [World.frozen?, HG2.out]
  have z2 : W2.frozen? ⟨gb, 2, none⟩ = false := by simp [World.frozen?, HG2.out]
  go_upto_region 9 with (fail)
  obtain ⟨W3, hW3⟩ : ∃ W3, W3 = (W2.setCell ⟨gb, 1, none⟩ (.slice (some ⟨tb, off, none⟩) n tc)).setCell ⟨gb, 2, none⟩ (.bool true) := ⟨_, rfl⟩
  rw [← hW3]
  have hI : BegI w (.slice la ll lc) (.slice (some ⟨tb, off, none⟩) n tc) bt l true m gb 0 W3 := by
    have h2 := heap_setCell_same _ _ 1 _ _ (.slice (some ⟨tb, off, none⟩) n tc) HG2.out
    have h3 := heap_setCell_same _ _ 2 _ _ (.bool true) h2
    have hgm := HGb.out
    have hwm := HWm.out
    refine ⟨.slice none 0 0, [], rfl, ?_, World.ownsRow_nil _ _ _ _, fun j h1 => by simp at h1, ?_, ?_⟩
    · rw [hW3, h3]; rfl
    · rw [hW3, Below.heap_setCell _ _ _ _ (by simp; omega), Below.heap_setCell _ _ _ _ (by simp; omega)]; exact HM2.out
    · rw [hW3]; exact (HB2.out.setCell (by simp; omega) _).setCell (by simp; omega) _
  clear hW3 g1 g2 z1 z2 k2
  have hd4 := HTS.out
  have HI := Lib.hid hI
  clear hI hd1 hd2 hd3 hw1 hw2 hmm
  obtain ⟨tka, htka⟩ : ∃ tka, tka = (some (⟨tb, off, none⟩ : Addr)) := ⟨_, rfl⟩
  rw [← htka] at HI hd4 ⊢
  have HTS := Lib.hid hd4
  clear htka hd4
  have hc1 : W3.cell? ⟨gb, 1, none⟩ = some (.slice tka n tc) := by obtain ⟨_, _, _, hg, _⟩ := HI.out; rw [cell_row hg]; rfl
  go_wp2
  clear hc1
  go_loopw [49] (fun q wr => ∃ k : Nat, k ≤ n ∧ q = .int .i64 k ∧ BegI w (.slice la ll lc) (.slice tka n tc) bt l true m gb k wr) (fun q _ => n - (intOf q).toNat)
  case atStart => exact ⟨0, Nat.zero_le _, rfl, HI.out⟩
  case round =>
    obtain ⟨k, hk, rfl, hBI⟩ := hrel
    have HBI := Lib.hid hBI
    clear hBI
    by_cases hlt : k < n
    · obtain ⟨fv, vs, hkl, hg, hown, hf, hm, hB⟩ := HBI.out
      have hkb : k < bt.length := by rw [← HN.out]; exact hlt
      obtain ⟨_, _, he, hc1, hc2, htf⟩ := HTS.out.below hB
      simp only [Value.slice.injEq] at he
      obtain ⟨rfl, -, rfl⟩ := he
      obtain ⟨tb', off', rfl, htc⟩ := htf.resolve_left (by intro h; rw [h] at hkb; simp at hkb)
      have k0 := htc k hkb
      obtain ⟨tk, htk⟩ : ∃ tk, tk = bt[k] := ⟨_, rfl⟩
      rw [← htk] at k0
      have HTk := Lib.hid htk
      have HF := Lib.hid hf
      have HB := Lib.hid hB
      have HG := Lib.hid hg
      have HM := Lib.hid hm
      have HO := Lib.hid hown
      have HKl := Lib.hid hkl
      clear htk hf hB hg hm hown hkl htc htf hc1 hc2
      have hd6 : decide ((k : Int) < (n : Int)) = true := by simp; omega
      go_upto_region 15 with (go_at_call 76; refine (HLook.out _ HB.out ⟨tk.toArray⟩).mono ?_; rintro r w2 ⟨r', rfl, hr, hb2⟩; obtain ⟨ra, rc, rfl⟩ := owns_form hr)
      obtain ⟨rn, hrn⟩ : ∃ rn, rn = (lookS (⟨tk.toArray⟩ : ByteArray).data.toList l).length := ⟨_, rfl⟩
      rw [← hrn] at hr ⊢
      have HRn := Lib.hid hrn
      have HR := Lib.hid hr
      clear hrn
      have hg2 := (hb2.block _ (Array.getElem?_eq_some_iff.1 HG.out).1).trans HG.out
      have hcf : w2.cell? ⟨gb, 3, none⟩ = some fv := by rw [cell_row hg2]; rfl
      have hgl := (Array.getElem?_eq_some_iff.1 hg2).1
      have HG2 := Lib.hid hg2
      have HO2 := Lib.hid (ownsRow_below HO.out hb2)
      obtain ⟨fa, fc, hfv⟩ := owns_form HO2.out
      have HB2 := Lib.hid hb2
      clear hr hg2 hb2
      subst hfv
      go_wp2_with (at_builtin; refine wpList_append_own _ rfl _ _ 84 rfl (gb + 1) 117 i0 (.slice none 0 0) 1 24 Tryz.underlying84 hi hz0 hz1 hz2 rfl (by decide) _ _ _ rfl (HO2.out.alloc _) ⟨w2.heap.size, 0, none⟩ 1 1 [.slice ra rn rc] rfl rfl (news_at (cs := #[.slice ra rn rc]) (t := 117) (fr := (0, 0)) (World.alloc_heap_new _ _)) (by simp [Value.oneCell']) (by unfold maxLen; omega) (by omega) (by simp; omega) ?_)
      intro v' w4 hown4 hgrow _
      obtain ⟨va, vc, rfl⟩ := owns_form hown4
      have hmW := (HB2.out.block _ (Array.getElem?_eq_some_iff.1 HM.out).1).trans HM.out
      have hne := row_not_cells HO2.out HG2.out (by decide)
      have hg4 : w4.heap[gb]? = some (.cells (begCells (.slice la ll lc) (.slice (some ⟨tb', off', none⟩) n tc) (.slice fa k fc) true m) 88 (0, 0)) := (hgrow.block gb (by simp; omega) (fun e => hne e.symm)).trans ((Below.heap_alloc _ _ _ (by omega)).trans HG2.out)
      have c3 : w4.cell? ⟨gb, 3, none⟩ = some (.slice fa k fc) := by rw [cell_row hg4]; rfl
      have z3 : w4.frozen? ⟨gb, 3, none⟩ = false := by simp [World.frozen?, hg4]
      have hrr : w2.ownsRow 0 154 2 (.slice ra rn rc) (lookS bt[k] l).length ((lookS bt[k] l).flatMap formCells) := by have h := HR.out; rw [HRn.out] at h ⊢; rw [← HTk.out]; exact h
      have hbeg := beg_step (w := w) HKl.out hkb HGb.out HWm.out HG2.out HO2.out (fun j h1 h2 => ownsRow_below (HF.out j h1 h2) HB2.out) hmW (HB.out.trans (HB2.out.mono HB.out.size)) hrr hgrow hown4
      have HBeg := Lib.hid hbeg
      clear hbeg hrr hg4 hne hmW hown4 hgrow
      go_wp2
      go_roundw
      case rel => exact ⟨k + 1, by omega, by go_num, HBeg.out⟩
      case measure => simp [intOf]; omega
    · obtain rfl : k = n := by omega
      have hBK := HBI.out
      rw [show BegI w (.slice la ll lc) (.slice tka k tc) bt l true m gb k wr = BegI w (.slice la ll lc) (.slice tka k tc) bt l true m gb bt.length wr by rw [← HN.out]] at hBK
      have hpre := beg_pre hBK HL.out HTS.out (by rw [← HN.out]; omega) (by rw [← HLl.out]; exact h100) HT.out HWm.out
      have hpre' := Lib.hid hpre
      have HBK := Lib.hid hBK
      clear hpre hBK HBI
      go_wp2_with (go_at_call 77; refine (rows_any hpre'.out).mono ?_; rintro _ W5 ⟨tv, rfl, hb5, hT⟩; obtain ⟨tb5, rfl, _⟩ := id hT; have HGr := Lib.hid (beg_gram HBK.out HL.out HTS.out (by rw [← HN.out]; omega) (by rw [← HLl.out]; exact h100) HT.out HWm.out HGb.out hb5 hT); have c4 : W5.cell? ⟨gb, 4, none⟩ = some (.slice none 0 0) := (by obtain ⟨_, _, _, hg5, _⟩ := HBK.out.below hb5; rw [cell_row hg5]; rfl); have z4 : W5.frozen? ⟨gb, 4, none⟩ = false := (by obtain ⟨_, _, _, hg5, _⟩ := HBK.out.below hb5; simp [World.frozen?, hg5]); clear hb5 hT)
      go_ret2
      exact ⟨m, gb, rfl, HGr.out.2.1, HGr.out.1, HGr.out.2.2, HWm.out⟩

set_option maxRecDepth 100000 in
set_option maxHeartbeats 8000000 in
theorem Begin_other (W0 w : World) (ht : Tabs W0 w) (v : Value) (l : List Ent) (hl : EntSlice w v l) (h100 : l.length ≤ 100) (hv : validS l = true) (ta : Option Addr) (tc0 : Nat) (bt0 : List (List UInt8)) (x : List UInt8) (hx : x ≠ wDot) (hts : StrSlice w (.slice ta (bt0.length + 1) tc0) (bt0 ++ [x])) (h24 : bt0.length + 1 ≤ 24) :
    Calls Tryz.prog 47 #[v, .slice ta (bt0.length + 1) tc0] w fun e w' => BeginOk w l [] false e w' := by
  obtain ⟨ta', tc', he, htc0, htm0, htf⟩ := hts
  simp only [Value.slice.injEq] at he
  obtain ⟨rfl, -, rfl⟩ := he
  obtain ⟨tb, off, rfl, htcell⟩ := htf.resolve_left (by simp)
  have k0 := htcell bt0.length (by simp)
  rw [List.getElem_append_right (by omega)] at k0
  simp only [Nat.sub_self, List.getElem_cons_zero] at k0
  obtain ⟨n0, hn0⟩ : ∃ n0, n0 = bt0.length := ⟨_, rfl⟩
  rw [← hn0] at k0 h24 ⊢
  have hd1 : decide (24 < ((n0 + 1 : Nat) : Int)) = false := by simp; omega
  have hd2 : decide (24 < n0 + 1) = false := by simp; omega
  have hd3 : decide (0 < ((n0 + 1 : Nat) : Int)) = true := decide_eq_true (by omega)
  have hdot : (x == [46]) = false := beq_false_of_ne hx
  have hw1 : IntKind.i64.wrap (((n0 + 1 : Nat) : Int) - 1) = (n0 : Int) := by rw [show ((n0 + 1 : Nat) : Int) - 1 = (n0 : Int) by omega]; exact IntWalk.i64_in _ (by omega)
  have hw2 : IntKind.i64.wrap ((n0 : Int) + 1 - 1) = (n0 : Int) := by rw [show (n0 : Int) + 1 - 1 = (n0 : Int) by omega]; exact IntWalk.i64_in _ (by omega)
  clear htf htcell hn0 htc0 htm0 hx
  obtain ⟨bt, hbt⟩ : ∃ bt : List (List UInt8), bt = [] := ⟨_, rfl⟩
  obtain ⟨n, hn⟩ : ∃ n, n = bt.length := ⟨_, rfl⟩
  obtain ⟨tc, htc⟩ : ∃ tc, tc = 0 := ⟨_, rfl⟩
  obtain ⟨tka, htka⟩ : ∃ tka : Option Addr, tka = none := ⟨_, rfl⟩
  have hn' : n + 1 ≤ 24 := by rw [hn, hbt]; decide
  have hts' : StrSlice w (.slice tka n tc) bt := ⟨_, _, by rw [hn], by rw [hbt]; simp, by rw [htc]; unfold maxLen; omega, .inl hbt⟩
  have hsl : Value.slice none 0 0 = .slice tka n tc := by rw [htka, hn, hbt, htc]; rfl
  have HSl := Lib.hid hsl
  have HBt := Lib.hid hbt
  obtain ⟨la, lc, rfl⟩ : ∃ la lc, v = .slice la l.length lc := by obtain ⟨⟨a, c, h, _⟩, _⟩ := hl; exact ⟨a, c, h⟩
  obtain ⟨ll, hll⟩ : ∃ ll, ll = l.length := ⟨_, rfl⟩
  have HLl := Lib.hid hll
  rw [← hll] at hl h100 ⊢
  have hmm := @run_makeMap Tryz.prog
  have HL := Lib.hid hl
  have HT := Lib.hid ht
  have HTS := Lib.hid hts'
  have HN := Lib.hid hn
  have HV := Lib.hid (fun (w' : World) (hb : Below w.heap.size w w') => hv ▸ Valid_short W0 w' (ht.next hb) (.slice la ll lc) l (hl.below hb) (by rw [← HLl.out]; exact h100))
  have HV2 := Lib.hid hv
  have HLook := Lib.hid (fun (w' : World) (hb : Below w.heap.size w w') (tok : ByteArray) => Look_owns W0 w' (ht.next hb) (.slice la ll lc) l (hl.below hb) (by rw [← HLl.out]; exact h100) hv tok)
  obtain ⟨i0, hi, hz0, hz1, hz2⟩ := info_parts info_forms
  rw [show BeginOk w l [] false = BeginOk w l bt false by rw [hbt]]
  clear hv hl ht hts' hn htc htka hsl hll hbt
  go_enter Tryz.func47, Tryz.ntmps47
  go_upto_region 6 with (go_at_call 37; refine (HV.out _ (Below.refl _ _)).mono ?_; rintro r w1 ⟨rfl, hb1⟩)
  obtain ⟨W2, hW2⟩ : ∃ W2, W2 = (w1.alloc (.map #[] 0)).alloc (.cells (begCells (.slice la ll lc) (.slice none 0 0) (.slice none 0 0) false w1.heap.size) 88) := ⟨_, rfl⟩
  have hB2 : Below w.heap.size w W2 := by rw [hW2]; exact (hb1.alloc hb1.size _).alloc (by have := hb1.size; simp; omega) _
  have hg2 : W2.heap[w1.heap.size + 1]? = some (.cells (begCells (.slice la ll lc) (.slice none 0 0) (.slice none 0 0) false w1.heap.size) 88 (0, 0)) := by rw [hW2]; exact heap_at2 (by simp)
  have hm2 : W2.heap[w1.heap.size]? = some (.map #[] 0) := by rw [hW2, Below.heap_alloc _ _ _ (by simp)]; exact heap_at2 rfl
  have hwm : w.heap.size ≤ w1.heap.size := hb1.size
  have k2 := cell_kept' hB2 k0
  obtain ⟨m, hmm1⟩ : ∃ m, m = w1.heap.size := ⟨_, rfl⟩
  obtain ⟨gb, hgb⟩ : ∃ gb, gb = m + 1 := ⟨_, rfl⟩
  unfold begCells at hW2
  rw [← hW2, ← hmm1, ← hgb]
  rw [← hmm1] at hg2 hm2 hwm
  rw [← hgb] at hg2
  have HG2 := Lib.hid hg2
  have HM2 := Lib.hid hm2
  have HB2 := Lib.hid hB2
  have HGb := Lib.hid hgb
  have HWm := Lib.hid hwm
  clear hW2 hg2 hm2 hB2 hgb hwm hb1 k0 hmm1
  go_upto_region 9 with (fail)
  have hI : BegI w (.slice la ll lc) (.slice tka n tc) bt l false m gb 0 W2 := ⟨.slice none 0 0, [], rfl, by have h := HG2.out; rw [show begCells (.slice la ll lc) (.slice none 0 0) (.slice none 0 0) false m = begCells (.slice la ll lc) (.slice tka n tc) (.slice none 0 0) false m by rw [← HSl.out]] at h; exact h, World.ownsRow_nil _ _ _ _, fun j h1 => by simp at h1, HM2.out, HB2.out⟩
  obtain ⟨W3, hW3⟩ : ∃ W3, W3 = W2 := ⟨_, rfl⟩
  rw [← hW3] at hI ⊢
  clear hW3 k2
  have HI := Lib.hid hI
  clear hI hmm hd1 hd2 hd3 hw1 hw2
  have hc1 : W3.cell? ⟨gb, 1, none⟩ = some (.slice tka n tc) := by obtain ⟨_, _, _, hg, _⟩ := HI.out; rw [cell_row hg]; rfl
  go_wp2
  clear hc1
  go_loopw [49] (fun q wr => ∃ k : Nat, k ≤ n ∧ q = .int .i64 k ∧ BegI w (.slice la ll lc) (.slice tka n tc) bt l false m gb k wr) (fun q _ => n - (intOf q).toNat)
  case atStart => exact ⟨0, Nat.zero_le _, rfl, HI.out⟩
  case round =>
    obtain ⟨k, hk, rfl, hBI⟩ := hrel
    have HBI := Lib.hid hBI
    clear hBI
    by_cases hlt : k < n
    · obtain ⟨fv, vs, hkl, hg, hown, hf, hm, hB⟩ := HBI.out
      have hkb : k < bt.length := by rw [← HN.out]; exact hlt
      obtain ⟨_, _, he, hc1, hc2, htf⟩ := HTS.out.below hB
      simp only [Value.slice.injEq] at he
      obtain ⟨rfl, -, rfl⟩ := he
      obtain ⟨tb', off', rfl, htc⟩ := htf.resolve_left (by intro h; rw [h] at hkb; simp at hkb)
      have k0 := htc k hkb
      obtain ⟨tk, htk⟩ : ∃ tk, tk = bt[k] := ⟨_, rfl⟩
      rw [← htk] at k0
      have HTk := Lib.hid htk
      have HF := Lib.hid hf
      have HB := Lib.hid hB
      have HG := Lib.hid hg
      have HM := Lib.hid hm
      have HO := Lib.hid hown
      have HKl := Lib.hid hkl
      clear htk hf hB hg hm hown hkl htc htf hc1 hc2
      have hd6 : decide ((k : Int) < (n : Int)) = true := by simp; omega
      go_upto_region 15 with (go_at_call 76; refine (HLook.out _ HB.out ⟨tk.toArray⟩).mono ?_; rintro r w2 ⟨r', rfl, hr, hb2⟩; obtain ⟨ra, rc, rfl⟩ := owns_form hr)
      obtain ⟨rn, hrn⟩ : ∃ rn, rn = (lookS (⟨tk.toArray⟩ : ByteArray).data.toList l).length := ⟨_, rfl⟩
      rw [← hrn] at hr ⊢
      have HRn := Lib.hid hrn
      have HR := Lib.hid hr
      clear hrn
      have hg2 := (hb2.block _ (Array.getElem?_eq_some_iff.1 HG.out).1).trans HG.out
      have hcf : w2.cell? ⟨gb, 3, none⟩ = some fv := by rw [cell_row hg2]; rfl
      have hgl := (Array.getElem?_eq_some_iff.1 hg2).1
      have HG2 := Lib.hid hg2
      have HO2 := Lib.hid (ownsRow_below HO.out hb2)
      obtain ⟨fa, fc, hfv⟩ := owns_form HO2.out
      have HB2 := Lib.hid hb2
      clear hr hg2 hb2
      subst hfv
      go_wp2_with (at_builtin; refine wpList_append_own _ rfl _ _ 84 rfl (gb + 1) 117 i0 (.slice none 0 0) 1 24 Tryz.underlying84 hi hz0 hz1 hz2 rfl (by decide) _ _ _ rfl (HO2.out.alloc _) ⟨w2.heap.size, 0, none⟩ 1 1 [.slice ra rn rc] rfl rfl (news_at (cs := #[.slice ra rn rc]) (t := 117) (fr := (0, 0)) (World.alloc_heap_new _ _)) (by simp [Value.oneCell']) (by unfold maxLen; omega) (by omega) (by simp; omega) ?_)
      intro v' w4 hown4 hgrow _
      obtain ⟨va, vc, rfl⟩ := owns_form hown4
      have hmW := (HB2.out.block _ (Array.getElem?_eq_some_iff.1 HM.out).1).trans HM.out
      have hne := row_not_cells HO2.out HG2.out (by decide)
      have hg4 : w4.heap[gb]? = some (.cells (begCells (.slice la ll lc) (.slice (some ⟨tb', off', none⟩) n tc) (.slice fa k fc) false m) 88 (0, 0)) := (hgrow.block gb (by simp; omega) (fun e => hne e.symm)).trans ((Below.heap_alloc _ _ _ (by omega)).trans HG2.out)
      have c3 : w4.cell? ⟨gb, 3, none⟩ = some (.slice fa k fc) := by rw [cell_row hg4]; rfl
      have z3 : w4.frozen? ⟨gb, 3, none⟩ = false := by simp [World.frozen?, hg4]
      have hrr : w2.ownsRow 0 154 2 (.slice ra rn rc) (lookS bt[k] l).length ((lookS bt[k] l).flatMap formCells) := by have h := HR.out; rw [HRn.out] at h ⊢; rw [← HTk.out]; exact h
      have hbeg := beg_step (w := w) HKl.out hkb HGb.out HWm.out HG2.out HO2.out (fun j h1 h2 => ownsRow_below (HF.out j h1 h2) HB2.out) hmW (HB.out.trans (HB2.out.mono HB.out.size)) hrr hgrow hown4
      have HBeg := Lib.hid hbeg
      clear hbeg hrr hg4 hne hmW hown4 hgrow
      go_wp2
      go_roundw
      case rel => exact ⟨k + 1, by omega, by go_num, HBeg.out⟩
      case measure => simp [intOf]; omega
    · obtain rfl : k = n := by omega
      have hBK := HBI.out
      rw [show BegI w (.slice la ll lc) (.slice tka k tc) bt l false m gb k wr = BegI w (.slice la ll lc) (.slice tka k tc) bt l false m gb bt.length wr by rw [← HN.out]] at hBK
      have hpre := beg_pre hBK HL.out HTS.out (by rw [← HN.out]; omega) (by rw [← HLl.out]; exact h100) HT.out HWm.out
      have hpre' := Lib.hid hpre
      have HBK := Lib.hid hBK
      clear hpre hBK HBI
      go_wp2_with (go_at_call 77; refine (rows_any hpre'.out).mono ?_; rintro _ W5 ⟨tv, rfl, hb5, hT⟩; obtain ⟨tb5, rfl, _⟩ := id hT; have HGr := Lib.hid (beg_gram HBK.out HL.out HTS.out (by rw [← HN.out]; omega) (by rw [← HLl.out]; exact h100) HT.out HWm.out HGb.out hb5 hT); have c4 : W5.cell? ⟨gb, 4, none⟩ = some (.slice none 0 0) := (by obtain ⟨_, _, _, hg5, _⟩ := HBK.out.below hb5; rw [cell_row hg5]; rfl); have z4 : W5.frozen? ⟨gb, 4, none⟩ = false := (by obtain ⟨_, _, _, hg5, _⟩ := HBK.out.below hb5; simp [World.frozen?, hg5]); clear hb5 hT)
      go_ret2
      exact ⟨m, gb, rfl, HGr.out.2.1, HGr.out.1, HGr.out.2.2, HWm.out⟩

set_option maxRecDepth 100000 in
set_option maxHeartbeats 8000000 in
theorem Begin_nil (W0 w : World) (ht : Tabs W0 w) (v : Value) (l : List Ent) (hl : EntSlice w v l) (h100 : l.length ≤ 100) (hv : validS l = true) (ta : Option Addr) (tc0 : Nat) :
    Calls Tryz.prog 47 #[v, .slice ta 0 tc0] w fun e w' => BeginOk w l [] false e w' := by
  obtain ⟨bt, hbt⟩ : ∃ bt : List (List UInt8), bt = [] := ⟨_, rfl⟩
  obtain ⟨n, hn⟩ : ∃ n, n = bt.length := ⟨_, rfl⟩
  obtain ⟨tc, htc⟩ : ∃ tc, tc = 0 := ⟨_, rfl⟩
  obtain ⟨tka, htka⟩ : ∃ tka : Option Addr, tka = none := ⟨_, rfl⟩
  have hn' : n + 1 ≤ 24 := by rw [hn, hbt]; decide
  have hts' : StrSlice w (.slice tka n tc) bt := ⟨_, _, by rw [hn], by rw [hbt]; simp, by rw [htc]; unfold maxLen; omega, .inl hbt⟩
  have hsl : Value.slice none 0 0 = .slice tka n tc := by rw [htka, hn, hbt, htc]; rfl
  have HSl := Lib.hid hsl
  have HBt := Lib.hid hbt
  obtain ⟨la, lc, rfl⟩ : ∃ la lc, v = .slice la l.length lc := by obtain ⟨⟨a, c, h, _⟩, _⟩ := hl; exact ⟨a, c, h⟩
  obtain ⟨ll, hll⟩ : ∃ ll, ll = l.length := ⟨_, rfl⟩
  have HLl := Lib.hid hll
  rw [← hll] at hl h100 ⊢
  have hmm := @run_makeMap Tryz.prog
  have HL := Lib.hid hl
  have HT := Lib.hid ht
  have HTS := Lib.hid hts'
  have HN := Lib.hid hn
  have HV := Lib.hid (fun (w' : World) (hb : Below w.heap.size w w') => hv ▸ Valid_short W0 w' (ht.next hb) (.slice la ll lc) l (hl.below hb) (by rw [← HLl.out]; exact h100))
  have HV2 := Lib.hid hv
  have HLook := Lib.hid (fun (w' : World) (hb : Below w.heap.size w w') (tok : ByteArray) => Look_owns W0 w' (ht.next hb) (.slice la ll lc) l (hl.below hb) (by rw [← HLl.out]; exact h100) hv tok)
  obtain ⟨i0, hi, hz0, hz1, hz2⟩ := info_parts info_forms
  rw [show BeginOk w l [] false = BeginOk w l bt false by rw [hbt]]
  clear hv hl ht hts' hn htc htka hsl hll hbt
  go_enter Tryz.func47, Tryz.ntmps47
  go_upto_region 6 with (go_at_call 37; refine (HV.out _ (Below.refl _ _)).mono ?_; rintro r w1 ⟨rfl, hb1⟩)
  obtain ⟨W2, hW2⟩ : ∃ W2, W2 = (w1.alloc (.map #[] 0)).alloc (.cells (begCells (.slice la ll lc) (.slice none 0 0) (.slice none 0 0) false w1.heap.size) 88) := ⟨_, rfl⟩
  have hB2 : Below w.heap.size w W2 := by rw [hW2]; exact (hb1.alloc hb1.size _).alloc (by have := hb1.size; simp; omega) _
  have hg2 : W2.heap[w1.heap.size + 1]? = some (.cells (begCells (.slice la ll lc) (.slice none 0 0) (.slice none 0 0) false w1.heap.size) 88 (0, 0)) := by rw [hW2]; exact heap_at2 (by simp)
  have hm2 : W2.heap[w1.heap.size]? = some (.map #[] 0) := by rw [hW2, Below.heap_alloc _ _ _ (by simp)]; exact heap_at2 rfl
  have hwm : w.heap.size ≤ w1.heap.size := hb1.size
  obtain ⟨m, hmm1⟩ : ∃ m, m = w1.heap.size := ⟨_, rfl⟩
  obtain ⟨gb, hgb⟩ : ∃ gb, gb = m + 1 := ⟨_, rfl⟩
  unfold begCells at hW2
  rw [← hW2, ← hmm1, ← hgb]
  rw [← hmm1] at hg2 hm2 hwm
  rw [← hgb] at hg2
  have HG2 := Lib.hid hg2
  have HM2 := Lib.hid hm2
  have HB2 := Lib.hid hB2
  have HGb := Lib.hid hgb
  have HWm := Lib.hid hwm
  clear hW2 hg2 hm2 hB2 hgb hwm hb1 hmm1
  go_upto_region 9 with (fail)
  have hI : BegI w (.slice la ll lc) (.slice tka n tc) bt l false m gb 0 W2 := ⟨.slice none 0 0, [], rfl, by have h := HG2.out; rw [show begCells (.slice la ll lc) (.slice none 0 0) (.slice none 0 0) false m = begCells (.slice la ll lc) (.slice tka n tc) (.slice none 0 0) false m by rw [← HSl.out]] at h; exact h, World.ownsRow_nil _ _ _ _, fun j h1 => by simp at h1, HM2.out, HB2.out⟩
  obtain ⟨W3, hW3⟩ : ∃ W3, W3 = W2 := ⟨_, rfl⟩
  rw [← hW3] at hI ⊢
  clear hW3
  have HI := Lib.hid hI
  clear hI hmm
  have hc1 : W3.cell? ⟨gb, 1, none⟩ = some (.slice tka n tc) := by obtain ⟨_, _, _, hg, _⟩ := HI.out; rw [cell_row hg]; rfl
  go_wp2
  clear hc1
  go_loopw [49] (fun q wr => ∃ k : Nat, k ≤ n ∧ q = .int .i64 k ∧ BegI w (.slice la ll lc) (.slice tka n tc) bt l false m gb k wr) (fun q _ => n - (intOf q).toNat)
  case atStart => exact ⟨0, Nat.zero_le _, rfl, HI.out⟩
  case round =>
    obtain ⟨k, hk, rfl, hBI⟩ := hrel
    have HBI := Lib.hid hBI
    clear hBI
    by_cases hlt : k < n
    · obtain ⟨fv, vs, hkl, hg, hown, hf, hm, hB⟩ := HBI.out
      have hkb : k < bt.length := by rw [← HN.out]; exact hlt
      obtain ⟨_, _, he, hc1, hc2, htf⟩ := HTS.out.below hB
      simp only [Value.slice.injEq] at he
      obtain ⟨rfl, -, rfl⟩ := he
      obtain ⟨tb', off', rfl, htc⟩ := htf.resolve_left (by intro h; rw [h] at hkb; simp at hkb)
      have k0 := htc k hkb
      obtain ⟨tk, htk⟩ : ∃ tk, tk = bt[k] := ⟨_, rfl⟩
      rw [← htk] at k0
      have HTk := Lib.hid htk
      have HF := Lib.hid hf
      have HB := Lib.hid hB
      have HG := Lib.hid hg
      have HM := Lib.hid hm
      have HO := Lib.hid hown
      have HKl := Lib.hid hkl
      clear htk hf hB hg hm hown hkl htc htf hc1 hc2
      have hd6 : decide ((k : Int) < (n : Int)) = true := by simp; omega
      go_upto_region 15 with (go_at_call 76; refine (HLook.out _ HB.out ⟨tk.toArray⟩).mono ?_; rintro r w2 ⟨r', rfl, hr, hb2⟩; obtain ⟨ra, rc, rfl⟩ := owns_form hr)
      obtain ⟨rn, hrn⟩ : ∃ rn, rn = (lookS (⟨tk.toArray⟩ : ByteArray).data.toList l).length := ⟨_, rfl⟩
      rw [← hrn] at hr ⊢
      have HRn := Lib.hid hrn
      have HR := Lib.hid hr
      clear hrn
      have hg2 := (hb2.block _ (Array.getElem?_eq_some_iff.1 HG.out).1).trans HG.out
      have hcf : w2.cell? ⟨gb, 3, none⟩ = some fv := by rw [cell_row hg2]; rfl
      have hgl := (Array.getElem?_eq_some_iff.1 hg2).1
      have HG2 := Lib.hid hg2
      have HO2 := Lib.hid (ownsRow_below HO.out hb2)
      obtain ⟨fa, fc, hfv⟩ := owns_form HO2.out
      have HB2 := Lib.hid hb2
      clear hr hg2 hb2
      subst hfv
      go_wp2_with (at_builtin; refine wpList_append_own _ rfl _ _ 84 rfl (gb + 1) 117 i0 (.slice none 0 0) 1 24 Tryz.underlying84 hi hz0 hz1 hz2 rfl (by decide) _ _ _ rfl (HO2.out.alloc _) ⟨w2.heap.size, 0, none⟩ 1 1 [.slice ra rn rc] rfl rfl (news_at (cs := #[.slice ra rn rc]) (t := 117) (fr := (0, 0)) (World.alloc_heap_new _ _)) (by simp [Value.oneCell']) (by unfold maxLen; omega) (by omega) (by simp; omega) ?_)
      intro v' w4 hown4 hgrow _
      obtain ⟨va, vc, rfl⟩ := owns_form hown4
      have hmW := (HB2.out.block _ (Array.getElem?_eq_some_iff.1 HM.out).1).trans HM.out
      have hne := row_not_cells HO2.out HG2.out (by decide)
      have hg4 : w4.heap[gb]? = some (.cells (begCells (.slice la ll lc) (.slice (some ⟨tb', off', none⟩) n tc) (.slice fa k fc) false m) 88 (0, 0)) := (hgrow.block gb (by simp; omega) (fun e => hne e.symm)).trans ((Below.heap_alloc _ _ _ (by omega)).trans HG2.out)
      have c3 : w4.cell? ⟨gb, 3, none⟩ = some (.slice fa k fc) := by rw [cell_row hg4]; rfl
      have z3 : w4.frozen? ⟨gb, 3, none⟩ = false := by simp [World.frozen?, hg4]
      have hrr : w2.ownsRow 0 154 2 (.slice ra rn rc) (lookS bt[k] l).length ((lookS bt[k] l).flatMap formCells) := by have h := HR.out; rw [HRn.out] at h ⊢; rw [← HTk.out]; exact h
      have hbeg := beg_step (w := w) HKl.out hkb HGb.out HWm.out HG2.out HO2.out (fun j h1 h2 => ownsRow_below (HF.out j h1 h2) HB2.out) hmW (HB.out.trans (HB2.out.mono HB.out.size)) hrr hgrow hown4
      have HBeg := Lib.hid hbeg
      clear hbeg hrr hg4 hne hmW hown4 hgrow
      go_wp2
      go_roundw
      case rel => exact ⟨k + 1, by omega, by go_num, HBeg.out⟩
      case measure => simp [intOf]; omega
    · obtain rfl : k = n := by omega
      have hBK := HBI.out
      rw [show BegI w (.slice la ll lc) (.slice tka k tc) bt l false m gb k wr = BegI w (.slice la ll lc) (.slice tka k tc) bt l false m gb bt.length wr by rw [← HN.out]] at hBK
      have hpre := beg_pre hBK HL.out HTS.out (by rw [← HN.out]; omega) (by rw [← HLl.out]; exact h100) HT.out HWm.out
      have hpre' := Lib.hid hpre
      have HBK := Lib.hid hBK
      clear hpre hBK HBI
      go_wp2_with (go_at_call 77; refine (rows_any hpre'.out).mono ?_; rintro _ W5 ⟨tv, rfl, hb5, hT⟩; obtain ⟨tb5, rfl, _⟩ := id hT; have HGr := Lib.hid (beg_gram HBK.out HL.out HTS.out (by rw [← HN.out]; omega) (by rw [← HLl.out]; exact h100) HT.out HWm.out HGb.out hb5 hT); have c4 : W5.cell? ⟨gb, 4, none⟩ = some (.slice none 0 0) := (by obtain ⟨_, _, _, hg5, _⟩ := HBK.out.below hb5; rw [cell_row hg5]; rfl); have z4 : W5.frozen? ⟨gb, 4, none⟩ = false := (by obtain ⟨_, _, _, hg5, _⟩ := HBK.out.below hb5; simp [World.frozen?, hg5]); clear hb5 hT)
      go_ret2
      exact ⟨m, gb, rfl, HGr.out.2.1, HGr.out.1, HGr.out.2.2, HWm.out⟩
/-- **What begin returns.** -/
theorem Begin_good (W0 w : World) (ht : Tabs W0 w) (v tv : Value) (l : List Ent) (hl : EntSlice w v l) (h100 : l.length ≤ 100) (hv : validS l = true) (toks : List (List UInt8)) (hts : StrSlice w tv toks) (h24 : toks.length ≤ 24) :
    Calls Tryz.prog 47 #[v, tv] w fun e w' => BeginOk w l (bareS toks) (decide (toks.getLast? = some wDot)) e w' := by
  obtain ⟨ta, tc, rfl⟩ : ∃ ta tc, tv = .slice ta toks.length tc := by obtain ⟨a, c, h, _⟩ := hts; exact ⟨a, c, h⟩
  rcases List.eq_nil_or_concat toks with rfl | ⟨bt0, x, rfl⟩
  · exact Begin_nil W0 w ht v l hl h100 hv ta tc
  · rw [List.concat_eq_append] at hts h24 ⊢
    by_cases hx : x = wDot
    · subst hx
      have h1 : bareS (bt0 ++ [wDot]) = bt0 := by unfold bareS; simp
      have h2 : decide ((bt0 ++ [wDot]).getLast? = some wDot) = true := by simp
      rw [h1, h2]
      rw [List.length_append, List.length_singleton] at hts h24 ⊢
      exact Begin_dot W0 w ht v l hl h100 hv ta tc bt0 hts h24
    · have h1 : bareS (bt0 ++ [x]) = [] := by unfold bareS; simp [hx]
      have h2 : decide ((bt0 ++ [x]).getLast? = some wDot) = false := by simp [hx]
      rw [h1, h2]
      rw [List.length_append, List.length_singleton] at hts h24 ⊢
      exact Begin_other W0 w ht v l hl h100 hv ta tc bt0 x hx hts h24
end Go.Proofs.YthmnffgjckpkiaaGreatDoor
