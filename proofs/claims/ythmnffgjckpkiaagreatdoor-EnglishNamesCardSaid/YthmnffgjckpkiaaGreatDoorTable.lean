/-
  The table of rows in memory: 'rows'.
-/
import Derived.Test.YthmnffgjckpkiaaGreatDoorMake
import Derived.Great.Walk
import Derived.Great.BuildSlice
namespace Go.Proofs.YthmnffgjckpkiaaGreatDoor
open Go Go.RowKit Go.Shelf

theorem next1 {w w' : World} {o : Obj} (hb : Below (w.alloc o).heap.size (w.alloc o) w') : w'.heap[w.heap.size]? = some o ∧ Below w.heap.size w w' :=
  ⟨(hb.block _ (by simp)).trans (heap_at2 rfl), ((Below.refl _ _).alloc (Nat.le_refl _) o).trans (hb.mono (by simp))⟩
theorem next2 {w w' : World} {o o2 : Obj} (hb : Below ((w.alloc o).alloc o2).heap.size ((w.alloc o).alloc o2) w') : w'.heap[w.heap.size]? = some o ∧ w'.heap[w.heap.size + 1]? = some o2 ∧ Below w.heap.size w w' := by
  obtain ⟨h1, h2⟩ := next1 hb
  exact ⟨(h2.block _ (by simp)).trans (heap_at2 rfl), by simpa using h1, ((Below.refl _ _).alloc (Nat.le_refl _) o).trans (h2.mono (by simp))⟩
theorem next3 {w w' : World} {o o2 o3 : Obj} (hb : Below (((w.alloc o).alloc o2).alloc o3).heap.size (((w.alloc o).alloc o2).alloc o3) w') : w'.heap[w.heap.size]? = some o ∧ w'.heap[w.heap.size + 1]? = some o2 ∧ w'.heap[w.heap.size + 1 + 1]? = some o3 ∧ Below w.heap.size w w' := by
  obtain ⟨h1, h2⟩ := next1 hb
  obtain ⟨h3, h4, h5⟩ := next2 h2
  exact ⟨h3, h4, by simpa using h1, h5⟩

/-- The table at the end: the slice, and its rows, wherever field 4 of the grammar is stored besides. -/
def TableOk (m gb : Nat) (g : Gr) (w0 W : World) (v : Value) : Prop := ∃ tb, v = .slice (some ⟨tb, 0, none⟩) 24 24 ∧ w0.heap.size ≤ tb ∧ ∀ j (h : j < (rowsS g).length), ∃ fv pv, MakesOk m gb g W fv (rowsS g)[j].opn ∧ PartsMk m gb W pv (rowsS g)[j].parts ∧
    W.cell? ⟨tb, j * 5, none⟩ = some (.int .u8 (rowsS g)[j].rule) ∧ W.cell? ⟨tb, j * 5 + 1, none⟩ = some (.int .u8 (rowsS g)[j].kind) ∧ W.cell? ⟨tb, j * 5 + 2, none⟩ = some fv ∧ W.cell? ⟨tb, j * 5 + 3, none⟩ = some pv ∧ W.cell? ⟨tb, j * 5 + 4, none⟩ = some (strVal (rowsS g)[j].glue)

noncomputable def zTab : Array Value := (((Tryz.prog.info? 158).bind (·.zero)).map Value.cells).getD #[]

set_option maxRecDepth 100000 in
set_option maxHeartbeats 16000000 in
theorem rows_any {m gb : Nat} {g : Gr} {w0 : World} (hp : Pre m gb g w0) :
    Calls Tryz.prog 77 #[.pointer (some ⟨gb, 0, none⟩)] w0 fun e W' => ∃ v, e = .returned v ∧ Below w0.heap.size w0 W' ∧ TableOk m gb g w0 W' v := by
  have HP0 := Lib.hid hp
  clear hp
  go_enter Tryz.func77, Tryz.ntmps77
  go_wp2_with fail
  refine (says_step HP0.out ((Below.refl _ _).alloc (Nat.le_refl _) _) [wIf] (by simp) _ _ _ (list_1 (a := wIf) (heap_at2 (by simp))) (fun x hx => by cases hx; first | (simp; done) | (simp; omega))).mono ?_
  rintro _ w1 ⟨caps1, rfl, hb1, hp1, ho1⟩
  obtain ⟨q1_0, hbb1⟩ := next1 hb1
  have HB1 := Lib.hid hbb1
  have HP1 := Lib.hid hp1
  have HO1 := Lib.hid ho1
  clear hb1 hp1 ho1 hbb1 q1_0
  go_wp2_with fail
  refine (says_step HP1.out ((Below.refl _ _).alloc (Nat.le_refl _) _) [] (by simp) _ _ _ (list_0 _) (fun x hx => by cases hx)).mono ?_
  rintro _ w2 ⟨caps2, rfl, hb2, hp2, ho2⟩
  obtain ⟨q2_0, hbb2⟩ := next1 hb2
  have HB2 := Lib.hid hbb2
  have HQ0 := Lib.hid (partsMk_2 HP1.out (a := 1) (c := 1) (by omega) q2_0)
  have HP2 := Lib.hid hp2
  have HO2 := Lib.hid ho2
  clear hb2 hp2 ho2 hbb2 q2_0
  go_wp2_with fail
  refine (says_step HP2.out ((Below.refl _ _).alloc (Nat.le_refl _) _) [] (by simp) _ _ _ (list_0 _) (fun x hx => by cases hx)).mono ?_
  rintro _ w3 ⟨caps3, rfl, hb3, hp3, ho3⟩
  obtain ⟨q3_0, hbb3⟩ := next1 hb3
  have HB3 := Lib.hid hbb3
  have HQ1 := Lib.hid (partsMk_2 HP2.out (a := 1) (c := 1) (by omega) q3_0)
  have HP3 := Lib.hid hp3
  have HO3 := Lib.hid ho3
  clear hb3 hp3 ho3 hbb3 q3_0
  go_wp2_with fail
  refine (says_step HP3.out ((Below.refl _ _).alloc (Nat.le_refl _) _) [] (by simp) _ _ _ (list_0 _) (fun x hx => by cases hx)).mono ?_
  rintro _ w4 ⟨caps4, rfl, hb4, hp4, ho4⟩
  obtain ⟨q4_0, hbb4⟩ := next1 hb4
  have HB4 := Lib.hid hbb4
  have HQ2 := Lib.hid (partsMk_2 HP3.out (a := 1) (c := 1) (by omega) q4_0)
  have HP4 := Lib.hid hp4
  have HO4 := Lib.hid ho4
  clear hb4 hp4 ho4 hbb4 q4_0
  go_wp2_with fail
  refine (says_step HP4.out ((Below.refl _ _).alloc (Nat.le_refl _) _) [] (by simp) _ _ _ (list_0 _) (fun x hx => by cases hx)).mono ?_
  rintro _ w5 ⟨caps5, rfl, hb5, hp5, ho5⟩
  obtain ⟨q5_0, hbb5⟩ := next1 hb5
  have HB5 := Lib.hid hbb5
  have HQ3 := Lib.hid (partsMk_2 HP4.out (a := 1) (c := 1) (by omega) q5_0)
  have HP5 := Lib.hid hp5
  have HO5 := Lib.hid ho5
  clear hb5 hp5 ho5 hbb5 q5_0
  go_wp2_with fail
  refine (entry_step HP5.out ((Below.refl _ _).alloc (Nat.le_refl _) _) 3 false).mono ?_
  rintro _ w6 ⟨caps6, rfl, hb6, hp6, ho6⟩
  obtain ⟨q6_0, hbb6⟩ := next1 hb6
  have HB6 := Lib.hid hbb6
  have HQ4 := Lib.hid (partsMk_2 HP5.out (a := 2) (c := 4) (by omega) q6_0)
  have HP6 := Lib.hid hp6
  have HO6 := Lib.hid ho6
  clear hb6 hp6 ho6 hbb6 q6_0
  go_wp2_with fail
  refine (entry_step HP6.out ((Below.refl _ _).alloc (Nat.le_refl _) _) 1 false).mono ?_
  rintro _ w7 ⟨caps7, rfl, hb7, hp7, ho7⟩
  obtain ⟨q7_0, hbb7⟩ := next1 hb7
  have HB7 := Lib.hid hbb7
  have HQ6 := Lib.hid (partsMk_1 HP6.out (a := 3) (by omega) q7_0)
  have HP7 := Lib.hid hp7
  have HO7 := Lib.hid ho7
  clear hb7 hp7 ho7 hbb7 q7_0
  go_wp2_with fail
  refine (entry_step HP7.out (Below.refl _ _) 2 false).mono ?_
  rintro _ w8 ⟨caps8, rfl, hb8, hp8, ho8⟩
  have HB8 := Lib.hid hb8
  have HP8 := Lib.hid hp8
  have HO8 := Lib.hid ho8
  clear hb8 hp8 ho8
  go_wp2_with fail
  refine (entry_step HP8.out ((((Below.refl _ _).alloc (Nat.le_refl _) _).alloc (by simp) _).alloc (by simp; omega) _) 4 true).mono ?_
  rintro _ w9 ⟨caps9, rfl, hb9, hp9, ho9⟩
  obtain ⟨q9_0, q9_1, q9_2, hbb9⟩ := next3 hb9
  have HB9 := Lib.hid hbb9
  have HQ8 := Lib.hid (partsMk_1 HP8.out (a := 3) (by omega) q9_0)
  have HQ9 := Lib.hid (partsMk_1 HP8.out (a := 4) (by omega) q9_1)
  have HQ10 := Lib.hid (partsMk_2 HP8.out (a := 2) (c := 5) (by omega) q9_2)
  have HP9 := Lib.hid hp9
  have HO9 := Lib.hid ho9
  clear hb9 hp9 ho9 hbb9 q9_0 q9_1 q9_2
  go_wp2_with fail
  refine (entry_step HP9.out (Below.refl _ _) 4 false).mono ?_
  rintro _ w10 ⟨caps10, rfl, hb10, hp10, ho10⟩
  have HB10 := Lib.hid hb10
  have HP10 := Lib.hid hp10
  have HO10 := Lib.hid ho10
  clear hb10 hp10 ho10
  go_wp2_with fail
  refine (entry_step HP10.out (Below.refl _ _) 5 true).mono ?_
  rintro _ w11 ⟨caps11, rfl, hb11, hp11, ho11⟩
  have HB11 := Lib.hid hb11
  have HP11 := Lib.hid hp11
  have HO11 := Lib.hid ho11
  clear hb11 hp11 ho11
  go_wp2_with fail
  refine (entry_step HP11.out ((Below.refl _ _).alloc (Nat.le_refl _) _) 5 false).mono ?_
  rintro _ w12 ⟨caps12, rfl, hb12, hp12, ho12⟩
  obtain ⟨q12_0, hbb12⟩ := next1 hb12
  have HB12 := Lib.hid hbb12
  have HQ13 := Lib.hid (partsMk_1 HP11.out (a := 2) (by omega) q12_0)
  have HP12 := Lib.hid hp12
  have HO12 := Lib.hid ho12
  clear hb12 hp12 ho12 hbb12 q12_0
  go_wp2_with fail
  refine (entry_step HP12.out ((Below.refl _ _).alloc (Nat.le_refl _) _) 2 false).mono ?_
  rintro _ w13 ⟨caps13, rfl, hb13, hp13, ho13⟩
  obtain ⟨q13_0, hbb13⟩ := next1 hb13
  have HB13 := Lib.hid hbb13
  have HQ14 := Lib.hid (partsMk_1 HP12.out (a := 2) (by omega) q13_0)
  have HP13 := Lib.hid hp13
  have HO13 := Lib.hid ho13
  clear hb13 hp13 ho13 hbb13 q13_0
  go_wp2_with fail
  refine (behind_step HP13.out (Below.refl _ _) wIs _ rfl _ _ _ _ HO13.out).mono ?_
  rintro _ w14 ⟨caps14, rfl, hb14, hp14, ho14⟩
  have HB14 := Lib.hid hb14
  have HP14 := Lib.hid hp14
  have HO14 := Lib.hid ho14
  clear hb14 hp14 ho14
  go_wp2_with fail
  refine (entry_step HP14.out (Below.refl _ _) 2 false).mono ?_
  rintro _ w15 ⟨caps15, rfl, hb15, hp15, ho15⟩
  have HB15 := Lib.hid hb15
  have HP15 := Lib.hid hp15
  have HO15 := Lib.hid ho15
  clear hb15 hp15 ho15
  go_wp2_with fail
  refine (behind_step HP15.out (Below.refl _ _) wIs _ rfl _ _ _ _ (fun W hB hP => article_ok hP)).mono ?_
  rintro _ w16 ⟨caps16, rfl, hb16, hp16, ho16⟩
  have HB16 := Lib.hid hb16
  have HP16 := Lib.hid hp16
  have HO16 := Lib.hid ho16
  clear hb16 hp16 ho16
  go_wp2_with fail
  refine (says_step HP16.out ((((Below.refl _ _).alloc (Nat.le_refl _) _).alloc (by simp) _).alloc (by simp; omega) _) [wDoes, wNot] (by simp) _ _ _ (list_2 (a := wDoes) (c := wNot) (heap_at2 (by simp))) (fun x hx => by cases hx; first | (simp; done) | (simp; omega))).mono ?_
  rintro _ w17 ⟨caps17, rfl, hb17, hp17, ho17⟩
  obtain ⟨q17_0, q17_1, q17_2, hbb17⟩ := next3 hb17
  have HB17 := Lib.hid hbb17
  have HQ17 := Lib.hid (partsMk_1 HP16.out (a := 3) (by omega) q17_0)
  have HQ18 := Lib.hid (partsMk_1 HP16.out (a := 3) (by omega) q17_1)
  have HP17 := Lib.hid hp17
  have HO17 := Lib.hid ho17
  clear hb17 hp17 ho17 hbb17 q17_0 q17_1 q17_2
  go_wp2_with fail
  refine (says_step HP17.out (((Below.refl _ _).alloc (Nat.le_refl _) _).alloc (by simp) _) [wIs, wNot] (by simp) _ _ _ (list_2 (a := wIs) (c := wNot) (heap_at2 (by simp))) (fun x hx => by cases hx; first | (simp; done) | (simp; omega))).mono ?_
  rintro _ w18 ⟨caps18, rfl, hb18, hp18, ho18⟩
  obtain ⟨q18_0, q18_1, hbb18⟩ := next2 hb18
  have HB18 := Lib.hid hbb18
  have HQ19 := Lib.hid (partsMk_1 HP17.out (a := 6) (by omega) q18_0)
  have HP18 := Lib.hid hp18
  have HO18 := Lib.hid ho18
  clear hb18 hp18 ho18 hbb18 q18_0 q18_1
  go_wp2_with fail
  refine (says_step HP18.out ((Below.refl _ _).alloc (Nat.le_refl _) _) [] (by simp) _ _ _ (list_0 _) (fun x hx => by cases hx)).mono ?_
  rintro _ w19 ⟨caps19, rfl, hb19, hp19, ho19⟩
  obtain ⟨q19_0, hbb19⟩ := next1 hb19
  have HB19 := Lib.hid hbb19
  have HQ20 := Lib.hid (partsMk_1 HP18.out (a := 7) (by omega) q19_0)
  have HP19 := Lib.hid hp19
  have HO19 := Lib.hid ho19
  clear hb19 hp19 ho19 hbb19 q19_0
  go_wp2_with fail
  refine (says_step HP19.out ((Below.refl _ _).alloc (Nat.le_refl _) _) [] (by simp) _ _ _ (list_0 _) (fun x hx => by cases hx)).mono ?_
  rintro _ w20 ⟨caps20, rfl, hb20, hp20, ho20⟩
  obtain ⟨q20_0, hbb20⟩ := next1 hb20
  have HB20 := Lib.hid hbb20
  have HQ21 := Lib.hid (partsMk_2 HP19.out (a := 4) (c := 4) (by omega) q20_0)
  have HP20 := Lib.hid hp20
  have HO20 := Lib.hid ho20
  clear hb20 hp20 ho20 hbb20 q20_0
  go_wp2_with fail
  refine (entry_step HP20.out ((Below.refl _ _).alloc (Nat.le_refl _) _) 5 true).mono ?_
  rintro _ w21 ⟨caps21, rfl, hb21, hp21, ho21⟩
  obtain ⟨q21_0, hbb21⟩ := next1 hb21
  have HB21 := Lib.hid hbb21
  have HQ22 := Lib.hid (partsMk_2 HP20.out (a := 4) (c := 4) (by omega) q21_0)
  have HP21 := Lib.hid hp21
  have HO21 := Lib.hid ho21
  clear hb21 hp21 ho21 hbb21 q21_0
  obtain ⟨cells, hcells⟩ : ∃ cells : Array Value, cells = #[.int .u8 1, .int .u8 1, .func (.func 155) #[] caps1, .slice (some ⟨w1.heap.size, 0, none⟩) 2 2, .string ⟨#[116, 104, 101, 110]⟩, .int .u8 2, .int .u8 1, .func (.func 155) #[] caps2, .slice (some ⟨w2.heap.size, 0, none⟩) 2 2, .string ⟨#[105, 102, 102]⟩, .int .u8 3, .int .u8 1, .func (.func 155) #[] caps3, .slice (some ⟨w3.heap.size, 0, none⟩) 2 2, .string ⟨#[111, 114]⟩, .int .u8 4, .int .u8 1, .func (.func 155) #[] caps4, .slice (some ⟨w4.heap.size, 0, none⟩) 2 2, .string ⟨#[97, 110, 100]⟩, .int .u8 5, .int .u8 1, .func (.func 155) #[] caps5, .slice (some ⟨w5.heap.size, 0, none⟩) 2 2, .string ⟨#[]⟩, .int .u8 6, .int .u8 2, .func (.func 157) #[] caps6, .slice none 0 0, .string ⟨#[]⟩, .int .u8 7, .int .u8 2, .func (.func 118) #[.pointer (some ⟨gb, 0, none⟩)] #[], .slice (some ⟨w6.heap.size, 0, none⟩) 1 1, .string ⟨#[]⟩, .int .u8 8, .int .u8 3, .func (.func 157) #[] caps7, .slice none 0 0, .string ⟨#[]⟩, .int .u8 9, .int .u8 3, .func (.func 157) #[] caps8, .slice (some ⟨w8.heap.size, 0, none⟩) 1 1, .string ⟨#[]⟩, .int .u8 10, .int .u8 3, .func (.func 119) #[.pointer (some ⟨gb, 0, none⟩)] #[], .slice (some ⟨w8.heap.size + 1, 0, none⟩) 1 1, .string ⟨#[]⟩, .int .u8 11, .int .u8 3, .func (.func 119) #[.pointer (some ⟨gb, 0, none⟩)] #[], .slice (some ⟨w8.heap.size + 1 + 1, 0, none⟩) 2 2, .string ⟨#[]⟩, .int .u8 12, .int .u8 4, .func (.func 157) #[] caps9, .slice none 0 0, .string ⟨#[]⟩, .int .u8 12, .int .u8 6, .func (.func 157) #[] caps10, .slice none 0 0, .string ⟨#[]⟩, .int .u8 13, .int .u8 4, .func (.func 157) #[] caps11, .slice (some ⟨w11.heap.size, 0, none⟩) 1 1, .string ⟨#[]⟩, .int .u8 13, .int .u8 6, .func (.func 157) #[] caps12, .slice (some ⟨w12.heap.size, 0, none⟩) 1 1, .string ⟨#[]⟩, .int .u8 14, .int .u8 4, .func (.func 158) #[] caps14, .slice none 0 0, .string ⟨#[]⟩, .int .u8 14, .int .u8 7, .func (.func 157) #[] caps15, .slice none 0 0, .string ⟨#[]⟩, .int .u8 15, .int .u8 4, .func (.func 158) #[] caps16, .slice (some ⟨w16.heap.size, 0, none⟩) 1 1, .string ⟨#[]⟩, .int .u8 15, .int .u8 7, .func (.func 121) #[.pointer (some ⟨gb, 0, none⟩)] #[], .slice (some ⟨w16.heap.size + 1, 0, none⟩) 1 1, .string ⟨#[]⟩, .int .u8 16, .int .u8 4, .func (.func 155) #[] caps17, .slice (some ⟨w17.heap.size, 0, none⟩) 1 1, .string ⟨#[]⟩, .int .u8 16, .int .u8 4, .func (.func 155) #[] caps18, .slice (some ⟨w18.heap.size, 0, none⟩) 1 1, .string ⟨#[]⟩, .int .u8 17, .int .u8 4, .func (.func 155) #[] caps19, .slice (some ⟨w19.heap.size, 0, none⟩) 2 2, .string ⟨#[111, 114]⟩, .int .u8 18, .int .u8 4, .func (.func 155) #[] caps20, .slice (some ⟨w20.heap.size, 0, none⟩) 2 2, .string ⟨#[97, 110, 100]⟩, .int .u8 19, .int .u8 5, .func (.func 157) #[] caps21, .slice none 0 0, .string ⟨#[]⟩] := ⟨_, rfl⟩
  have HCells := Lib.hid hcells
  have hsz : cells.size = 120 := by rw [hcells]; rfl
  have hone : cells.all (·.oneCell') = true := by rw [hcells]; simp [Value.oneCell']
  rename_i hK
  refine hK _ _ ?_
  refine wpList_buildTo rfl 124 _ rfl (some 99) rfl #[.int .u8 19, .int .u8 5, .func (.func 157) #[] caps21, .slice none 0 0, .string ⟨#[]⟩] (by kernel_rfl) ?_
  refine wpList_buildTo rfl 158 _ rfl (some 100) rfl cells (by rw [hcells]; kernel_rfl) ?_
  refine Great.wpList_allocTo rfl (some 3) rfl (.pointer (some ⟨w21.heap.size, 0, none⟩)) (.cells zTab 158) (by kernel_rfl) ?_
  refine wpList_store_rowTo rfl 158 _ _ rfl rfl w21.heap.size cells (by kernel_rfl) (by kernel_rfl) 158 zTab (heap_at2 rfl) (by rw [hsz]; kernel_rfl) (by rw [hsz]; kernel_rfl) hone ?_
  obtain ⟨wE, hwE⟩ : ∃ wE, wE = (w21.alloc (.cells zTab 158)).setRow w21.heap.size cells := ⟨_, rfl⟩
  rw [← hwE]
  have hrowE : wE.heap[w21.heap.size]? = some (.cells cells 158 (0, 0)) := by rw [hwE]; exact setRow_heap _ _ zTab _ _ _ (heap_at2 rfl)
  have B21 : Below w21.heap.size w21 wE := by rw [hwE]; exact ((Below.refl _ _).alloc (Nat.le_refl _) _).trans ⟨rfl, rfl, rfl, by simp, fun k hk => setRow_other _ _ _ _ (by omega)⟩
  have B20 : Below w20.heap.size w20 wE := HB21.out.trans (B21.mono HB21.out.size)
  have B19 : Below w19.heap.size w19 wE := HB20.out.trans (B20.mono HB20.out.size)
  have B18 : Below w18.heap.size w18 wE := HB19.out.trans (B19.mono HB19.out.size)
  have B17 : Below w17.heap.size w17 wE := HB18.out.trans (B18.mono HB18.out.size)
  have B16 : Below w16.heap.size w16 wE := HB17.out.trans (B17.mono HB17.out.size)
  have B15 : Below w15.heap.size w15 wE := HB16.out.trans (B16.mono HB16.out.size)
  have B14 : Below w14.heap.size w14 wE := HB15.out.trans (B15.mono HB15.out.size)
  have B13 : Below w13.heap.size w13 wE := HB14.out.trans (B14.mono HB14.out.size)
  have B12 : Below w12.heap.size w12 wE := HB13.out.trans (B13.mono HB13.out.size)
  have B11 : Below w11.heap.size w11 wE := HB12.out.trans (B12.mono HB12.out.size)
  have B10 : Below w10.heap.size w10 wE := HB11.out.trans (B11.mono HB11.out.size)
  have B9 : Below w9.heap.size w9 wE := HB10.out.trans (B10.mono HB10.out.size)
  have B8 : Below w8.heap.size w8 wE := HB9.out.trans (B9.mono HB9.out.size)
  have B7 : Below w7.heap.size w7 wE := HB8.out.trans (B8.mono HB8.out.size)
  have B6 : Below w6.heap.size w6 wE := HB7.out.trans (B7.mono HB7.out.size)
  have B5 : Below w5.heap.size w5 wE := HB6.out.trans (B6.mono HB6.out.size)
  have B4 : Below w4.heap.size w4 wE := HB5.out.trans (B5.mono HB5.out.size)
  have B3 : Below w3.heap.size w3 wE := HB4.out.trans (B4.mono HB4.out.size)
  have B2 : Below w2.heap.size w2 wE := HB3.out.trans (B3.mono HB3.out.size)
  have B1 : Below w1.heap.size w1 wE := HB2.out.trans (B2.mono HB2.out.size)
  have B0 : Below w0.heap.size w0 wE := HB1.out.trans (B1.mono HB1.out.size)
  have hSz21 : w0.heap.size ≤ w21.heap.size := Nat.le_trans (Nat.le_trans (Nat.le_trans (Nat.le_trans (Nat.le_trans (Nat.le_trans (Nat.le_trans (Nat.le_trans (Nat.le_trans (Nat.le_trans (Nat.le_trans (Nat.le_trans (Nat.le_trans (Nat.le_trans (Nat.le_trans (Nat.le_trans (Nat.le_trans (Nat.le_trans (Nat.le_trans (Nat.le_trans (HB1.out.size) HB2.out.size) HB3.out.size) HB4.out.size) HB5.out.size) HB6.out.size) HB7.out.size) HB8.out.size) HB9.out.size) HB10.out.size) HB11.out.size) HB12.out.size) HB13.out.size) HB14.out.size) HB15.out.size) HB16.out.size) HB17.out.size) HB18.out.size) HB19.out.size) HB20.out.size) HB21.out.size
  have HTab : Hid (TableOk m gb g w0 wE (.slice (some ⟨w21.heap.size, 0, none⟩) 24 24)) := by
    have cellE : ∀ (k : Nat) (v : Value), cells[k]? = some v → wE.cell? ⟨w21.heap.size, k, none⟩ = some v := fun k v h => (cell_of_row _ _ _ _ _ _ hrowE).trans h
    refine ⟨w21.heap.size, rfl, hSz21, fun j hj => ?_⟩
    rw [rowsS_len] at hj
    rcases j with _ | j
    · exact ⟨.func (.func 155) #[] caps1, .slice (some ⟨w1.heap.size, 0, none⟩) 2 2, HO1.out.later B1, HQ0.out.later B2, cellE _ _ (by rw [hcells]; rfl), cellE _ _ (by rw [hcells]; rfl), cellE _ _ (by rw [hcells]; rfl), cellE _ _ (by rw [hcells]; rfl), cellE _ _ (by rw [hcells]; rfl)⟩
    rcases j with _ | j
    · exact ⟨.func (.func 155) #[] caps2, .slice (some ⟨w2.heap.size, 0, none⟩) 2 2, HO2.out.later B2, HQ1.out.later B3, cellE _ _ (by rw [hcells]; rfl), cellE _ _ (by rw [hcells]; rfl), cellE _ _ (by rw [hcells]; rfl), cellE _ _ (by rw [hcells]; rfl), cellE _ _ (by rw [hcells]; rfl)⟩
    rcases j with _ | j
    · exact ⟨.func (.func 155) #[] caps3, .slice (some ⟨w3.heap.size, 0, none⟩) 2 2, HO3.out.later B3, HQ2.out.later B4, cellE _ _ (by rw [hcells]; rfl), cellE _ _ (by rw [hcells]; rfl), cellE _ _ (by rw [hcells]; rfl), cellE _ _ (by rw [hcells]; rfl), cellE _ _ (by rw [hcells]; rfl)⟩
    rcases j with _ | j
    · exact ⟨.func (.func 155) #[] caps4, .slice (some ⟨w4.heap.size, 0, none⟩) 2 2, HO4.out.later B4, HQ3.out.later B5, cellE _ _ (by rw [hcells]; rfl), cellE _ _ (by rw [hcells]; rfl), cellE _ _ (by rw [hcells]; rfl), cellE _ _ (by rw [hcells]; rfl), cellE _ _ (by rw [hcells]; rfl)⟩
    rcases j with _ | j
    · exact ⟨.func (.func 155) #[] caps5, .slice (some ⟨w5.heap.size, 0, none⟩) 2 2, HO5.out.later B5, HQ4.out.later B6, cellE _ _ (by rw [hcells]; rfl), cellE _ _ (by rw [hcells]; rfl), cellE _ _ (by rw [hcells]; rfl), cellE _ _ (by rw [hcells]; rfl), cellE _ _ (by rw [hcells]; rfl)⟩
    rcases j with _ | j
    · exact ⟨.func (.func 157) #[] caps6, .slice none 0 0, HO6.out.later B6, partsMk_0 _ _ _, cellE _ _ (by rw [hcells]; rfl), cellE _ _ (by rw [hcells]; rfl), cellE _ _ (by rw [hcells]; rfl), cellE _ _ (by rw [hcells]; rfl), cellE _ _ (by rw [hcells]; rfl)⟩
    rcases j with _ | j
    · exact ⟨.func (.func 118) #[.pointer (some ⟨gb, 0, none⟩)] #[], .slice (some ⟨w6.heap.size, 0, none⟩) 1 1, (fun W hB hP => determiner_ok hP), HQ6.out.later B7, cellE _ _ (by rw [hcells]; rfl), cellE _ _ (by rw [hcells]; rfl), cellE _ _ (by rw [hcells]; rfl), cellE _ _ (by rw [hcells]; rfl), cellE _ _ (by rw [hcells]; rfl)⟩
    rcases j with _ | j
    · exact ⟨.func (.func 157) #[] caps7, .slice none 0 0, HO7.out.later B7, partsMk_0 _ _ _, cellE _ _ (by rw [hcells]; rfl), cellE _ _ (by rw [hcells]; rfl), cellE _ _ (by rw [hcells]; rfl), cellE _ _ (by rw [hcells]; rfl), cellE _ _ (by rw [hcells]; rfl)⟩
    rcases j with _ | j
    · exact ⟨.func (.func 157) #[] caps8, .slice (some ⟨w8.heap.size, 0, none⟩) 1 1, HO8.out.later B8, HQ8.out.later B9, cellE _ _ (by rw [hcells]; rfl), cellE _ _ (by rw [hcells]; rfl), cellE _ _ (by rw [hcells]; rfl), cellE _ _ (by rw [hcells]; rfl), cellE _ _ (by rw [hcells]; rfl)⟩
    rcases j with _ | j
    · exact ⟨.func (.func 119) #[.pointer (some ⟨gb, 0, none⟩)] #[], .slice (some ⟨w8.heap.size + 1, 0, none⟩) 1 1, (fun W hB hP => relative_ok hP), HQ9.out.later B9, cellE _ _ (by rw [hcells]; rfl), cellE _ _ (by rw [hcells]; rfl), cellE _ _ (by rw [hcells]; rfl), cellE _ _ (by rw [hcells]; rfl), cellE _ _ (by rw [hcells]; rfl)⟩
    rcases j with _ | j
    · exact ⟨.func (.func 119) #[.pointer (some ⟨gb, 0, none⟩)] #[], .slice (some ⟨w8.heap.size + 1 + 1, 0, none⟩) 2 2, (fun W hB hP => relative_ok hP), HQ10.out.later B9, cellE _ _ (by rw [hcells]; rfl), cellE _ _ (by rw [hcells]; rfl), cellE _ _ (by rw [hcells]; rfl), cellE _ _ (by rw [hcells]; rfl), cellE _ _ (by rw [hcells]; rfl)⟩
    rcases j with _ | j
    · exact ⟨.func (.func 157) #[] caps9, .slice none 0 0, HO9.out.later B9, partsMk_0 _ _ _, cellE _ _ (by rw [hcells]; rfl), cellE _ _ (by rw [hcells]; rfl), cellE _ _ (by rw [hcells]; rfl), cellE _ _ (by rw [hcells]; rfl), cellE _ _ (by rw [hcells]; rfl)⟩
    rcases j with _ | j
    · exact ⟨.func (.func 157) #[] caps10, .slice none 0 0, HO10.out.later B10, partsMk_0 _ _ _, cellE _ _ (by rw [hcells]; rfl), cellE _ _ (by rw [hcells]; rfl), cellE _ _ (by rw [hcells]; rfl), cellE _ _ (by rw [hcells]; rfl), cellE _ _ (by rw [hcells]; rfl)⟩
    rcases j with _ | j
    · exact ⟨.func (.func 157) #[] caps11, .slice (some ⟨w11.heap.size, 0, none⟩) 1 1, HO11.out.later B11, HQ13.out.later B12, cellE _ _ (by rw [hcells]; rfl), cellE _ _ (by rw [hcells]; rfl), cellE _ _ (by rw [hcells]; rfl), cellE _ _ (by rw [hcells]; rfl), cellE _ _ (by rw [hcells]; rfl)⟩
    rcases j with _ | j
    · exact ⟨.func (.func 157) #[] caps12, .slice (some ⟨w12.heap.size, 0, none⟩) 1 1, HO12.out.later B12, HQ14.out.later B13, cellE _ _ (by rw [hcells]; rfl), cellE _ _ (by rw [hcells]; rfl), cellE _ _ (by rw [hcells]; rfl), cellE _ _ (by rw [hcells]; rfl), cellE _ _ (by rw [hcells]; rfl)⟩
    rcases j with _ | j
    · exact ⟨.func (.func 158) #[] caps14, .slice none 0 0, HO14.out.later B14, partsMk_0 _ _ _, cellE _ _ (by rw [hcells]; rfl), cellE _ _ (by rw [hcells]; rfl), cellE _ _ (by rw [hcells]; rfl), cellE _ _ (by rw [hcells]; rfl), cellE _ _ (by rw [hcells]; rfl)⟩
    rcases j with _ | j
    · exact ⟨.func (.func 157) #[] caps15, .slice none 0 0, HO15.out.later B15, partsMk_0 _ _ _, cellE _ _ (by rw [hcells]; rfl), cellE _ _ (by rw [hcells]; rfl), cellE _ _ (by rw [hcells]; rfl), cellE _ _ (by rw [hcells]; rfl), cellE _ _ (by rw [hcells]; rfl)⟩
    rcases j with _ | j
    · exact ⟨.func (.func 158) #[] caps16, .slice (some ⟨w16.heap.size, 0, none⟩) 1 1, HO16.out.later B16, HQ17.out.later B17, cellE _ _ (by rw [hcells]; rfl), cellE _ _ (by rw [hcells]; rfl), cellE _ _ (by rw [hcells]; rfl), cellE _ _ (by rw [hcells]; rfl), cellE _ _ (by rw [hcells]; rfl)⟩
    rcases j with _ | j
    · exact ⟨.func (.func 121) #[.pointer (some ⟨gb, 0, none⟩)] #[], .slice (some ⟨w16.heap.size + 1, 0, none⟩) 1 1, (fun W hB hP => article_ok hP), HQ18.out.later B17, cellE _ _ (by rw [hcells]; rfl), cellE _ _ (by rw [hcells]; rfl), cellE _ _ (by rw [hcells]; rfl), cellE _ _ (by rw [hcells]; rfl), cellE _ _ (by rw [hcells]; rfl)⟩
    rcases j with _ | j
    · exact ⟨.func (.func 155) #[] caps17, .slice (some ⟨w17.heap.size, 0, none⟩) 1 1, HO17.out.later B17, HQ19.out.later B18, cellE _ _ (by rw [hcells]; rfl), cellE _ _ (by rw [hcells]; rfl), cellE _ _ (by rw [hcells]; rfl), cellE _ _ (by rw [hcells]; rfl), cellE _ _ (by rw [hcells]; rfl)⟩
    rcases j with _ | j
    · exact ⟨.func (.func 155) #[] caps18, .slice (some ⟨w18.heap.size, 0, none⟩) 1 1, HO18.out.later B18, HQ20.out.later B19, cellE _ _ (by rw [hcells]; rfl), cellE _ _ (by rw [hcells]; rfl), cellE _ _ (by rw [hcells]; rfl), cellE _ _ (by rw [hcells]; rfl), cellE _ _ (by rw [hcells]; rfl)⟩
    rcases j with _ | j
    · exact ⟨.func (.func 155) #[] caps19, .slice (some ⟨w19.heap.size, 0, none⟩) 2 2, HO19.out.later B19, HQ21.out.later B20, cellE _ _ (by rw [hcells]; rfl), cellE _ _ (by rw [hcells]; rfl), cellE _ _ (by rw [hcells]; rfl), cellE _ _ (by rw [hcells]; rfl), cellE _ _ (by rw [hcells]; rfl)⟩
    rcases j with _ | j
    · exact ⟨.func (.func 155) #[] caps20, .slice (some ⟨w20.heap.size, 0, none⟩) 2 2, HO20.out.later B20, HQ22.out.later B21, cellE _ _ (by rw [hcells]; rfl), cellE _ _ (by rw [hcells]; rfl), cellE _ _ (by rw [hcells]; rfl), cellE _ _ (by rw [hcells]; rfl), cellE _ _ (by rw [hcells]; rfl)⟩
    rcases j with _ | j
    · exact ⟨.func (.func 157) #[] caps21, .slice none 0 0, HO21.out.later B21, partsMk_0 _ _ _, cellE _ _ (by rw [hcells]; rfl), cellE _ _ (by rw [hcells]; rfl), cellE _ _ (by rw [hcells]; rfl), cellE _ _ (by rw [hcells]; rfl), cellE _ _ (by rw [hcells]; rfl)⟩
    omega
  have HBE := Lib.hid B0
  clear hcells hsz hone hrowE hSz21 hwE B0 B1 B2 B3 B4 B5 B6 B7 B8 B9 B10 B11 B12 B13 B14 B15 B16 B17 B18 B19 B20 B21
  go_wp2
  go_ret
  exact ⟨_, rfl, HBE.out, HTab.out⟩
end Go.Proofs.YthmnffgjckpkiaaGreatDoor
