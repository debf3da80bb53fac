/-
  The contract of 'withArticle' of package english.
-/
import Derived.Test.YthmnffgjckpkiaaGreatDoorJoin
namespace Go.Proofs.YthmnffgjckpkiaaGreatDoor
open Go Go.RowKit Go.Shelf

theorem RowN.nil (B : Nat) (W : World) : RowN B W none 0 0 [] := ⟨rfl, World.ownsRow_nil _ _ _ _⟩
section
variable {W0 w W : World} {o : Option Nat} {T : Nat} {x : Obj} {a : Option Addr} {n c : Nat} {xs : List (List UInt8)}
/-- Behind a call that keeps all that was there. -/
theorem At.later (h : At W0 w o T x W a n c xs) {W' : World} (hb : Below W.heap.size W W') : At W0 w o T x W' a n c xs :=
  ⟨(hb.block T h.lt).trans h.box, h.below.trans (hb.mono h.below.size), grown_chain h.grown (grownBy_of_below hb (row := none)) (fun g hg => by cases hg), ⟨h.row.1, ownsRow_below h.row.2 hb⟩, h.own, h.far⟩
/-- Behind a call that writes into no row that was there. -/
theorem At.beside (h : At W0 w o T x W a n c xs) {W' : World} (hg : W.grownBy W' none) : At W0 w o T x W' a n c xs :=
  ⟨kept_block hg h.box (fun g h => by cases h), h.below.grown hg h.below.size (fun g h => by cases h), grown_chain h.grown hg (fun g hg => by cases hg), h.row.kept hg (fun g h => by cases h), h.own, h.far⟩
end
set_option maxRecDepth 100000 in
set_option maxHeartbeats 4000000 in
/-- **withArticle.** -/
theorem withArticle_any (Wt W0 w : World) (ht : Tabs Wt W0) (l : List Ent) (lv : Value) (y : Tr) (hwy : WOk W0 l lv y) (q : TV) (ov : Value) (xs : List (List UInt8))
    (hv : TreeV (fun _ => True) W0 q.val y) (hb : Below W0.heap.size W0 w) (ho : RowW W0.heap.size w ov xs) (hlen : xs.length + 8 * sizeT y + 4 ≤ 4000) (hoy : okS l y = true) :
    Calls Tryz.prog 91 #[lv, ov, q.val] w (WPost W0.heap.size w ov (xs ++ [articleS ((wordsF l y false).headD [])] ++ wordsF l y false)) := by
  obtain ⟨i0, hi, hz0, hz1, hz2⟩ := info_parts info_str
  obtain ⟨qr, qe, qw, qa, qn, qc⟩ := q
  obtain ⟨va, vn, vc, rfl, hr⟩ := RowN.of ho
  have hly := words_le y hoy false
  have hpos := List.length_pos_iff.2 (words_pos y hoy false)
  have HB := Lib.hid hb
  have HWy := Lib.hid hwy
  have HTv := Lib.hid hv
  have HTt := Lib.hid ht
  have HoB : Go.RowKit.Hid (∀ g, (Value.slice va vn vc).ownBlock = some g → W0.heap.size ≤ g) := Lib.hid (fun g h => (hr.lt h).1)
  have A1 : At W0 w (Value.slice va vn vc).ownBlock w.heap.size (.cells #[.int .u8 qr, .int .i64 qe, .string qw, .slice qa qn qc] 36 (0, 0)) (w.alloc (.cells #[.int .u8 qr, .int .i64 qe, .string qw, .slice qa qn qc] 36)) va vn vc xs := At.start hb hr rfl
  obtain ⟨ws, hws⟩ : ∃ ws, ws = wordsF l y false := ⟨_, rfl⟩
  have hlv : vn + 8 * sizeT y + 4 ≤ 4000 := by rw [hr.1]; exact hlen
  rw [← hws] at hly hpos ⊢
  have HWs := Lib.hid hws
  clear hv hb ho hwy hr ht hws
  unfold TV.val
  go_enter Tryz.func91, Tryz.ntmps91
  go_upto_region 1 with (fail)
  obtain ⟨W1, hW1⟩ : ∃ W1, W1 = w.alloc (.cells #[.int .u8 qr, .int .i64 qe, .string qw, .slice qa qn qc] 36) := ⟨_, rfl⟩
  obtain ⟨T, hT⟩ : ∃ T, T = w.heap.size := ⟨_, rfl⟩
  rw [← hW1, ← hT] at A1
  rw [← hW1, ← hT]
  clear hW1 hT
  have c0 : W1.cell? ⟨T, 0, none⟩ = some (.int .u8 qr) := (cell_rowC A1.box 0).trans rfl
  have c1 : W1.cell? ⟨T, 1, none⟩ = some (.int .i64 qe) := (cell_rowC A1.box 1).trans rfl
  have c2 : W1.cell? ⟨T, 2, none⟩ = some (.string qw) := (cell_rowC A1.box 2).trans rfl
  have c3 : W1.cell? ⟨T, 3, none⟩ = some (.slice qa qn qc) := (cell_rowC A1.box 3).trans rfl
  have HA1 := Lib.hid A1
  have hC := HWy.out W1 ⟨qr, qe, qw, qa, qn, qc⟩ (.slice none 0 0) [] HTv.out A1.below (RowN.nil _ _).row (by simp; omega)
  rw [List.nil_append, ← HWs.out] at hC
  have HC := Lib.hid hC
  clear A1 hC
  go_wp2_with fail
  refine HC.out.mono ?_
  rintro e2 w2 ⟨v2, rfl, hr2, hg2, hn2⟩
  have hg2 : W1.grownBy w2 none := hg2
  have A2 := HA1.out.beside hg2
  obtain ⟨a2, n2, cc2, rfl, hR2⟩ := RowN.of hr2
  have hn2e := hR2.1
  obtain ⟨u, us, hu⟩ : ∃ u us, ws = u :: us := by
    cases ws with
    | nil => simp at hpos
    | cons u us => exact ⟨u, us, rfl⟩
  obtain ⟨g2, rfl⟩ : ∃ g2, a2 = some ⟨g2, 0, none⟩ := by
    rcases hR2.2.2 with ⟨he, h0⟩ | ⟨g, cap, cur, he, _⟩
    · omega
    · cases he; exact ⟨g, rfl⟩
  have hcells : ∀ (j : Nat) (v : Value), (ws.map strVal)[j]? = some v → w2.cell? ((⟨g2, 0, none⟩ : Addr).add j) = some v := fun j v h => hR2.2.cells (g := g2) rfl j v h
  have d0 : w2.cell? ⟨g2, 0, none⟩ = some (.string ⟨u.toArray⟩) := by
    have := hcells 0 (strVal u) (by rw [hu]; rfl)
    simpa [Addr.add, strVal] using this
  have hne2 : ∀ g, (Value.slice va vn vc).ownBlock = some g → g ≠ g2 := fun g h e => by
    rcases hn2 g2 rfl with h1 | h1
    · cases h1
    · have := (HA1.out.row.lt h).2; omega
  have HAr := Lib.hid (fun W => Article_any Wt W)
  obtain ⟨art, hart⟩ : ∃ art, art = articleS u := ⟨_, rfl⟩
  have HCA : Go.RowKit.Hid (Calls Tryz.prog 132 #[.string ⟨u.toArray⟩] w2 fun e w' => e = .returned (.string ⟨art.toArray⟩) ∧ w2 = w') := Lib.hid (by
    have h := HAr.out w2 (HTt.out.next A2.below) ⟨u.toArray⟩
    rw [show ((⟨u.toArray⟩ : ByteArray).data.toList) = u from by simp, ← hart] at h
    exact h)
  have HA2 := Lib.hid A2
  have HR2 := Lib.hid hR2
  have HN2 := Lib.hid hne2
  have HLt := Lib.hid (show g2 < w2.heap.size from cell_lt d0)
  have HCe := Lib.hid hcells
  have hl2 : n2 ≤ 3 * sizeT y := by rw [hn2e]; exact hly
  have HN2e := Lib.hid hn2e
  have hhd : (ws.headD []) = u := by rw [hu]; rfl
  have HHd := Lib.hid hhd
  have HArt := Lib.hid hart
  have b1 : 0 < n2 := by omega
  have b2 : (0 : Int) < (n2 : Int) := by omega
  clear A2 hr2 hR2 hne2 hcells hg2 hn2 hhd hart hu c0 c1 c2 c3 hn2e hly hpos hlen
  have HA2b := HA2.out.alloc (.cells #[.string ⟨art.toArray⟩] 9)
  have HA2c := Lib.hid HA2b
  clear HA2b
  go_wp2_with (first
    | (go_at_call 132; refine HCA.out.mono ?_; rintro r w3 ⟨rfl, h3⟩; rw [← h3]; clear h3 w3)
    | (at_builtin
       refine wpList_append_lies _ rfl (.tmp 11) (.tmp 16) 41 rfl W0.heap.size 9 i0 (.string ByteArray.empty) 1 16 Tryz.underlying41 hi hz0 hz1 hz2 rfl (by decide) _ _ _ rfl HA2c.out.row.2 ⟨w2.heap.size, 0, none⟩ 1 1 [.string ⟨art.toArray⟩] rfl rfl (news_at (World.alloc_heap_new w2 _)) (by simp [Value.oneCell']) (by decide) (by unfold maxLen; omega) (by omega) HA2c.out.below.size _ rfl ?_
       intro g3 c3 w3 ho3 hg3 hat3 _
       have hA3 := HA2c.out.more (m := 1) (ys := [art]) HB.out HoB.out rfl rfl ho3 hg3 hat3 rfl
       have hblk3 : w3.heap[g2]? = w2.heap[g2]? := (hg3.block g2 (by have := HLt.out; simp; omega) (fun e => HN2.out g2 e.symm rfl)).trans (Below.heap_alloc _ _ _ HLt.out)
       have hce3 : ∀ (j : Nat) (v : Value), (ws.map strVal)[j]? = some v → w3.cell? ((⟨g2, 0, none⟩ : Addr).add j) = some v := fun j v h => by
         have h1 := HCe.out j v h
         have e : (⟨g2, 0, none⟩ : Addr).add j = ⟨g2, j, none⟩ := by unfold Addr.add; split <;> simp_all
         rw [e] at h1 ⊢
         exact (World.cell?_of_block (a := ⟨g2, j, none⟩) hblk3).trans h1
       have HA3 := Lib.hid hA3
       have HCe3 := Lib.hid hce3
       clear ho3 hg3 hat3 hA3 hblk3 hce3)
    | (at_builtin
       refine wpList_append_lies _ rfl (.tmp 17) (.tmp 18) 41 rfl W0.heap.size 9 i0 (.string ByteArray.empty) 1 16 Tryz.underlying41 hi hz0 hz1 hz2 rfl (by decide) _ _ _ rfl HA3.out.row.2 ⟨g2, 0, none⟩ n2 cc2 (ws.map strVal) rfl (by rw [List.length_map, HN2e.out, Nat.mul_one]) HCe3.out (fun u hu => by obtain ⟨z, _, rfl⟩ := List.mem_map.1 hu; rfl) b1 (by unfold maxLen; omega) (by omega) HA3.out.below.size _ rfl ?_
       intro g4 c4 w4 ho4 hg4 hat4 _
       have hA4 := HA3.out.more (ys := ws) HB.out HoB.out HN2e.out.symm rfl ho4 hg4 hat4 rfl
       have HA4 := Lib.hid hA4
       clear ho4 hg4 hat4 hA4))
  go_ret
  rw [HHd.out, ← HArt.out]
  exact HA4.out.post rfl
end Go.Proofs.YthmnffgjckpkiaaGreatDoor
