/-
  A row of parses under a store below it.
-/
import Derived.Test.YthmnffgjckpkiaaGreatDoorGEngI
namespace Go.Proofs.YthmnffgjckpkiaaGreatDoor
open Go Go.RowKit Go.Shelf

theorem ForG.setBelow {B0 : Nat} {v : Value} {ts : List Tr} {k : Nat} {W : World} {a : Addr} (h : ForG B0 v ts k W) (ha : a.block < B0) (u : Value) : ForG B0 v ts k (W.setCell a u) := by
  obtain ⟨qs, L, H, hk, hown, ht, hin, hdis, hrow⟩ := h
  exact ⟨qs, L, H, hk, ownsRow_setCell_below hown ha u, fun j h1 h2 => (ht j h1 h2).move (fun c hc _ _ => Below.heap_setCell _ _ _ _ (by have := (hin j (by omega)).1; omega)), fun j hj => by have := hin j hj; simp; exact this, hdis, fun b hb => by have := hrow b hb; simp; exact this⟩
end Go.Proofs.YthmnffgjckpkiaaGreatDoor
