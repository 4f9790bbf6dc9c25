/-
  Many cells of a block stored in a row. No program in sight.
-/
import Derived.Test.YtkmpdobojgiegaaGreatDoorQGround2
import Derived.Laws.Tables
import Derived.Deep.MidRow
namespace Go.Proofs.YtkmpdobojgiegaaGreatDoor
open Go.RowKit

/-- the world with cells of a block stored, from o on -/
def setL (w : World) (g : Nat) : Nat → List Value → World
  | _, [] => w
  | o, v :: vs => setL (w.setCell ⟨g, o, none⟩ v) g (o + 1) vs
/-- a block's cells, stored anew from o on -/
def putL (cs : List Value) : Nat → List Value → List Value
  | _, [] => cs
  | o, v :: vs => putL (cs.set o v) (o + 1) vs
section
variable {S : Nat → Prop} {a b w : World} {g : Nat} {t : TypeId}
theorem Blk.setL_ : ∀ (vs : List Value) {w : World} {cs : List Value} (o : Nat), Blk w g t cs.toArray → Blk (setL w g o vs) g t (putL cs o vs).toArray
  | [], _, _, _, h => h
  | v :: vs, w, cs, o, h => by
    have := h.set_ o v
    rw [List.setIfInBounds_toArray] at this
    exact Blk.setL_ vs (o + 1) this
theorem Keeps.setL_ : ∀ (vs : List Value) {b : World} (o : Nat), Keeps S a b → (g < a.heap.size → S g) → Keeps S a (setL b g o vs)
  | [], _, _, h, _ => h
  | v :: vs, _, o, h, hg => Keeps.setL_ vs (o + 1) (h.setCell (p := ⟨g, o, none⟩) hg v) hg
theorem Keeps.setLN {vs : List Value} {b : World} {o : Nat} (h : Keeps S a b) (hg : a.heap.size ≤ g) : Keeps S a (setL b g o vs) := Keeps.setL_ vs o h (fun hh => absurd hh (by omega))
end
theorem Blk.all10 {w : World} {g : Nat} {t : TypeId} {a0 a1 a2 a3 a4 a5 a6 a7 a8 a9 : Value} (h : Blk w g t #[a0, a1, a2, a3, a4, a5, a6, a7, a8, a9]) : (w.cell? ⟨g, 0, none⟩ = some a0 ∧ w.cell? ⟨g, 1, none⟩ = some a1 ∧ w.cell? ⟨g, 2, none⟩ = some a2 ∧ w.cell? ⟨g, 3, none⟩ = some a3 ∧ w.cell? ⟨g, 4, none⟩ = some a4 ∧ w.cell? ⟨g, 5, none⟩ = some a5 ∧ w.cell? ⟨g, 6, none⟩ = some a6 ∧ w.cell? ⟨g, 7, none⟩ = some a7 ∧ w.cell? ⟨g, 8, none⟩ = some a8 ∧ w.cell? ⟨g, 9, none⟩ = some a9) ∧ w.frozen? ⟨g, 0, none⟩ = false ∧ w.frozen? ⟨g, 1, none⟩ = false ∧ w.frozen? ⟨g, 2, none⟩ = false ∧ w.frozen? ⟨g, 3, none⟩ = false ∧ w.frozen? ⟨g, 4, none⟩ = false ∧ w.frozen? ⟨g, 5, none⟩ = false ∧ w.frozen? ⟨g, 6, none⟩ = false ∧ w.frozen? ⟨g, 7, none⟩ = false ∧ w.frozen? ⟨g, 8, none⟩ = false ∧ w.frozen? ⟨g, 9, none⟩ = false :=
  ⟨⟨h.cell 0, h.cell 1, h.cell 2, h.cell 3, h.cell 4, h.cell 5, h.cell 6, h.cell 7, h.cell 8, h.cell 9⟩, h.frozen 0, h.frozen 1, h.frozen 2, h.frozen 3, h.frozen 4, h.frozen 5, h.frozen 6, h.frozen 7, h.frozen 8, h.frozen 9⟩
theorem Blk.all11 {w : World} {g : Nat} {t : TypeId} {a0 a1 a2 a3 a4 a5 a6 a7 a8 a9 a10 : Value} (h : Blk w g t #[a0, a1, a2, a3, a4, a5, a6, a7, a8, a9, a10]) : (w.cell? ⟨g, 0, none⟩ = some a0 ∧ w.cell? ⟨g, 1, none⟩ = some a1 ∧ w.cell? ⟨g, 2, none⟩ = some a2 ∧ w.cell? ⟨g, 3, none⟩ = some a3 ∧ w.cell? ⟨g, 4, none⟩ = some a4 ∧ w.cell? ⟨g, 5, none⟩ = some a5 ∧ w.cell? ⟨g, 6, none⟩ = some a6 ∧ w.cell? ⟨g, 7, none⟩ = some a7 ∧ w.cell? ⟨g, 8, none⟩ = some a8 ∧ w.cell? ⟨g, 9, none⟩ = some a9 ∧ w.cell? ⟨g, 10, none⟩ = some a10) ∧ w.frozen? ⟨g, 0, none⟩ = false ∧ w.frozen? ⟨g, 1, none⟩ = false ∧ w.frozen? ⟨g, 2, none⟩ = false ∧ w.frozen? ⟨g, 3, none⟩ = false ∧ w.frozen? ⟨g, 4, none⟩ = false ∧ w.frozen? ⟨g, 5, none⟩ = false ∧ w.frozen? ⟨g, 6, none⟩ = false ∧ w.frozen? ⟨g, 7, none⟩ = false ∧ w.frozen? ⟨g, 8, none⟩ = false ∧ w.frozen? ⟨g, 9, none⟩ = false ∧ w.frozen? ⟨g, 10, none⟩ = false :=
  ⟨⟨h.cell 0, h.cell 1, h.cell 2, h.cell 3, h.cell 4, h.cell 5, h.cell 6, h.cell 7, h.cell 8, h.cell 9, h.cell 10⟩, h.frozen 0, h.frozen 1, h.frozen 2, h.frozen 3, h.frozen 4, h.frozen 5, h.frozen 6, h.frozen 7, h.frozen 8, h.frozen 9, h.frozen 10⟩
theorem Blk.range {w : World} {g : Nat} {t : TypeId} {cs : List Value} (h : Blk w g t cs.toArray) : w.rangeAt g 0 cs := fun j v hv => by rw [Nat.zero_add, h.cell j, List.getElem?_toArray, hv]
end Go.Proofs.YtkmpdobojgiegaaGreatDoor
