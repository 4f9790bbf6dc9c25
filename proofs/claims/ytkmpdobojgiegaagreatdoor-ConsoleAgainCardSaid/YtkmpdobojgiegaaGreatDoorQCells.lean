/-
  Many cells of a block stored in a row. No program in sight.
-/
import Derived.Test.YtkmpdobojgiegaaGreatDoorQGround3
namespace Go.Proofs.YtkmpdobojgiegaaGreatDoor
open Go.RowKit

/-- the world with cells of a block stored, from o on -/
def setL (w : World) (g : Nat) : Nat → List Value → World
  | _, [] => w
  | o, v :: vs => setL (w.setCell ⟨g, o, none⟩ v) g (o + 1) vs
/-- a block's cells, stored anew from o on -/
def putL (cs : List Value) : Nat → List Value → List Value
  | _, [] => cs
  | o, v :: vs => putL (cs.set o v) (o + 1) vs
section
variable {S : Nat → Prop} {a b w : World} {g : Nat} {t : TypeId}
theorem Blk.setL_ : ∀ (vs : List Value) {w : World} {cs : List Value} (o : Nat), Blk w g t cs.toArray → Blk (setL w g o vs) g t (putL cs o vs).toArray
  | [], _, _, _, h => h
  | v :: vs, w, cs, o, h => by
    have := h.set_ o v
    rw [List.setIfInBounds_toArray] at this
    exact Blk.setL_ vs (o + 1) this
theorem Keeps.setL_ : ∀ (vs : List Value) {b : World} (o : Nat), Keeps S a b → (g < a.heap.size → S g) → Keeps S a (setL b g o vs)
  | [], _, _, h, _ => h
  | v :: vs, _, o, h, hg => Keeps.setL_ vs (o + 1) (h.setCell (p := ⟨g, o, none⟩) hg v) hg
theorem Keeps.setLN {vs : List Value} {b : World} {o : Nat} (h : Keeps S a b) (hg : a.heap.size ≤ g) : Keeps S a (setL b g o vs) := Keeps.setL_ vs o h (fun hh => absurd hh (by omega))
end
end Go.Proofs.YtkmpdobojgiegaaGreatDoor
