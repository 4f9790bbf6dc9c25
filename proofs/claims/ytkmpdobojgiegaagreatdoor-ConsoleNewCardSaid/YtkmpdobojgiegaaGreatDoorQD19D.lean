/-
  The document's line by value (wheelhouseref19): Opened, Tick, Break.
-/
import Derived.Test.YtkmpdobojgiegaaGreatDoorQD19C
namespace Go.Proofs.YtkmpdobojgiegaaGreatDoor
open Go.RowKit
set_option linter.unusedSimpArgs false

theorem OwnS.lowZ {α : Type} {R : α → List Value} {size : Nat} {w w' : World} {B B' : Nat} {e : TypeId} {v : Value} {xs : List α} (h : OwnS R size w B e v xs) (hB : B' ≤ B) {g : Nat} (hg : g < B) {vs : List Value} {o : Nat} (hw : setL w g o vs = w') : OwnS R size w' B' e v xs := by
  rw [← hw]; exact OwnS.lowL h hB (Keeps.setL_ vs o (Keeps.refl _ _) (fun _ => hg))
end Go.Proofs.YtkmpdobojgiegaaGreatDoor
