/-
  The document's line by value (wheelhouseref19): goOn.
-/
import Derived.Test.YtkmpdobojgiegaaGreatDoorQD19B
namespace Go.Proofs.YtkmpdobojgiegaaGreatDoor
open Go.RowKit
set_option linter.unusedSimpArgs false

theorem OwnS.lowL {α : Type} {R : α → List Value} {size : Nat} {w w' : World} {B B' : Nat} {e : TypeId} {v : Value} {xs : List α} (h : OwnS R size w B e v xs) (hB : B' ≤ B) (k : Keeps (fun i => i < B) w w') : OwnS R size w' B' e v xs :=
  OwnS.moreS (OwnS.keeps h k (fun i hi _ _ e => by omega)) hB
end Go.Proofs.YtkmpdobojgiegaaGreatDoor
