/-
  The document's line by value (wheelhouseref19): Next, Send, goOn.
-/
import Derived.Test.YtkmpdobojgiegaaGreatDoorQD19
namespace Go.Proofs.YtkmpdobojgiegaaGreatDoor
open Go.RowKit
set_option linter.unusedSimpArgs false

end Go.Proofs.YtkmpdobojgiegaaGreatDoor
