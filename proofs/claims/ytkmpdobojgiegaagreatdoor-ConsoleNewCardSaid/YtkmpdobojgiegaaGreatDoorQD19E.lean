/-
  The document's line by value (wheelhouseref19): Break, New.
-/
import Derived.Test.YtkmpdobojgiegaaGreatDoorQD19D
import Derived.Test.YtkmpdobojgiegaaGreatDoorQR14B
import Derived.Test.YtkmpdobojgiegaaGreatDoorQGround4
namespace Go.Proofs.YtkmpdobojgiegaaGreatDoor
open Go.RowKit
set_option linter.unusedSimpArgs false

end Go.Proofs.YtkmpdobojgiegaaGreatDoor
