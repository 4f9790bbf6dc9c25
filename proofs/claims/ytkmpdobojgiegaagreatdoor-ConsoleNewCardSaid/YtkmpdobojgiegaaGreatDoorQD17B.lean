/-
  The document's steps: wheelhouseref17.Check, Due, Next.
-/
import Derived.Test.YtkmpdobojgiegaaGreatDoorQGround2
import Derived.Test.YtkmpdobojgiegaaGreatDoorQK33B
namespace Go.Proofs.YtkmpdobojgiegaaGreatDoor
open Go.RowKit

end Go.Proofs.YtkmpdobojgiegaaGreatDoor
