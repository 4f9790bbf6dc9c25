/-
  The document's steps: wheelhouseref17.Due, Next.
-/
import Derived.Test.YtkmpdobojgiegaaGreatDoorQD17B
namespace Go.Proofs.YtkmpdobojgiegaaGreatDoor
open Go.RowKit

end Go.Proofs.YtkmpdobojgiegaaGreatDoor
