/-
  The document's answer on a log's generations (wheelhouseref21), and on what is torn and lost (wheelhouseref23).
-/
import Derived.Test.YtkmpdobojgiegaaGreatDoorQGround3
import Derived.Test.YtkmpdobojgiegaaGreatDoorQGround2
import Derived.Test.YtkmpdobojgiegaaGreatDoorQResE
import Derived.Deep.DeepCutAuto
import Derived.Deep.CutBlock
namespace Go.Proofs.YtkmpdobojgiegaaGreatDoor
open Go.RowKit Go.Maps

end Go.Proofs.YtkmpdobojgiegaaGreatDoor
