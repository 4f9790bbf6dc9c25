/-
  The program's own facts, by the kernel: where it may be entered.
-/
import Derived.Test.YtkmpdobojgiegaaGreatDoorRows
import Derived.JoinedOf
namespace Go.Proofs.YtkmpdobojgiegaaGreatDoor
theorem factEnter : (Tryz.pinned.checked.prog).mayEnter = true := by kernel_rfl
end Go.Proofs.YtkmpdobojgiegaaGreatDoor
