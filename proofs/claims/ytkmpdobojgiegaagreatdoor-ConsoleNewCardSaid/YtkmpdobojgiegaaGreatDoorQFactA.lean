/-
  The program's own facts, by the kernel: how it is laid out.
-/
import Derived.Test.YtkmpdobojgiegaaGreatDoorRows
import Derived.JoinedOf
namespace Go.Proofs.YtkmpdobojgiegaaGreatDoor
theorem factLaid : laidOutB Tryz.pinned.checked.prog = true := by kernel_rfl
end Go.Proofs.YtkmpdobojgiegaaGreatDoor
