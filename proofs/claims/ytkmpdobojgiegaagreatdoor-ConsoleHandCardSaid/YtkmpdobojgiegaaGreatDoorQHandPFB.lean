/-
  ConsoleHand: what its row says of its functions and variables, by the kernel.
-/
import Derived.Test.YtkmpdobojgiegaaGreatDoorRows
import Derived.JoinedOf
namespace Go.Proofs.YtkmpdobojgiegaaGreatDoor.lawConsoleHand
theorem fRecurses : (Rows.consoleHandRow.recurses == (Tryz.pinned.checked.prog).recurses 5) = true := by kernel_rfl
theorem fNamed : (Rows.consoleHandRow.named == (Tryz.pinned.checked.prog).varsNamed 5) = true := by kernel_rfl
end Go.Proofs.YtkmpdobojgiegaaGreatDoor.lawConsoleHand
