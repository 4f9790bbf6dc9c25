/-
  ConsoleAgain: what its row says of its functions and variables, by the kernel.
-/
import Derived.Test.YtkmpdobojgiegaaGreatDoorRows
import Derived.JoinedOf
namespace Go.Proofs.YtkmpdobojgiegaaGreatDoor.lawConsoleAgain
theorem fRecurses : (Rows.consoleAgainRow.recurses == (Tryz.pinned.checked.prog).recurses 4) = true := by kernel_rfl
theorem fNamed : (Rows.consoleAgainRow.named == (Tryz.pinned.checked.prog).varsNamed 4) = true := by kernel_rfl
end Go.Proofs.YtkmpdobojgiegaaGreatDoor.lawConsoleAgain
