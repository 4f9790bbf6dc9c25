/-
  ConsoleNew: what its row says of its functions and variables, by the kernel.
-/
import Derived.Test.YtkmpdobojgiegaaGreatDoorRows
import Derived.JoinedOf
namespace Go.Proofs.YtkmpdobojgiegaaGreatDoor.lawConsoleNew
theorem fRecurses : (Rows.consoleNewRow.recurses == (Tryz.pinned.checked.prog).recurses 3) = true := by kernel_rfl
theorem fNamed : (Rows.consoleNewRow.named == (Tryz.pinned.checked.prog).varsNamed 3) = true := by kernel_rfl
end Go.Proofs.YtkmpdobojgiegaaGreatDoor.lawConsoleNew
