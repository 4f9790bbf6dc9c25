/-
  ConsoleNew: what its row says of the program, by the kernel.
-/
import Derived.Test.YtkmpdobojgiegaaGreatDoorRows
import Derived.JoinedOf
namespace Go.Proofs.YtkmpdobojgiegaaGreatDoor.lawConsoleNew
theorem fPlain : (Rows.consoleNewRow.plainKeys == (Tryz.pinned.checked.prog).plainKeys) = true := by kernel_rfl
theorem fLifts : (Rows.consoleNewRow.lifted == (Tryz.pinned.checked.prog).liftsFinal) = true := by kernel_rfl
theorem fMake : ((Tryz.pinned.checked.prog).make == some Rows.consoleNewRow.make) = true := by kernel_rfl
end Go.Proofs.YtkmpdobojgiegaaGreatDoor.lawConsoleNew
