/-
  ConsoleAgain: what its row says of the program, by the kernel.
-/
import Derived.Test.YtkmpdobojgiegaaGreatDoorRows
import Derived.JoinedOf
namespace Go.Proofs.YtkmpdobojgiegaaGreatDoor.lawConsoleAgain
theorem fPlain : (Rows.consoleAgainRow.plainKeys == (Tryz.pinned.checked.prog).plainKeys) = true := by kernel_rfl
theorem fLifts : (Rows.consoleAgainRow.lifted == (Tryz.pinned.checked.prog).liftsFinal) = true := by kernel_rfl
theorem fMake : ((Tryz.pinned.checked.prog).make == some Rows.consoleAgainRow.make) = true := by kernel_rfl
end Go.Proofs.YtkmpdobojgiegaaGreatDoor.lawConsoleAgain
