/-
  ConsoleHand: what its row says of the program, by the kernel.
-/
import Derived.Test.YtkmpdobojgiegaaGreatDoorRows
import Derived.JoinedOf
namespace Go.Proofs.YtkmpdobojgiegaaGreatDoor.lawConsoleHand
theorem fPlain : (Rows.consoleHandRow.plainKeys == (Tryz.pinned.checked.prog).plainKeys) = true := by kernel_rfl
theorem fLifts : (Rows.consoleHandRow.lifted == (Tryz.pinned.checked.prog).liftsFinal) = true := by kernel_rfl
theorem fMake : ((Tryz.pinned.checked.prog).make == some Rows.consoleHandRow.make) = true := by kernel_rfl
end Go.Proofs.YtkmpdobojgiegaaGreatDoor.lawConsoleHand
