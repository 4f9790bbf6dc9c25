/-
  ConsoleAgain: what its row says of its functions, by the kernel.
-/
import Derived.Test.YtkmpdobojgiegaaGreatDoorRows
import Derived.JoinedOf
namespace Go.Proofs.YtkmpdobojgiegaaGreatDoor.lawConsoleAgain
theorem fInPlace : (Rows.consoleAgainRow.inPlace == (Tryz.pinned.checked.prog).inPlace 4) = true := by kernel_rfl
theorem fUnfollowed : (Rows.consoleAgainRow.unfollowed == (Tryz.pinned.checked.prog).unfollowed 4) = true := by kernel_rfl
end Go.Proofs.YtkmpdobojgiegaaGreatDoor.lawConsoleAgain
