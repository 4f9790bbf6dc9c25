/-
  ConsoleHand: what its row says of its functions, by the kernel.
-/
import Derived.Test.YtkmpdobojgiegaaGreatDoorRows
import Derived.JoinedOf
namespace Go.Proofs.YtkmpdobojgiegaaGreatDoor.lawConsoleHand
theorem fInPlace : (Rows.consoleHandRow.inPlace == (Tryz.pinned.checked.prog).inPlace 5) = true := by kernel_rfl
theorem fUnfollowed : (Rows.consoleHandRow.unfollowed == (Tryz.pinned.checked.prog).unfollowed 5) = true := by kernel_rfl
end Go.Proofs.YtkmpdobojgiegaaGreatDoor.lawConsoleHand
