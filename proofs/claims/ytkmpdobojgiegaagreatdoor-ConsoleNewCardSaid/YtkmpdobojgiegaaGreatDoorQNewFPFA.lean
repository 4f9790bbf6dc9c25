/-
  ConsoleNew: what its row says of its functions, by the kernel.
-/
import Derived.Test.YtkmpdobojgiegaaGreatDoorRows
import Derived.JoinedOf
namespace Go.Proofs.YtkmpdobojgiegaaGreatDoor.lawConsoleNew
theorem fInPlace : (Rows.consoleNewRow.inPlace == (Tryz.pinned.checked.prog).inPlace 3) = true := by kernel_rfl
theorem fUnfollowed : (Rows.consoleNewRow.unfollowed == (Tryz.pinned.checked.prog).unfollowed 3) = true := by kernel_rfl
end Go.Proofs.YtkmpdobojgiegaaGreatDoor.lawConsoleNew
