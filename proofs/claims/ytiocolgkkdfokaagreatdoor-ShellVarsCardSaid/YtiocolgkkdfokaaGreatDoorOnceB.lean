/-
  The second line of the concrete run, worked out by the kernel. No condition.
-/
import Derived.Test.YtiocolgkkdfokaaGreatDoorCtx
namespace Go.Proofs.YtiocolgkkdfokaaGreatDoor
open Go Go.Ab
theorem once2_run : okOnce once2.val once2.after (evF ctx1 20000 (.call 28 once2.args ⟨heapOf once2.heap, once2.next⟩)) = true := by kernel_rfl
end Go.Proofs.YtiocolgkkdfokaaGreatDoor
