/-
  The first line of the concrete run, worked out by the kernel. No condition.
-/
import Derived.Test.YtiocolgkkdfokaaGreatDoorCtx
namespace Go.Proofs.YtiocolgkkdfokaaGreatDoor
open Go Go.Ab
theorem once1_run : okOnce once1.val once1.after (evF ctx1 20000 (.call 28 once1.args ⟨heapOf once1.heap, once1.next⟩)) = true := by kernel_rfl
end Go.Proofs.YtiocolgkkdfokaaGreatDoor
