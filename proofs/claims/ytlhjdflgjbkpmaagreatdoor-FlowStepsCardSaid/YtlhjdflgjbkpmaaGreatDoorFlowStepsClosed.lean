import Derived.Test.YtlhjdflgjbkpmaaGreatDoorRows
import Derived.JoinedCond
import Derived.KernelRfl
namespace Go.Proofs.YtlhjdflgjbkpmaaGreatDoor.flowSteps
open Go
theorem closed : joinedFacts Tryz.pinned.checked.prog 4 Tryz.f4 (OpenSpec.ofChange Rows.flowStepsSpec).bare Rows.flowStepsRow = true := by kernel_rfl
end Go.Proofs.YtlhjdflgjbkpmaaGreatDoor.flowSteps
