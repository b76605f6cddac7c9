import Derived.Test.YtlhjdflgjbkpmaaGreatDoorRows
import Derived.JoinedCond
import Derived.KernelRfl
namespace Go.Proofs.YtlhjdflgjbkpmaaGreatDoor.flowBound
open Go
theorem closed : joinedFacts Tryz.pinned.checked.prog 8 Tryz.f8 (OpenSpec.ofChange Rows.flowBoundSpec).bare Rows.flowBoundRow = true := by kernel_rfl
end Go.Proofs.YtlhjdflgjbkpmaaGreatDoor.flowBound
