import Derived.Test.YtlhjdflgjbkpmaaGreatDoorRows
import Derived.JoinedCond
import Derived.KernelRfl
namespace Go.Proofs.YtlhjdflgjbkpmaaGreatDoor.flowTakes
open Go
theorem closed : joinedFacts Tryz.pinned.checked.prog 6 Tryz.f6 (OpenSpec.ofChange Rows.flowTakesSpec).bare Rows.flowTakesRow = true := by kernel_rfl
end Go.Proofs.YtlhjdflgjbkpmaaGreatDoor.flowTakes
