import Derived.Test.YtlhjdflgjbkpmaaGreatDoorRows
import Derived.JoinedCond
import Derived.KernelRfl
namespace Go.Proofs.YtlhjdflgjbkpmaaGreatDoor.flowSettles
open Go
theorem closed : joinedFacts Tryz.pinned.checked.prog 3 Tryz.f3 (OpenSpec.ofChange Rows.flowSettlesSpec).bare Rows.flowSettlesRow = true := by kernel_rfl
end Go.Proofs.YtlhjdflgjbkpmaaGreatDoor.flowSettles
