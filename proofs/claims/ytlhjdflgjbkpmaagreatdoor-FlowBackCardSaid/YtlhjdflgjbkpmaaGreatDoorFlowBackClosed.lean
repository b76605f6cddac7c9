import Derived.Test.YtlhjdflgjbkpmaaGreatDoorRows
import Derived.JoinedCond
import Derived.KernelRfl
namespace Go.Proofs.YtlhjdflgjbkpmaaGreatDoor.flowBack
open Go
theorem closed : joinedFacts Tryz.pinned.checked.prog 7 Tryz.f7 (OpenSpec.ofChange Rows.flowBackSpec).bare Rows.flowBackRow = true := by kernel_rfl
end Go.Proofs.YtlhjdflgjbkpmaaGreatDoor.flowBack
