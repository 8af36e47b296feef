/- The closed facts of the row DiskStates, apart: the kernel's memory. -/
import Derived.Test.YtekcoeonlfmebaaGreatDoorRows
import Derived.ProofKit
import Derived.JoinedCond
namespace Go.Proofs.YtekcoeonlfmebaaGreatDoor.ZStates
open Go.ChangeShapes Go.WideShapes Go.ChangeAt Go.RowKit
theorem named : Tryz.pinned.checked.prog.funcNamed Rows.diskStatesRow.func = some 3 := by kernel_rfl
theorem closed : joinedFacts Tryz.prog 3 Tryz.f3 (OpenSpec.ofChange Rows.diskStatesSpec).bare Rows.diskStatesRow = true := by kernel_rfl
end Go.Proofs.YtekcoeonlfmebaaGreatDoor.ZStates
