/- The closed facts of the row DiskAll, apart: the kernel's memory. -/
import Derived.Test.YtekcoeonlfmebaaGreatDoorRows
import Derived.ProofKit
import Derived.JoinedCond
namespace Go.Proofs.YtekcoeonlfmebaaGreatDoor.ZAll
open Go.ChangeShapes Go.WideShapes Go.ChangeAt Go.RowKit
theorem named : Tryz.pinned.checked.prog.funcNamed Rows.diskAllRow.func = some 7 := by kernel_rfl
theorem closed : joinedFacts Tryz.prog 7 Tryz.f7 (OpenSpec.ofChange Rows.diskAllSpec).bare Rows.diskAllRow = true := by kernel_rfl
end Go.Proofs.YtekcoeonlfmebaaGreatDoor.ZAll
