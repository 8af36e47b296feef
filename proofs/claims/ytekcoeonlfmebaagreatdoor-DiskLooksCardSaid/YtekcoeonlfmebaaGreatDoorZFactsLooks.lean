/- The closed facts of the row DiskLooks, apart: the kernel's memory. -/
import Derived.Test.YtekcoeonlfmebaaGreatDoorRows
import Derived.ProofKit
import Derived.JoinedCond
namespace Go.Proofs.YtekcoeonlfmebaaGreatDoor.ZLooks
open Go.ChangeShapes Go.WideShapes Go.ChangeAt Go.RowKit
theorem named : Tryz.pinned.checked.prog.funcNamed Rows.diskLooksRow.func = some 5 := by kernel_rfl
theorem closed : joinedFacts Tryz.prog 5 Tryz.f5 (OpenSpec.ofChange Rows.diskLooksSpec).bare Rows.diskLooksRow = true := by kernel_rfl
end Go.Proofs.YtekcoeonlfmebaaGreatDoor.ZLooks
