/- The closed facts of the row StoreFrames, apart: the kernel's memory. -/
import Derived.Test.YtdgpnpagbhikoaaGreatDoorRows
import Derived.ProofKit
import Derived.JoinedCond
namespace Go.Proofs.YtdgpnpagbhikoaaGreatDoor.Frames
open Go.ChangeShapes Go.WideShapes Go.ChangeAt Go.RowKit
theorem named : Tryz.pinned.checked.prog.funcNamed Rows.storeFramesRow.func = some 3 := by kernel_rfl
theorem closed : joinedFacts Tryz.prog 3 Tryz.f3 (OpenSpec.ofChange Rows.storeFramesSpec).bare Rows.storeFramesRow = true := by kernel_rfl
end Go.Proofs.YtdgpnpagbhikoaaGreatDoor.Frames
