/- New slices of bytes; what this program's table says of a byte. -/
import Derived.Test.YtekcoeonlfmebaaProg
import Derived.Test.YtekcoeonlfmebaaEmpty
import Derived.WalkKit
namespace Go.Proofs.Ytekcoeonlfmebaa.Kit
open Go Go.RowKit

theorem Try.info_u8 : (Try.prog.info? 5).map (fun i => (i.zero, i.size, i.bytes)) = some (some (.int .u8 0), 1, 1) := by kernel_rfl
theorem Try.size_u8 : (Try.prog.info? 5).map (·.size) = some 1 := by kernel_rfl
/-- A new slice of bytes. -/
def NewBytes (w : World) (l : List UInt8) (w' : World) (A : Option Addr) (n c : Nat) : Prop :=
  n = l.length ∧ Own w' 5 1 A c n (bcs l) ∧ New w w' ∧ (∀ k, Bk A k → w.heap.size ≤ k)
end Go.Proofs.Ytekcoeonlfmebaa.Kit
