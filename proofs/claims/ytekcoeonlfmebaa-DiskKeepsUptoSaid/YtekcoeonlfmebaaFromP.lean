/- disk.From: what it answers. -/
import Derived.Test.YtekcoeonlfmebaaSimple
import Derived.Test.YtekcoeonlfmebaaFromO
namespace Go.Proofs.Ytekcoeonlfmebaa.Kit
open Go Go.RowKit

/-- A block of cells. -/
def Bx4 (w : World) (b : Nat) (cs : Array Value) (t : TypeId) : Prop := w.heap[b]? = some (.cells cs t (0, 0))
theorem Bx4.new_ (w : World) (o : Obj) : (w.alloc o).heap[w.heap.size]? = some o := heap_alloc_new w o
theorem heap_kp {w w' : World} {S : Nat → Prop} {b : Nat} {o : Obj} (h : w.heap[b]? = some o) (hk : Kp S w w') (hb : ¬ S b) : w'.heap[b]? = some o := (hk.block b (Array.getElem?_eq_some_iff.1 h).1 hb).trans h

/-- What From answers. -/
def FromPost (w : World) (cap fuse : Int) (down : Bool) (ys : List FI) (e : Ending) (w' : World) : Prop :=
  (FromOk cap fuse down ys ∧ ∃ d F, e = .returned (.tuple #[.pointer (some ⟨d, 0, none⟩), .int .i64 0]) ∧ DiskAt w' d ⟨cap.toNat, ys.map FI.fl, fuse, down⟩ F ∧ New w w' ∧ (∀ k ∈ F, w.heap.size ≤ k)) ∨
  (¬ FromOk cap fuse down ys ∧ e = .returned (.tuple #[.pointer none, .int .i64 35]) ∧ New w w')
end Go.Proofs.Ytekcoeonlfmebaa.Kit
