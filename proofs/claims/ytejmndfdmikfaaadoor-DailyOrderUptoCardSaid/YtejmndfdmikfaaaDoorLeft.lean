/- How many entries an iterator has before it. -/
import Derived.Test.YtejmndfdmikfaaaDoorMap
namespace Go.Proofs.YtejmndfdmikfaaaDoor.Kit
open Go Go.RowKit
/-- How many entries the iterator in block r has before it. -/
def leftM (b r : Nat) (w : World) : Nat := match w.heap[b]?, w.heap[r]? with
  | some (.map es _), some (.mapIter _ _ seen _) => (Go.leftOf es seen).size
  | _, _ => 0
theorem Rng.leftM {w : World} {b r : Nat} {todo : List (List UInt8 × Value)} (h : Rng w b r todo) : Kit.leftM b r w = todo.length := by
  obtain ⟨es, clock, l, seen, c0, h1, h2, h3, h4, h5⟩ := h
  have := congrArg List.length h5
  simp only [List.length_map, Array.length_toList] at this
  unfold Kit.leftM
  rw [h1, h3]
  exact this
end Go.Proofs.YtejmndfdmikfaaaDoor.Kit
