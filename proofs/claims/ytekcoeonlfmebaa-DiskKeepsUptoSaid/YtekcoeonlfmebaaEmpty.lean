/- A row without cells. -/
import Derived.Test.YtekcoeonlfmebaaOwn
namespace Go.Proofs.Ytekcoeonlfmebaa.Kit
open Go Go.RowKit
theorem Own.bare (w : World) (e : TypeId) (sz : Nat) : Own (w.alloc (.cells #[] e)) e sz (some ⟨w.heap.size, 0, none⟩) 0 0 [] :=
  ⟨by simp, .inr ⟨w.heap.size, #[], rfl, heap_alloc_new w _, Nat.le_refl _, by simp [maxLen], by simp, by simp⟩⟩
end Go.Proofs.Ytekcoeonlfmebaa.Kit
