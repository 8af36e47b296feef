/- daybooklaw08.first: what must come whatever is asked. -/
import Derived.Test.YtejmndfdmikfaaaDoorApply
import Derived.Test.YtejmndfdmikfaaaDoorStateS
import Derived.Test.YtejmndfdmikfaaaDoorFirst8
import Derived.Laws.StructEq
namespace Go.Proofs.YtejmndfdmikfaaaDoor.Kit
open Go Go.RowKit

def p8 : List Pst := [⟨0, 0, 0, 0, [], nmAB, 500, [], []⟩, ⟨0, 0, 0, 0, [], nmA, -500, [], []⟩]
theorem p8_rows : p8.map Pst.row = rows8 := rfl
theorem p8_ok : ∀ p ∈ p8, p.Ok := by
  intro p hp
  simp only [p8, List.mem_cons, List.not_mem_nil, or_false] at hp
  rcases hp with rfl | rfl <;> exact ⟨by decide, by decide, by decide⟩
theorem RdC.of_block {w : World} {g : Nat} {cs : List Value} {e : TypeId} {fr : Nat × Nat} (h : w.heap[g]? = some (.cells cs.toArray e fr)) : RdC w (some ⟨g, 0, none⟩) cs := by
  intro _
  refine ⟨g, 0, rfl, fun j u hu => ?_⟩
  rw [Nat.zero_add, cell_of_block h]
  simpa using hu
set_option maxRecDepth 100000 in
set_option maxHeartbeats 4000000 in
theorem first_calls (w : World) : Calls Tryd.prog 10 #[] w fun e w' => e = .returned (.bool true) ∧ New w w' := by
  go_enter Tryd.func10, Tryd.ntmps10
  go_wp2_with fail
  refine (New_calls w).mono ?_
  rintro e W1 ⟨v, F, rfl, hV, hn, hF⟩
  have H1 := Lib.hid (And.intro hV (And.intro hn hF))
  clear hV hn hF
  go_wp2_with fail
  have n2 : New W1 (W1.alloc (.cells (p8.flatMap Pst.cells).toArray 35)) := Kp.alloc _ _ _
  have hA := Apply_calls (W1.alloc (.cells (p8.flatMap Pst.cells).toArray 35)) v [] (fun _ => 0) F (some ⟨W1.heap.size, 0, none⟩) 2 p8 (H1.out.1.new n2) (RdC.of_block (heap_alloc_new W1 _)) p8_ok (by decide)
  refine Calls.mono (show Calls Tryd.prog 12 #[.pointer (some ⟨v, 0, none⟩), .slice (some ⟨W1.heap.size, 0, none⟩) 2 2] _ _ from hA) ?_
  have N2 := Lib.hid n2
  clear hA n2
  rintro e W2 (⟨_, rfl, hv2, hk2⟩ | ⟨hno, _⟩)
  case inr => exact absurd ok8 hno
  rw [p8_rows] at hv2
  have nW : New W1 W2 ∨ True := .inr trivial
  have hv2' : ViewAt W2 v (names2 [] (rowNames rows8)) own8 F := hv2
  have n12 : New w W2 := (H1.out.2.1.trans N2.out (fun _ _ h => h) (fun _ _ h => h)).trans hk2 (fun _ _ h => h) (fun k hk h => by have := H1.out.2.2 k h; omega)
  have H2 := Lib.hid (And.intro hv2' n12)
  clear hv2 hv2' hk2 n12 nW
  go_wp2_with fail
  refine (State_calls W2 v _ own8 F H2.out.1 (by decide)).mono ?_
  rintro e W3 ⟨A, c, N, rfl, hT, hO, hn3, hb⟩
  have hN : N = [nmA, nmAB] := hT.same told8
  subst hN
  obtain ⟨g, rfl⟩ := hO.some_ (by decide)
  have hr0 : rollup (names2 [] (rowNames rows8)) own8 nmA = 0 := roll8 H2.out.1.cov
  have x0 : W3.cell? ⟨g, 0, none⟩ = some (.string ⟨#[65]⟩) := hO.cell (by rfl)
  have x1 : W3.cell? ⟨g, 1, none⟩ = some (.int .i64 (-500)) := hO.cell (by
    show some (Value.int .i64 (own8 nmA)) = _
    rw [own8_A])
  have x2 : W3.cell? ⟨g, 2, none⟩ = some (.int .i64 0) := hO.cell (by
    show some (Value.int .i64 (rollup _ own8 nmA)) = _
    rw [hr0])
  have hv3 := H2.out.1.new hn3
  have hTo := Totals_calls W3 v _ own8 F hv3
  rw [deb8 hv3.cov, cre8 hv3.cov] at hTo
  have H3 := Lib.hid (And.intro hv3 hn3)
  clear hv3 hn3 hO hb hT hr0
  go_wp2_with fail
  refine hTo.mono ?_
  rintro e W4 ⟨rfl, hn4⟩
  have y0 := New.cell hn4 x0
  have y1 := New.cell hn4 x1
  have y2 := New.cell hn4 x2
  have hv4 := H3.out.1.new hn4
  have hRo := Rollup_calls W4 v _ own8 F nmA hv4
  rw [roll8 hv4.cov] at hRo
  have hOw := Own_calls W4 v _ own8 F nmAB hv4
  rw [own8_AB] at hOw
  have H4 := Lib.hid hn4
  clear hn4 hTo x0 x1 x2 hv4
  go_wp2_with fail
  refine Calls.mono (show Calls Tryd.prog 14 #[.pointer (some ⟨v, 0, none⟩), .string ⟨#[65]⟩] _ _ from hRo) ?_
  rintro e w5 ⟨rfl, rfl⟩
  clear hRo
  go_wp2_with fail
  refine Calls.mono (show Calls Tryd.prog 20 #[.pointer (some ⟨v, 0, none⟩), .string ⟨#[65, 58, 66]⟩] _ _ from hOw) ?_
  rintro e w6 ⟨rfl, rfl⟩
  clear hOw
  go_wp2_with fail
  go_ret
  exact ⟨rfl, (H2.out.2.trans H3.out.2 (fun _ _ h => h) (fun _ _ h => h)).trans H4.out (fun _ _ h => h) (fun _ _ h => h)⟩
end Go.Proofs.YtejmndfdmikfaaaDoor.Kit
