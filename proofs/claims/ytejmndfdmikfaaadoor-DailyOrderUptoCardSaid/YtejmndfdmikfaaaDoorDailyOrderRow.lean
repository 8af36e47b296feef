/- DailyOrder: rows at once, or in another order and piece by piece, and From of State: the same days.: the row and its card. -/
import Derived.Test.YtejmndfdmikfaaaDoorCards
import Derived.Test.YtejmndfdmikfaaaDoorTie
import Derived.Test.YtejmndfdmikfaaaDoorPostIn9
import Derived.Test.YtejmndfdmikfaaaDoorDailyOrder
import Derived.WalkKit
import Derived.ProofKit
import Derived.OpenShut
import Derived.Carry
import Derived.Below
import Derived.SizedLaws
import Derived.Deep.DeepHandedRow
import Derived.JoinedCond
import Derived.Lib.LaidTab
namespace Go.Proofs.YtejmndfdmikfaaaDoor
open Go.ChangeShapes Go.WideShapes Go.ChangeAt Go.RowKit Go.Proofs.YtejmndfdmikfaaaDoor.Kit
namespace DailyOrder
theorem own : ownKnob Tryd.prog.godebug = none := by kernel_rfl
/-- The cells of a table. -/
def litsOf : List (DataW Unit) → List Value
  | [] => []
  | .lit (.int k z) :: r => Value.int k z :: litsOf r
  | _ :: r => undef :: litsOf r
def litCells : DataW Unit → Array Value
  | .agg ps => (ps.flatMap fun | .lit (.int k z) => [Value.int k z] | .agg qs => litsOf qs | _ => [undef]).toArray
  | _ => #[]
def putAt (w : World) (g : Nat) (cs : Array Value) : World := { w with heap := w.heap.modify g fun
      | .cells _ t frozen => .cells cs t frozen
      | o => o }
noncomputable def laidWorld (os : Os) : World :=
  putAt (putAt (World.holding Tryd.prog os ⟨#[], #[], []⟩) 2 (litCells Rows.laid_unicode_utf8_acceptRanges)) 1 (litCells Rows.laid_unicode_utf8_first)
theorem laid_met (os : Os) : laidMet Tryd.prog Rows.dailyOrderUptoRow.laid ((laidWorld os).forCall (fun _ _ => 0) ⟨#[], #[.agg #[.slice none 0 0, .slice none 0 0, .slice none 0 0]], []⟩).memory :=
  laidMet_of_run' 8 (by kernel_rfl) (by kernel_rfl)
theorem reads (os : Os) {H : Type} (enc : TypeId × Value → H) : ∃ places, DataW.whole enc Tryd.prog ((laidWorld os).forCall (fun _ _ => 0) ⟨#[], #[.agg #[.slice none 0 0, .slice none 0 0, .slice none 0 0]], []⟩).memory Tryd.f9.params.toList Rows.dailyOrderSpec.vars false (#[.agg #[.slice none 0 0, .slice none 0 0, .slice none 0 0]] : Array Value).toList 8 = some ([.agg [.nil, .nil, .nil]], [], places) :=
  ⟨[], by kernel_rfl⟩

set_option maxRecDepth 100000 in
theorem lifted (os : Os) (started : os.Started) (H : Type) (enc : TypeId × Value → H) (F : Stop.Interp) :
    ReturnsInHanded {} Tryd.checked os 9 .any ((Rows.OpenSpec.upto Rows.dailyOrderSpec).preRow enc Tryd.prog Tryd.f9 Rows.dailyOrderUptoRow.domain false Rows.dailyOrderUptoRow.laid) (((Rows.OpenSpec.upto Rows.dailyOrderSpec).at F).post enc Tryd.prog Tryd.f9 false true false false) := by
  obtain ⟨places, hx⟩ := reads os enc
  refine returnsInHanded_of_row (C := Tryd.checked) (s := Rows.OpenSpec.upto Rows.dailyOrderSpec) own started (by kernel_rfl) Tryd.func9
    (witness_row_at (enc := enc) (C := Tryd.checked) false (laidWorld os) #[.agg #[.slice none 0 0, .slice none 0 0, .slice none 0 0]] rfl (by kernel_rfl) (by kernel_rfl) (by kernel_rfl)
      (OpenSpec.preRow_of_cond 8 hx (by kernel_rfl) (fun k hk => by cases hk; kernel_rfl) (by kernel_rfl) (laid_met os))) ?_
  intro W base args ds gs before hval0 hW _ hcond _ _ _ _
  have hval : ∀ (j : Nat) t v, Tryd.f9.params[j]? = some t → args[j]? = some v → Value.okWide Tryd.prog W .any base t v := hval0
  have hk : Rows.uptoSmall H (ds ++ gs) = true := hcond _ rfl
  have hW' := hW
  obtain ⟨p0, q, hA0, hV, rfl, hfz, hnd⟩ := hW
  have hA : DataW.TrodAll enc Tryd.prog W 0 (fun _ => true) true Tryd.f9.params.toList args.toList ds p0 := hA0
  rw [Tryd.params9] at hA hval
  obtain ⟨v0, d0, rfl, rfl, h0⟩ := trodAll_one hA
  obtain ⟨rfl, rfl⟩ := trodVars_none hV
  simp only [List.append_nil] at hW' hk
  have hbulk := bulks.bound hk
  have b0d := bulks.part_le (H := H) (d := d0) (l := [d0]) (by simp)
  have k0 := h0
  obtain ⟨cs0, rfl⟩ := okWide_agg Tryd.underlying64 (hval 0 64 v0 rfl rfl)
  obtain ⟨fuel0, hf0⟩ := h0
  obtain ⟨A0, c0, ps0, PA0, pc0, pm0, CA0, cc0, ct0, rfl, rp0, ok0, lp0, rpm0, lpm0, bpm0, rct0, lct0, bct0⟩ := open_mixed9 hf0 (by show Rows.uptoBulk d0 ≤ 1048576; omega)
  have hlt : ∀ x ∈ p0, x.block < W.heap.size := fun x hx => by simpa using hW'.lt x hx
  clear hA0 hV hA
  have ub0 : Rows.uptoBulk d0 ≤ 1048576 := by omega
  have up0 : ps0.length ≤ 1048576 := by have h1 : ps0.length + 1 ≤ Rows.uptoBulk d0 := lp0; omega
  have uq0 : pm0.length ≤ 1048576 := by have h1 : pm0.length + 1 ≤ Rows.uptoBulk d0 := lpm0; omega
  have ur0 : ct0.length ≤ 1048576 := by have h1 : ct0.length + 1 ≤ Rows.uptoBulk d0 := lct0; omega
  refine (DailyOrder_calls W A0 PA0 CA0 c0 pc0 cc0 ps0 pm0 ct0 rp0 ok0 up0 rpm0 bpm0 uq0 rct0 bct0 ur0).mono ?_
  rintro e W' ⟨rfl, hn⟩
  have bel : Below W.heap.size W W' := hn.below
  refine ⟨_, rfl, _, _, _, [], p0, [], hW', trodAll_mk1 (shut_bool Tryd.underlying4 _), ?_, rfl, bel.frame _, fun h => by cases h⟩
  have := trodAll_mk1 (Below.trod Tryd.laidOut (by kernel_rfl) (of_decide_eq_true (by kernel_rfl)) k0 bel (fun x hx => hlt x (by simp [hx])))
  exact this

theorem saidUpto : Rows.DailyOrderUptoSaid :=
  OpenClaim.holds_of_cond 9 Tryd.f9 rfl rfl rfl rfl rfl rfl rfl ⟨rfl, rfl, rfl, rfl, rfl⟩ rfl rfl rfl rfl rfl (by kernel_rfl) Tryd.func9 (by kernel_rfl)
    (of_decide_eq_true (by kernel_rfl)) (by unfold Func.isWrapper; first | (rw [if_pos (by decide +kernel)]; kernel_rfl) | (rw [if_neg (by decide +kernel)]; exact ⟨rfl, rfl⟩))
    (fun os started H enc _ F => by rw [OpenClaim.pre_eq_preRow]; exact lifted os started H enc F)
theorem plain (f : FuncId) (fn : Func) (hf : Tryd.pinned.checked.prog.funcNamed "daybook/daybooklaw09.DailyOrder" = some f) (hfn : Tryd.pinned.checked.prog.funcs[f]? = some fn) :
    false = Tryd.pinned.checked.prog.looks [] ∧ ∀ (j : Nat) t, fn.params[j]? = some t → Tryd.pinned.checked.prog.wantsStandIn t = false := by
  obtain rfl : f = 9 := Option.some.inj ((show Tryd.prog.funcNamed "daybook/daybooklaw09.DailyOrder" = some 9 by kernel_rfl).symm.trans hf) |>.symm
  obtain rfl : fn = Tryd.f9 := (Option.some.inj (Tryd.func9.symm.trans hfn)).symm
  refine ⟨by kernel_rfl, fun j t ht => ?_⟩
  rw [Tryd.params9] at ht
  have hm := Array.mem_of_getElem? ht
  simp only [List.mem_toArray, List.mem_cons, List.not_mem_nil, or_false] at hm
  subst hm
  exact (show Tryd.prog.wantsStandIn 64 = false by kernel_rfl)
end DailyOrder

/-- DailyOrder: rows at once, or in another order and piece by piece, and From of State: the same days. -/
theorem dailyOrder_holds : Rows.DailyOrderUptoCardSaid :=
  Claim7.holds_tied_plain_at .later [] _ _ _ _ DailyOrder.saidUpto (fun _ h => by cases h) (by kernel_rfl) (fun _ h => by cases h) dailyOrderUpto_row_tie rfl ⟨rfl, rfl⟩ (by kernel_rfl) rfl DailyOrder.plain (by kernel_rfl)
#print axioms dailyOrder_holds
end Go.Proofs.YtejmndfdmikfaaaDoor
