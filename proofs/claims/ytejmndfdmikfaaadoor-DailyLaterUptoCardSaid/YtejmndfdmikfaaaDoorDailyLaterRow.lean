/- DailyLater: one row more, and taken back: the row and its card. -/
import Derived.Test.YtejmndfdmikfaaaDoorCards
import Derived.Test.YtejmndfdmikfaaaDoorTie
import Derived.Test.YtejmndfdmikfaaaDoorPostIn9
import Derived.Test.YtejmndfdmikfaaaDoorDailyLater
import Derived.WalkKit
import Derived.ProofKit
import Derived.OpenShut
import Derived.Carry
import Derived.Below
import Derived.SizedLaws
import Derived.Deep.DeepHandedRow
import Derived.JoinedCond
import Derived.Lib.LaidTab
namespace Go.Proofs.YtejmndfdmikfaaaDoor
open Go.ChangeShapes Go.WideShapes Go.ChangeAt Go.RowKit Go.Proofs.YtejmndfdmikfaaaDoor.Kit
namespace DailyLater
theorem own : ownKnob Tryd.prog.godebug = none := by kernel_rfl
/-- The cells of a table. -/
def litsOf : List (DataW Unit) → List Value
  | [] => []
  | .lit (.int k z) :: r => Value.int k z :: litsOf r
  | _ :: r => undef :: litsOf r
def litCells : DataW Unit → Array Value
  | .agg ps => (ps.flatMap fun | .lit (.int k z) => [Value.int k z] | .agg qs => litsOf qs | _ => [undef]).toArray
  | _ => #[]
def putAt (w : World) (g : Nat) (cs : Array Value) : World := { w with heap := w.heap.modify g fun
      | .cells _ t frozen => .cells cs t frozen
      | o => o }
noncomputable def laidWorld (os : Os) : World :=
  putAt (putAt (World.holding Tryd.prog os ⟨#[], #[], []⟩) 2 (litCells Rows.laid_unicode_utf8_acceptRanges)) 1 (litCells Rows.laid_unicode_utf8_first)
theorem laid_met (os : Os) : laidMet Tryd.prog Rows.dailyLaterUptoRow.laid ((laidWorld os).forCall (fun _ _ => 0) ⟨#[], #[.slice none 0 0, .agg #[.int .i64 0, .int .i64 0, .int .i64 0, .int .i64 0, .string ⟨#[]⟩, .string ⟨#[]⟩, .int .i64 0, .string ⟨#[]⟩, .string ⟨#[]⟩], .string ⟨#[]⟩, .int .i64 0], []⟩).memory :=
  laidMet_of_run' 8 (by kernel_rfl) (by kernel_rfl)
theorem reads (os : Os) {H : Type} (enc : TypeId × Value → H) : ∃ places, DataW.whole enc Tryd.prog ((laidWorld os).forCall (fun _ _ => 0) ⟨#[], #[.slice none 0 0, .agg #[.int .i64 0, .int .i64 0, .int .i64 0, .int .i64 0, .string ⟨#[]⟩, .string ⟨#[]⟩, .int .i64 0, .string ⟨#[]⟩, .string ⟨#[]⟩], .string ⟨#[]⟩, .int .i64 0], []⟩).memory Tryd.f6.params.toList Rows.dailyLaterSpec.vars false (#[.slice none 0 0, .agg #[.int .i64 0, .int .i64 0, .int .i64 0, .int .i64 0, .string ⟨#[]⟩, .string ⟨#[]⟩, .int .i64 0, .string ⟨#[]⟩, .string ⟨#[]⟩], .string ⟨#[]⟩, .int .i64 0] : Array Value).toList 8 = some ([.nil, .agg [.lit (.int .i64 0), .lit (.int .i64 0), .lit (.int .i64 0), .lit (.int .i64 0), .lit (.string []), .lit (.string []), .lit (.int .i64 0), .lit (.string []), .lit (.string [])], .lit (.string []), .lit (.int .i64 0)], [], places) :=
  ⟨[], by kernel_rfl⟩

set_option maxRecDepth 100000 in
theorem lifted (os : Os) (started : os.Started) (H : Type) (enc : TypeId × Value → H) (F : Stop.Interp) :
    ReturnsInHanded {} Tryd.checked os 6 .any ((Rows.OpenSpec.upto Rows.dailyLaterSpec).preRow enc Tryd.prog Tryd.f6 Rows.dailyLaterUptoRow.domain false Rows.dailyLaterUptoRow.laid) (((Rows.OpenSpec.upto Rows.dailyLaterSpec).at F).post enc Tryd.prog Tryd.f6 false true false false) := by
  obtain ⟨places, hx⟩ := reads os enc
  refine returnsInHanded_of_row (C := Tryd.checked) (s := Rows.OpenSpec.upto Rows.dailyLaterSpec) own started (by kernel_rfl) Tryd.func6
    (witness_row_at (enc := enc) (C := Tryd.checked) false (laidWorld os) #[.slice none 0 0, .agg #[.int .i64 0, .int .i64 0, .int .i64 0, .int .i64 0, .string ⟨#[]⟩, .string ⟨#[]⟩, .int .i64 0, .string ⟨#[]⟩, .string ⟨#[]⟩], .string ⟨#[]⟩, .int .i64 0] rfl (by kernel_rfl) (by kernel_rfl) (by kernel_rfl)
      (OpenSpec.preRow_of_cond 8 hx (by kernel_rfl) (fun k hk => by cases hk; kernel_rfl) (by kernel_rfl) (laid_met os))) ?_
  intro W base args ds gs before hval0 hW _ hcond _ _ _ _
  have hval : ∀ (j : Nat) t v, Tryd.f6.params[j]? = some t → args[j]? = some v → Value.okWide Tryd.prog W .any base t v := hval0
  have hk : Rows.uptoSmall H (ds ++ gs) = true := hcond _ rfl
  have hW' := hW
  obtain ⟨p, q, hA0, hV, rfl, hfz, hnd⟩ := hW
  have hA : DataW.TrodAll enc Tryd.prog W 0 (fun _ => true) true Tryd.f6.params.toList args.toList ds p := hA0
  rw [Tryd.params6] at hA hval
  obtain ⟨v0, v1, v2, v3, d0, d1, d2, d3, p0, p1, p2, p3, rfl, rfl, rfl, h0, h1, h2, h3⟩ := trodAll_four hA
  obtain ⟨rfl, rfl⟩ := trodVars_none hV
  simp only [List.append_nil] at hW' hk
  have hbulk := bulks.bound hk
  have b0d := bulks.part_le (H := H) (d := d0) (l := [d0, d1, d2, d3]) (by simp)
  have b1d := bulks.part_le (H := H) (d := d1) (l := [d0, d1, d2, d3]) (by simp)
  have b2d := bulks.part_le (H := H) (d := d2) (l := [d0, d1, d2, d3]) (by simp)
  have b3d := bulks.part_le (H := H) (d := d3) (l := [d0, d1, d2, d3]) (by simp)
  have k0 := h0
  obtain ⟨a0, n0, c0, rfl⟩ := okWide_slice Tryd.underlying22 (hval 0 22 v0 rfl rfl)
  obtain ⟨fuel0, hf0⟩ := h0
  obtain ⟨A0, e0, ps0, hv0, rp0, ok0, lp0⟩ := open_posts9 hf0 (by show Rows.uptoBulk d0 ≤ 1048576; omega)
  simp only [Value.slice.injEq] at hv0
  obtain ⟨rfl, rfl, rfl⟩ := hv0
  have k1 := h1
  obtain ⟨cs1, rfl⟩ := okWide_agg Tryd.underlying35 (hval 1 35 v1 rfl rfl)
  obtain ⟨fuel1, hf1⟩ := h1
  obtain ⟨po1, rfl, oq1⟩ := open_post9 hf1 (by show Rows.uptoBulk d1 ≤ 1048576; omega)
  have k2 := h2
  obtain ⟨sb2, rfl⟩ := okWide_string Tryd.underlying9 (hval 2 9 v2 rfl rfl)
  obtain ⟨fuel2, hf2⟩ := h2
  obtain ⟨s2, hs2, ls2⟩ := open_strF hf2
  simp only [Value.string.injEq] at hs2
  subst hs2
  have k3 := h3
  obtain ⟨z3, rfl, rfl, rfl, wz3⟩ := open_int Tryd.underlying3 (hval 3 3 v3 rfl rfl) h3
  have bz3 := bounds_i64 wz3
  simp only [List.append_nil] at hW'
  have hlt : ∀ x ∈ p0 ++ p1 ++ p2, x.block < W.heap.size := fun x hx => by simpa using hW'.lt x hx
  clear hA0 hV hA
  have ub0 : Rows.uptoBulk d0 ≤ 1048576 := by omega
  have ub1 : Rows.uptoBulk d1 ≤ 1048576 := by omega
  have ub2 : Rows.uptoBulk d2 ≤ 1048576 := by omega
  have up0 : ps0.length ≤ 1048576 := by have h1 : ps0.length + 1 ≤ Rows.uptoBulk d0 := lp0; omega
  have us2 : s2.length ≤ 1048576 := by have h1 : s2.length ≤ Rows.uptoBulk d2 := ls2; omega
  refine (DailyLater_calls W a0 c0 ps0 po1 s2 z3 rp0 ok0 oq1 up0).mono ?_
  rintro e W' ⟨rfl, hn⟩
  have bel : Below W.heap.size W W' := hn.below
  refine ⟨_, rfl, _, _, _, [], p0 ++ p1 ++ p2, [], hW', trodAll_mk1 (shut_bool Tryd.underlying4 _), ?_, rfl, bel.frame _, fun h => by cases h⟩
  have := trodAll_mk4 (Below.trod Tryd.laidOut (by kernel_rfl) (of_decide_eq_true (by kernel_rfl)) k0 bel (fun x hx => hlt x (by simp [hx]))) (Below.trod Tryd.laidOut (by kernel_rfl) (of_decide_eq_true (by kernel_rfl)) k1 bel (fun x hx => hlt x (by simp [hx]))) (Below.trod Tryd.laidOut (by kernel_rfl) (of_decide_eq_true (by kernel_rfl)) k2 bel (fun x hx => hlt x (by simp [hx]))) (Below.trod Tryd.laidOut (by kernel_rfl) (of_decide_eq_true (by kernel_rfl)) k3 bel (fun x hx => by cases hx))
  simp only [List.append_assoc, List.append_nil] at this ⊢
  exact this

theorem saidUpto : Rows.DailyLaterUptoSaid :=
  OpenClaim.holds_of_cond 6 Tryd.f6 rfl rfl rfl rfl rfl rfl rfl ⟨rfl, rfl, rfl, rfl, rfl⟩ rfl rfl rfl rfl rfl (by kernel_rfl) Tryd.func6 (by kernel_rfl)
    (of_decide_eq_true (by kernel_rfl)) (by unfold Func.isWrapper; first | (rw [if_pos (by decide +kernel)]; kernel_rfl) | (rw [if_neg (by decide +kernel)]; exact ⟨rfl, rfl⟩))
    (fun os started H enc _ F => by rw [OpenClaim.pre_eq_preRow]; exact lifted os started H enc F)
theorem plain (f : FuncId) (fn : Func) (hf : Tryd.pinned.checked.prog.funcNamed "daybook/daybooklaw09.DailyLater" = some f) (hfn : Tryd.pinned.checked.prog.funcs[f]? = some fn) :
    false = Tryd.pinned.checked.prog.looks [] ∧ ∀ (j : Nat) t, fn.params[j]? = some t → Tryd.pinned.checked.prog.wantsStandIn t = false := by
  obtain rfl : f = 6 := Option.some.inj ((show Tryd.prog.funcNamed "daybook/daybooklaw09.DailyLater" = some 6 by kernel_rfl).symm.trans hf) |>.symm
  obtain rfl : fn = Tryd.f6 := (Option.some.inj (Tryd.func6.symm.trans hfn)).symm
  refine ⟨by kernel_rfl, fun j t ht => ?_⟩
  rw [Tryd.params6] at ht
  have hm := Array.mem_of_getElem? ht
  simp only [List.mem_toArray, List.mem_cons, List.not_mem_nil, or_false] at hm
  rcases hm with rfl | rfl | rfl | rfl
  · exact (show Tryd.prog.wantsStandIn 22 = false by kernel_rfl)
  · exact (show Tryd.prog.wantsStandIn 35 = false by kernel_rfl)
  · exact (show Tryd.prog.wantsStandIn 9 = false by kernel_rfl)
  · exact (show Tryd.prog.wantsStandIn 3 = false by kernel_rfl)
end DailyLater

/-- DailyLater: one row more, and taken back -/
theorem dailyLater_holds : Rows.DailyLaterUptoCardSaid :=
  Claim7.holds_tied_plain_at .later [] _ _ _ _ DailyLater.saidUpto (fun _ h => by cases h) (by kernel_rfl) (fun _ h => by cases h) dailyLaterUpto_row_tie rfl ⟨rfl, rfl⟩ (by kernel_rfl) rfl DailyLater.plain (by kernel_rfl)
#print axioms dailyLater_holds
end Go.Proofs.YtejmndfdmikfaaaDoor
