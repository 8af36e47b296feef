/- Every Fuse and Crash: the program's disk answers as the document's. For every script (400 calls at most are played); three package-level tables hold what the program's text lays in them. -/
import Derived.Test.YtekcoeonlfmebaaGreatDoorCards
import Derived.Test.YtekcoeonlfmebaaGreatDoorTie
import Derived.Test.YtekcoeonlfmebaaGreatDoorM47
import Derived.Test.YtekcoeonlfmebaaGreatDoorZFactsFails
import Derived.WalkKit
import Derived.ProofKit
import Derived.OpenShut
import Derived.Carry
import Derived.Below
import Derived.SizedLaws
import Derived.Deep.DeepHandedRow
import Derived.Lib.LaidTab
namespace Go.Proofs.YtekcoeonlfmebaaGreatDoor
open Go.ChangeShapes Go.WideShapes Go.ChangeAt Go.RowKit Go.Proofs.YtekcoeonlfmebaaGreatDoor.Kit
namespace ZFails
theorem own : ownKnob Tryz.prog.godebug = none := by kernel_rfl
theorem laidOut : laidOutB Tryz.prog = true := by kernel_rfl
theorem cells_u64 : Tryz.prog.cellsOf 280 = 1 := by kernel_rfl
theorem cells_tab : Tryz.prog.cellsOf 297 = 20 := by kernel_rfl

theorem law_calls (W : World) (A : Option Addr) (n c : Nat) (ys : List OpS) (hO : RdS W A ys) (hn : n = ys.length) (hT : Tab W) :
    Calls Tryz.prog 6 #[.slice A n c] W fun e w' => e = .returned (.bool true) ∧ New W w' := by
  have H := Lib.hid (And.intro hO (And.intro hn hT))
  clear hO hn hT
  go_enter Tryz.func6, Tryz.ntmps6
  go_wp2_with fail
  refine (play_calls W A n c 4 ys H.out.1 H.out.2.1 H.out.2.2).mono ?_
  rintro e w1 ⟨rfl, n1⟩
  have H1 := Lib.hid n1
  clear n1
  go_wp2_with fail
  go_ret
  exact ⟨rfl, H1.out⟩

theorem laid_next {P : Program} {W : World} {x : String × DataW Unit} {l : List (String × DataW Unit)} {ps : List MemPlace} (h : DataW.LaidVars P W (x :: l) ps) : ∃ q, DataW.LaidVars P W l q := by
  obtain ⟨g, t, cs, fuel, p, q, _, _, _, _, h1, _⟩ := h
  exact ⟨q, h1⟩
theorem laid_tab {P : Program} {W : World} {name : String} {k : IntKind} {zs : List Int} {l : List (String × DataW Unit)} {ps : List MemPlace} {g : Nat} {t e : TypeId} {n : Nat}
    (hg : P.globalNamed name = some g) (hty : (P.globals[g]?).map (·.type) = some t) (ht : P.underlying t = some (.array n e)) (he : P.underlying e = some (.int k)) (hce : P.cellsOf e = 1) (hct : P.cellsOf t = n)
    (h : DataW.LaidVars P W ((name, Lib.tabData k zs) :: l) ps) : Lib.TabIs P W name k zs := by
  obtain ⟨g', t', cs, fuel, p, q, hg', ht', hvar, hd, _, _⟩ := h
  obtain rfl := Option.some.inj (hg.symm.trans hg')
  obtain rfl := Option.some.inj (hty.symm.trans ht')
  unfold Lib.TabIs
  rw [hvar, ← Lib.cells_of_tab ht he hce hct hd]
theorem pow_tab {W : World} (h : laidMetH Tryz.prog Rows.diskFailsRow.laid W) : Lib.TabIs Tryz.prog W "internal/strconv.uint64pow10" .u64 Lib.pow10Tab := by
  have hL : laidMet Tryz.prog Rows.diskFailsRow.laid W := h
  obtain ⟨ps, h1, _⟩ := hL
  obtain ⟨q, h2⟩ := laid_next h1
  obtain ⟨q, h3⟩ := laid_next h2
  exact laid_tab (n := 20) (t := 297) (e := 280) (g := 0) (by kernel_rfl) (by kernel_rfl) Tryz.underlying297 Tryz.underlying280 cells_u64 cells_tab h3

/-- The cells of a table. -/
def litCells : DataW Unit → Array Value
  | .agg ps => (ps.map fun | .lit (.int k z) => Value.int k z | _ => undef).toArray
  | _ => #[]
def putAt (w : World) (g : Nat) (cs : Array Value) : World := { w with heap := w.heap.modify g fun
      | .cells _ t frozen => .cells cs t frozen
      | o => o }
noncomputable def laidWorld (os : Os) : World :=
  putAt (putAt (putAt (World.holding Tryz.prog os ⟨#[], #[], []⟩) 1 (litCells Rows.laid_math_bits_deBruijn32tab)) 2 (litCells Rows.laid_math_bits_deBruijn64tab)) 0 (litCells Rows.laid_internal_strconv_uint64pow10)
theorem laid_met (os : Os) : laidMet Tryz.prog Rows.diskFailsRow.laid ((laidWorld os).forCall (fun _ _ => 0) ⟨#[], #[.slice none 0 0], []⟩).memory :=
  laidMet_of_run' 8 (by kernel_rfl) (by kernel_rfl)
theorem reads (os : Os) {H : Type} (enc : TypeId × Value → H) : ∃ places, DataW.whole enc Tryz.prog ((laidWorld os).forCall (fun _ _ => 0) ⟨#[], #[.slice none 0 0], []⟩).memory Tryz.f6.params.toList Rows.diskFailsSpec.vars false #[Value.slice none 0 0].toList 8 = some ([.nil], [], places) :=
  ⟨[], by kernel_rfl⟩

set_option maxRecDepth 100000 in
theorem lifted (os : Os) (started : os.Started) (H : Type) (enc : TypeId × Value → H) (F : Stop.Interp) :
    ReturnsInHanded {} Tryz.checked os 6 .any ((OpenSpec.ofChange Rows.diskFailsSpec).preRow enc Tryz.prog Tryz.f6 Rows.diskFailsRow.domain false Rows.diskFailsRow.laid) (((OpenSpec.ofChange Rows.diskFailsSpec).at F).post enc Tryz.prog Tryz.f6 false true false false) := by
  obtain ⟨places, hx⟩ := reads os enc
  refine returnsInHanded_of_row (C := Tryz.checked) (s := OpenSpec.ofChange Rows.diskFailsSpec) own started (by kernel_rfl) Tryz.func6
    (witness_row_at (enc := enc) (C := Tryz.checked) false (laidWorld os) #[.slice none 0 0] rfl (by kernel_rfl) (by kernel_rfl) (by kernel_rfl)
      (OpenSpec.preRow_of_cond 8 hx (by kernel_rfl) (fun k hk => by cases hk) (by kernel_rfl) (laid_met os))) ?_
  intro W base args ds gs before hval0 hW _ _ hsz0 hL0 _ _
  have hL := pow_tab hL0
  have hsz : (DataW.weightsEach Tryz.prog (Tryz.f6.params.toList ++ Rows.diskFailsSpec.plain.varTypes Tryz.prog) (ds ++ gs)).all (· ≤ reachBytes) = true := hsz0
  have hval : ∀ (j : Nat) t v, Tryz.f6.params[j]? = some t → args[j]? = some v → Value.okWide Tryz.prog W .any base t v := hval0
  have hW' := hW
  obtain ⟨p, q, hA0, hV, rfl, hfz, hnd⟩ := hW
  have hA : DataW.TrodAll enc Tryz.prog W 0 (fun _ => true) true Tryz.f6.params.toList args.toList ds p := hA0
  rw [Tryz.params6] at hA hval hsz
  obtain ⟨v0, d0, rfl, rfl, h0⟩ := trodAll_one hA
  obtain ⟨rfl, rfl⟩ := trodVars_none hV
  obtain ⟨a0, n0, c0, rfl⟩ := okWide_slice Tryz.underlying22 (hval 0 22 v0 rfl rfl)
  have h0k := h0
  obtain ⟨fuel0, hf0⟩ := h0
  clear hA0 hV hval0 hsz0
  simp only [List.append_nil] at hW' hsz
  have hlt : ∀ x ∈ p, x.block < W.heap.size := fun x hx => by simpa using hW'.lt x hx
  have hLt : Lite Tryz.prog 22 d0 := Lite.of_sized hsz (j := 0) rfl rfl
  obtain ⟨A1, e1, ys1, hv1, hO1⟩ := open_ops hf0 hLt
  simp only [Value.slice.injEq] at hv1
  obtain ⟨rfl, rfl, rfl⟩ := hv1
  refine (law_calls W a0 ys1.length c0 ys1 hO1 rfl hL).mono ?_
  rintro e W' ⟨rfl, hn⟩
  have bel : Below W.heap.size W W' := hn.below
  refine ⟨_, rfl, _, _, _, [], p, [], hW', trodAll_mk1 (shut_bool Tryz.underlying4 _), ?_, rfl, bel.frame _, fun h => by cases h⟩
  exact trodAll_mk1 (Below.trod laidOut (by kernel_rfl) (of_decide_eq_true (by kernel_rfl)) h0k bel (fun x hx => hlt x hx))

theorem said : Rows.DiskFailsSaid :=
  OpenClaim.holds_of_cond 6 Tryz.f6 rfl rfl rfl rfl rfl rfl rfl ⟨rfl, rfl, rfl, rfl, rfl⟩ rfl rfl rfl rfl rfl named Tryz.func6 closed
    (of_decide_eq_true (by kernel_rfl)) (by unfold Func.isWrapper; first | (rw [if_pos (by decide +kernel)]; kernel_rfl) | (rw [if_neg (by decide +kernel)]; exact ⟨rfl, rfl⟩))
    (fun os started H enc _ F => by rw [OpenClaim.pre_eq_preRow]; exact lifted os started H enc F)

theorem plain (f : FuncId) (fn : Func) (hf : Tryz.pinned.checked.prog.funcNamed "daybook/daybooklaw03.DiskFails" = some f) (hfn : Tryz.pinned.checked.prog.funcs[f]? = some fn) :
    false = Tryz.pinned.checked.prog.looks [] ∧ ∀ (j : Nat) t, fn.params[j]? = some t → Tryz.pinned.checked.prog.wantsStandIn t = false := by
  obtain rfl : f = 6 := Option.some.inj ((show Tryz.prog.funcNamed "daybook/daybooklaw03.DiskFails" = some 6 by kernel_rfl).symm.trans hf) |>.symm
  obtain rfl : fn = Tryz.f6 := (Option.some.inj (Tryz.func6.symm.trans hfn)).symm
  refine ⟨by kernel_rfl, fun j t ht => ?_⟩
  rw [Tryz.params6] at ht
  obtain rfl : t = 22 := by simpa using Array.mem_of_getElem? ht
  exact (show Tryz.prog.wantsStandIn 22 = false by kernel_rfl)
end ZFails

/-- Every Fuse and Crash: the program's disk answers as the document's. -/
theorem diskFails_holds : Rows.DiskFailsCardSaid :=
  Claim7.holds_tied_plain_at .later [] _ _ _ _ ZFails.said (fun _ h => by cases h) (by kernel_rfl) (fun _ h => by cases h) diskFails_row_tie rfl ⟨rfl, rfl⟩ (by kernel_rfl) rfl ZFails.plain (by kernel_rfl)
#print axioms diskFails_holds
end Go.Proofs.YtekcoeonlfmebaaGreatDoor
