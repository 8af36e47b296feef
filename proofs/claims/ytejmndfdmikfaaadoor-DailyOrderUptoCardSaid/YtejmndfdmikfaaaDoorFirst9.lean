/- daybooklaw09.first: what must come whatever is asked. -/
import Derived.Test.YtejmndfdmikfaaaDoorApply9
import Derived.Laws.StructEq
namespace Go.Proofs.YtejmndfdmikfaaaDoor.Kit
open Go Go.RowKit

def nm9 : List UInt8 := [65]
def p9 : List Pst := [⟨0, 0, 9, 0, [], nm9, -30, [], []⟩, ⟨0, 0, 5, 0, [], nm9, 100, [], []⟩]
def r9 : List DR := [(nm9, 9, -30), (nm9, 5, 100)]
theorem p9_rows : p9.map Pst.dr = r9 := rfl
theorem p9_ok : ∀ p ∈ p9, p.Ok9 := by
  intro p hp
  simp only [p9, List.mem_cons, List.not_mem_nil, or_false] at hp
  rcases hp with rfl | rfl <;> exact ⟨by decide, by decide, by decide⟩
theorem RdC.of_blk {w : World} {g : Nat} {cs : List Value} {e : TypeId} {fr : Nat × Nat} (h : w.heap[g]? = some (.cells cs.toArray e fr)) : RdC w (some ⟨g, 0, none⟩) cs := by
  intro _
  refine ⟨g, 0, rfl, fun j u hu => ?_⟩
  rw [Nat.zero_add, cell_of_block h]
  simpa using hu
def own9 : DO := plusD (fun _ => []) r9
theorem own9_A : own9 nm9 = [(9, -30), (5, 100)] := by decide
theorem own9_not {n : List UInt8} (h : n ≠ nm9) : own9 n = [] := by
  unfold own9
  rw [plusD_not]
  unfold namesD r9
  simp [h]
theorem days9 : days [(9, -30), (5, 100)] = [(5, 100, 100), (9, -30, 70)] := by decide
theorem goodD9 : goodD nm9 = true := by
  have h : partsOf nm9 = [nm9] := partsOf_one (by decide)
  unfold goodD
  rw [h]
  decide
theorem ok9 : okD (fun _ => []) r9 := by
  refine ⟨?_, fun n => ?_⟩
  · unfold r9
    simp only [List.all_cons, List.all_nil, rowD, goodD9]
    decide
  · by_cases h : n = nm9
    · subst h
      show FitD (own9 nm9)
      rw [own9_A]
      refine fit_groups (grp_isG _) fun k x hx => ?_
      have hg : grp [(9, -30), (5, 100)] = [(5, [100]), (9, [-30])] := by decide
      rw [hg] at hx ⊢
      match k, hx with
      | 0, hx => cases hx; exact ⟨⟨by decide, by decide⟩, ⟨by decide, by decide⟩⟩
      | 1, hx => cases hx; exact ⟨⟨by decide, by decide⟩, ⟨by decide, by decide⟩⟩
    · show FitD (own9 n)
      rw [own9_not h]
      exact fit_none
theorem state9 {N : List (List UInt8)} (h : CovD N own9) : stateD N own9 = [⟨nm9, 5, 100, 100⟩, ⟨nm9, 9, -30, 70⟩] := by
  have h2 : CovD [nm9] own9 := ⟨by simp, fun n hn => Classical.byContradiction fun hk => hn (by rw [own9_not (by simpa using hk)]; rfl)⟩
  rw [state_same h h2 (SameD.refl _)]
  unfold stateD
  have : sortN [nm9] = [nm9] := List.perm_singleton.1 (sortN_perm [nm9])
  rw [this, List.flatMap_cons, List.flatMap_nil, List.append_nil, own9_A, days9]
  rfl
theorem bal9 : bal (own9 nm9) 8 = 100 := by rw [own9_A]; decide
set_option maxRecDepth 100000 in
set_option maxHeartbeats 4000000 in
theorem first9_calls (w : World) : Calls Tryd.prog 22 #[] w fun e w' => e = .returned (.bool true) ∧ New w w' := by
  go_enter Tryd.func22, Tryd.ntmps22
  go_wp2_with fail
  refine (New9_calls w).mono ?_
  rintro e W1 ⟨v, F, rfl, hV, hn, hF⟩
  have H1 := Lib.hid (And.intro hV (And.intro hn hF))
  clear hV hn hF
  go_wp2_with fail
  have n2 : New W1 (W1.alloc (.cells (p9.flatMap Pst.cells).toArray 35)) := Kp.alloc _ _ _
  have hA := Apply9_calls (W1.alloc (.cells (p9.flatMap Pst.cells).toArray 35)) v (fun _ => []) F 0 (some ⟨W1.heap.size, 0, none⟩) 2 2 p9 (H1.out.1.new n2) (RdC.of_blk (heap_alloc_new W1 _)) rfl p9_ok (by decide)
  refine Calls.mono (show Calls Tryd.prog 24 #[.pointer (some ⟨v, 0, none⟩), .slice (some ⟨W1.heap.size, 0, none⟩) 2 2] _ _ from hA) ?_
  have N2 := Lib.hid n2
  clear hA n2
  rintro e W2 (⟨_, rfl, hk2, F2, hv2, hF2⟩ | ⟨hno, _⟩)
  case inr => exact absurd ok9 hno
  have n12 : New w W2 := (H1.out.2.1.trans N2.out (fun _ _ h => h) (fun _ _ h => h)).trans hk2 (fun _ _ h => h) (fun k hk h => by have := H1.out.2.2 k h; omega)
  have H2 := Lib.hid (And.intro (show ViewD W2 v own9 F2 2 from hv2) n12)
  clear hv2 hk2 n12 hF2
  go_wp2_with fail
  refine (State9_calls W2 v own9 F2 2 H2.out.1 (by decide)).mono ?_
  rintro e W3 ⟨A, c, N, hcov, rfl, hO, hn3, hb⟩
  rw [state9 hcov] at hO ⊢
  obtain ⟨g, rfl⟩ := hO.some_ (by decide)
  have x0 : W3.cell? ⟨g, 0, none⟩ = some (.string ⟨#[65]⟩) := hO.cell (by rfl)
  have x1 : W3.cell? ⟨g, 1, none⟩ = some (.int .i64 5) := hO.cell (by rfl)
  have x2 : W3.cell? ⟨g, 2, none⟩ = some (.int .i64 100) := hO.cell (by rfl)
  have x3 : W3.cell? ⟨g, 3, none⟩ = some (.int .i64 100) := hO.cell (by rfl)
  have x4 : W3.cell? ⟨g, 4, none⟩ = some (.string ⟨#[65]⟩) := hO.cell (by rfl)
  have x5 : W3.cell? ⟨g, 5, none⟩ = some (.int .i64 9) := hO.cell (by rfl)
  have x6 : W3.cell? ⟨g, 6, none⟩ = some (.int .i64 (-30)) := hO.cell (by rfl)
  have x7 : W3.cell? ⟨g, 7, none⟩ = some (.int .i64 70) := hO.cell (by rfl)
  have hAt := At_calls W3 v own9 F2 2 nm9 8 (H2.out.1.new hn3) (by decide)
  rw [bal9] at hAt
  have H3 := Lib.hid (And.intro hn3 hAt)
  clear hn3 hAt hO hb hcov
  go_wp2_with fail
  refine Calls.mono (show Calls Tryd.prog 26 #[.pointer (some ⟨v, 0, none⟩), .string ⟨#[65]⟩, .int .i64 8] _ _ from H3.out.2) ?_
  rintro e w6 ⟨rfl, hn6⟩
  have H6 := Lib.hid hn6
  clear hn6
  go_wp2_with fail
  go_ret
  exact ⟨rfl, (H2.out.2.trans H3.out.1 (fun _ _ h => h) (fun _ _ h => h)).trans H6.out (fun _ _ h => h) (fun _ _ h => h)⟩
end Go.Proofs.YtejmndfdmikfaaaDoor.Kit
