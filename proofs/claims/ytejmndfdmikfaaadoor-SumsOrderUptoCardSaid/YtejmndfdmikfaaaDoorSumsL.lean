/- The laws of sums, in plain words: sums on the way of a walk over what a view tells. No program in sight. -/
import Derived.Test.YtejmndfdmikfaaaDoorSumsV
namespace Go.Proofs.YtejmndfdmikfaaaDoor.Kit
open Go

section
variable {K N : List (List UInt8)} {O : List UInt8 → Int}
theorem take_snoc {α : Type} {l : List α} {i : Nat} (h : i < l.length) : l.take (i + 1) = l.take i ++ [l[i]] := List.take_succ_eq_append_getElem h

/-- One's own, and of the first j names what stands at and below those right below. -/
def sumIn (K N : List (List UInt8)) (O : List UInt8 → Int) (n : List UInt8) (j : Nat) : Int := O n + tot (N.take j) fun c => if kid n c = true then rollup K O c else 0
theorem sumIn_zero (n : List UInt8) : sumIn K N O n 0 = O n := by unfold sumIn; rw [List.take_zero, tot_nil]; omega
theorem sumIn_step (n : List UInt8) {j : Nat} (h : j < N.length) : sumIn K N O n (j + 1) = sumIn K N O n j + if kid n N[j] = true then rollup K O N[j] else 0 := by
  unfold sumIn
  rw [take_snoc h, tot_app, tot_cons, tot_nil]
  omega
theorem sumIn_fits (hK : Covers K O) (hF : Fits K O) (hN : N.Nodup) (n : List UInt8) (j : Nat) : -top ≤ sumIn K N O n j ∧ sumIn K N O n j ≤ top := by
  unfold sumIn
  rw [kids_part hK (hN.sublist (List.take_sublist j N)) n]
  exact part_fits hF _
theorem sumIn_all (hK : Covers K O) (hN : Told N O) (n : List UInt8) : sumIn K N O n N.length = rollup K O n := by
  unfold sumIn
  rw [List.take_length]
  exact (rollup_kids hK (rise_nodup hN.1) hN.2 n).symm
/-- The roots among the first i names. -/
def sumRoots (K N : List (List UInt8)) (O : List UInt8 → Int) (i : Nat) : Int := tot (N.take i) fun c => if root c = true then rollup K O c else 0
theorem sumRoots_zero : sumRoots K N O 0 = 0 := rfl
theorem sumRoots_step {j : Nat} (h : j < N.length) : sumRoots K N O (j + 1) = sumRoots K N O j + if root N[j] = true then rollup K O N[j] else 0 := by
  unfold sumRoots
  rw [take_snoc h, tot_app, tot_cons, tot_nil]
  omega
theorem sumRoots_fits (hF : Fits K O) (hN : N.Nodup) (j : Nat) : -top ≤ sumRoots K N O j ∧ sumRoots K N O j ≤ top := by
  unfold sumRoots
  rw [roots_part (hN.sublist (List.take_sublist j N))]
  exact part_fits hF _
theorem sumRoots_all (hN : Told N O) : sumRoots K N O N.length = debits K O - credits K O := by
  unfold sumRoots
  rw [List.take_length, rollup_roots (rise_nodup hN.1) hN.2, sides_diff]
def sumUp (N : List (List UInt8)) (O : List UInt8 → Int) (i : Nat) : Int := debits (N.take i) O
def sumDown (N : List (List UInt8)) (O : List UInt8 → Int) (i : Nat) : Int := credits (N.take i) O
theorem sumUp_zero : sumUp N O 0 = 0 := rfl
theorem sumDown_zero : sumDown N O 0 = 0 := rfl
theorem sumUp_step {j : Nat} (h : j < N.length) : sumUp N O (j + 1) = sumUp N O j + if 0 < O N[j] then O N[j] else 0 := by
  unfold sumUp debits
  rw [take_snoc h, tot_app, tot_cons, tot_nil]
  omega
theorem sumDown_step {j : Nat} (h : j < N.length) : sumDown N O (j + 1) = sumDown N O j + if 0 < O N[j] then 0 else - O N[j] := by
  unfold sumDown credits
  rw [take_snoc h, tot_app, tot_cons, tot_nil]
  omega
theorem debits_nonneg (K : List (List UInt8)) (O : List UInt8 → Int) : 0 ≤ debits K O := by
  rw [← dS_names]; exact dS_nonneg _
theorem credits_nonneg (K : List (List UInt8)) (O : List UInt8 → Int) : 0 ≤ credits K O := by
  rw [← cS_names]; exact cS_nonneg _
theorem debits_take (N : List (List UInt8)) (O : List UInt8 → Int) (i : Nat) : debits (N.take i) O ≤ debits N O := by
  have h : debits N O = debits (N.take i) O + debits (N.drop i) O := by
    unfold debits
    rw [← tot_app, List.take_append_drop]
  have := debits_nonneg (N.drop i) O
  omega
theorem credits_take (N : List (List UInt8)) (O : List UInt8 → Int) (i : Nat) : credits (N.take i) O ≤ credits N O := by
  have h : credits N O = credits (N.take i) O + credits (N.drop i) O := by
    unfold credits
    rw [← tot_app, List.take_append_drop]
  have := credits_nonneg (N.drop i) O
  omega
theorem sumUp_all (hK : Covers K O) (hN : Told N O) : sumUp N O N.length = debits K O := by
  unfold sumUp
  rw [List.take_length]
  exact debits_any hN.covers hK
theorem sumDown_all (hK : Covers K O) (hN : Told N O) : sumDown N O N.length = credits K O := by
  unfold sumDown
  rw [List.take_length]
  exact credits_any hN.covers hK
theorem sumUp_fits (hK : Covers K O) (hF : Fits K O) (hN : Told N O) (i : Nat) : 0 ≤ sumUp N O i ∧ sumUp N O i ≤ top := by
  have h1 := debits_take N O i
  have h2 := debits_any hN.covers hK
  have h3 := hF.2.1
  have h4 := debits_nonneg (N.take i) O
  unfold sumUp
  omega
theorem sumDown_fits (hK : Covers K O) (hF : Fits K O) (hN : Told N O) (i : Nat) : 0 ≤ sumDown N O i ∧ sumDown N O i ≤ top := by
  have h1 := credits_take N O i
  have h2 := credits_any hN.covers hK
  have h3 := hF.2.2
  have h4 := credits_nonneg (N.take i) O
  unfold sumDown
  omega
/-- How many of the first i names bear a balance of their own. -/
def ownTill (N : List (List UInt8)) (O : List UInt8 → Int) (i : Nat) : Nat := ((N.take i).filter fun n => O n != 0).length
theorem ownTill_zero : ownTill N O 0 = 0 := rfl
theorem ownTill_step {j : Nat} (h : j < N.length) : ownTill N O (j + 1) = ownTill N O j + if O N[j] = 0 then 0 else 1 := by
  unfold ownTill
  rw [take_snoc h, List.filter_append, List.length_append, List.filter_cons]
  by_cases h0 : O N[j] = 0 <;> simp [h0]
theorem filter_take_at {α : Type} (p : α → Bool) : ∀ (l : List α) (i : Nat) (h : i < l.length), p l[i] = true → (l.filter p)[((l.take i).filter p).length]? = some l[i]
  | x :: l, 0, _, hp => by simp only [List.getElem_cons_zero] at hp ⊢; simp [hp]
  | x :: l, i + 1, h, hp => by
    simp only [List.getElem_cons_succ] at hp ⊢
    have := filter_take_at p l i (by simpa using h) hp
    rw [List.take_succ_cons, List.filter_cons, List.filter_cons]
    split
    · rw [List.length_cons, List.getElem?_cons_succ]
      exact this
    · exact this
theorem ownTill_at {j : Nat} (h : j < N.length) (h0 : O N[j] ≠ 0) : (N.filter fun n => O n != 0)[ownTill N O j]? = some N[j] :=
  filter_take_at (fun n => O n != 0) N j h (by simpa using h0)
theorem ownTill_all : ownTill N O N.length = (N.filter fun n => O n != 0).length := by
  unfold ownTill
  rw [List.take_length]
end
/-- The rows' sum, as far as the walk has come. -/
theorem total_all {K : List (List UInt8)} {rows : List (List UInt8 × Int)} (h : Covers K (rowsAt rows)) : (rows.map (·.2)).sum = debits K (rowsAt rows) - credits K (rowsAt rows) := by
  rw [← tot_rows rows h, sides_diff]
theorem sum_snoc (rows : List (List UInt8 × Int)) (r : List UInt8 × Int) : ((rows ++ [r]).map (·.2)).sum = (rows.map (·.2)).sum + r.2 := by simp
/-- Rows taken, and their opposites: taken again. -/
theorem back_ok {K L : List (List UInt8)} {O : List UInt8 → Int} {rows : List (List UInt8 × Int)} (hK : Covers K O) (hF : Fits K O) (h : rowsOk rows = true) (hi : ∀ r ∈ rows, r.2 ≤ 9223372036854775807) (hL : Covers L (plusO O (rowsAt rows))) :
    okE L (plusO O (rowsAt rows)) (rows.map fun r => (r.1, -r.2)) := by
  refine ⟨?_, ?_⟩
  · refine List.all_eq_true.2 fun r hr => ?_
    obtain ⟨q, hq, rfl⟩ := List.mem_map.1 hr
    have h1 := rowsOk_good h hq
    simp only [rowOk, h1.1, Bool.true_and, decide_eq_true_eq]
    have := hi q hq
    omega
  · have := hL.plus (rows.map fun r => (r.1, -r.2))
    rw [plusO_back] at this ⊢
    exact hF.any hK this
end Go.Proofs.YtejmndfdmikfaaaDoor.Kit
