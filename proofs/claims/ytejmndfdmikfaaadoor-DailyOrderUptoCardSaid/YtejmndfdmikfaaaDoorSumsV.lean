/- A view's balances: what an Apply answers and makes; sides added up in whatever order. No program in sight. -/
import Derived.Test.YtejmndfdmikfaaaDoorSumsM
import Derived.Test.YtejmndfdmikfaaaDoorSplit
import Derived.Laws.BitsLemmas
namespace Go.Proofs.YtejmndfdmikfaaaDoor.Kit
open Go

abbrev wr (x : Int) : Int := IntKind.i64.wrap x
theorem wr_def (x : Int) : wr x = (x + 9223372036854775808) % 18446744073709551616 - 9223372036854775808 := IntKind.wrap_i64 x
theorem wr_id {x : Int} (h : -9223372036854775808 ≤ x ∧ x ≤ 9223372036854775807) : wr x = x := by rw [wr_def]; omega
theorem wr_add (x y : Int) : wr (wr x + wr y) = wr (x + y) := by rw [wr_def, wr_def, wr_def, wr_def]; omega
theorem wr_add' (x y : Int) : wr (wr x + y) = wr (x + y) := by rw [wr_def, wr_def, wr_def]; omega
theorem wr_sub (x y : Int) : wr (x + wr (y - x)) = wr y := by rw [wr_def, wr_def, wr_def]; omega
theorem wr_range (x : Int) : -9223372036854775808 ≤ wr x ∧ wr x ≤ 9223372036854775807 := by rw [wr_def]; omega

theorem count_bounds (K : List (List UInt8)) (O : List UInt8 → Int) (n : List UInt8) : 0 ≤ count K O n ∧ count K O n ≤ K.length := by
  unfold count
  induction K with
  | nil => simp [tot_nil]
  | cons k K ih =>
    rw [tot_cons, List.length_cons]
    split <;> omega

/-! ### Sides of a list of balances -/
def dS (xs : List Int) : Int := (xs.map fun a => if 0 < a then a else 0).sum
def cS (xs : List Int) : Int := (xs.map fun a => if 0 < a then 0 else -a).sum
theorem dS_app (a b : List Int) : dS (a ++ b) = dS a + dS b := by simp [dS]
theorem cS_app (a b : List Int) : cS (a ++ b) = cS a + cS b := by simp [cS]
theorem dS_one (a : Int) : dS [a] = if 0 < a then a else 0 := by simp [dS]
theorem cS_one (a : Int) : cS [a] = if 0 < a then 0 else -a := by simp [cS]
theorem dS_nonneg (xs : List Int) : 0 ≤ dS xs := by
  unfold dS
  induction xs with
  | nil => simp
  | cons x xs ih => rw [List.map_cons, List.sum_cons]; split <;> omega
theorem cS_nonneg (xs : List Int) : 0 ≤ cS xs := by
  unfold cS
  induction xs with
  | nil => simp
  | cons x xs ih => rw [List.map_cons, List.sum_cons]; split <;> omega
theorem isum_perm {a b : List Int} (h : a.Perm b) : a.sum = b.sum := by
  induction h with
  | nil => rfl
  | cons x _ ih => rw [List.sum_cons, List.sum_cons, ih]
  | swap x y l => rw [List.sum_cons, List.sum_cons, List.sum_cons, List.sum_cons]; omega
  | trans _ _ h1 h2 => exact h1.trans h2
theorem dS_perm {a b : List Int} (h : a.Perm b) : dS a = dS b := isum_perm (h.map _)
theorem cS_perm {a b : List Int} (h : a.Perm b) : cS a = cS b := isum_perm (h.map _)
theorem dS_names (K : List (List UInt8)) (O : List UInt8 → Int) : dS (K.map O) = debits K O := by
  unfold dS debits tot
  rw [List.map_map]
  rfl
theorem cS_names (K : List (List UInt8)) (O : List UInt8 → Int) : cS (K.map O) = credits K O := by
  unfold cS credits tot
  rw [List.map_map]
  rfl
/-- What `sides` answers. -/
def sidesA (xs : List Int) : Int × Int × Bool := if dS xs ≤ top ∧ cS xs ≤ top then (dS xs, cS xs, true) else (0, 0, false)
theorem sidesA_perm {a b : List Int} (h : a.Perm b) : sidesA a = sidesA b := by
  unfold sidesA
  rw [dS_perm h, cS_perm h]

/-! ### Apply -/
def rowOk (r : List UInt8 × Int) : Bool := goodA r.1 && decide (r.2 ≠ -9223372036854775808)
def rowsOk (rows : List (List UInt8 × Int)) : Bool := rows.all rowOk
/-- The balances behind rows that are taken. -/
def okE (K : List (List UInt8)) (O : List UInt8 → Int) (rows : List (List UInt8 × Int)) : Prop := rowsOk rows = true ∧ Fits (names2 K (rowNames rows)) (plusO O (rowsAt rows))
theorem okE_any {K L : List (List UInt8)} {O : List UInt8 → Int} (hK : Covers K O) (hL : Covers L O) (rows : List (List UInt8 × Int)) : okE K O rows ↔ okE L O rows :=
  ⟨fun h => ⟨h.1, h.2.any (hK.plus rows) (hL.plus rows)⟩, fun h => ⟨h.1, h.2.any (hL.plus rows) (hK.plus rows)⟩⟩
theorem rowsOk_good {rows : List (List UInt8 × Int)} (h : rowsOk rows = true) {r : List UInt8 × Int} (hr : r ∈ rows) : goodA r.1 = true ∧ r.2 ≠ -9223372036854775808 := by
  have := List.all_eq_true.1 h r hr
  simpa [rowOk] using this
theorem rowsOk_take {rows : List (List UInt8 × Int)} (h : rowsOk rows = true) (n : Nat) : rowsOk (rows.take n) = true :=
  List.all_eq_true.2 fun r hr => List.all_eq_true.1 h r (List.mem_of_mem_take hr)
theorem plusO_good {O : List UInt8 → Int} (hO : ∀ k, O k ≠ 0 → goodA k = true) {rows : List (List UInt8 × Int)} (h : rowsOk rows = true) : ∀ k, plusO O (rowsAt rows) k ≠ 0 → goodA k = true := by
  intro k hk
  by_cases h0 : O k = 0
  · have : rowsAt rows k ≠ 0 := fun e => hk (by unfold plusO; rw [h0, e]; rfl)
    obtain ⟨r, hr, e⟩ := mem_rowNames.1 ((Covers.rows rows).2 k this)
    rw [← e]
    exact (rowsOk_good h hr).1
  · exact hO k h0
theorem names2_length (K L : List (List UInt8)) : (names2 K L).length ≤ K.length + L.length := by
  unfold names2
  rw [List.length_append]
  have := List.length_filter_le (fun k => !K.contains k) L
  omega
theorem rowNames_length : ∀ rows : List (List UInt8 × Int), (rowNames rows).length ≤ rows.length
  | [] => Nat.le_refl _
  | r :: l => by
    have h1 := names2_length [r.1] (rowNames l)
    have h2 := rowNames_length l
    simp only [rowNames, List.length_cons, List.length_nil] at *
    omega
/-- A sum of amounts stays within its number of steps. -/
theorem rowsAt_abs {rows : List (List UInt8 × Int)} (h : ∀ r ∈ rows, -9223372036854775808 ≤ r.2 ∧ r.2 ≤ 9223372036854775807) (n : List UInt8) :
    -(9223372036854775808 * (rows.length : Int)) ≤ rowsAt rows n ∧ rowsAt rows n ≤ 9223372036854775808 * (rows.length : Int) := by
  induction rows with
  | nil => simp [rowsAt_nil]
  | cons r rows ih =>
    have h1 := ih fun x hx => h x (List.mem_cons_of_mem _ hx)
    have h2 := h r (List.mem_cons_self ..)
    rw [rowsAt_cons, List.length_cons]
    split <;> omega
theorem rowsAt_snoc (rows : List (List UInt8 × Int)) (r : List UInt8 × Int) (n : List UInt8) : rowsAt (rows ++ [r]) n = rowsAt rows n + if r.1 = n then r.2 else 0 := by
  rw [rowsAt_app, rowsAt_cons, rowsAt_nil]
  omega
/-- Set so far: the names in P have their new balance. -/
def midO (O O' : List UInt8 → Int) (P : List (List UInt8)) : List UInt8 → Int := fun k => if k ∈ P then O' k else O k
theorem midO_nil (O O' : List UInt8 → Int) : midO O O' [] = O := by
  funext k
  simp [midO]
theorem midO_step (O O' : List UInt8 → Int) (P : List (List UInt8)) (n : List UInt8) : setO (midO O O' P) n (O' n) = midO O O' (P ++ [n]) := by
  funext k
  unfold setO midO
  by_cases h : k = n
  · subst h; simp
  · simp [h]
theorem midO_all {O O' : List UInt8 → Int} {P : List (List UInt8)} (h : ∀ k, k ∉ P → O' k = O k) : midO O O' P = O' := by
  funext k
  unfold midO
  split
  · rfl
  · exact (h k ‹_›).symm
/-! ### What a view tells -/
/-- The rows of a state. -/
def rowsOf (T : List (List UInt8)) (O : List UInt8 → Int) : List (List UInt8 × Int) := T.map fun n => (n, O n)
/-- A state told once more: the same view. -/
theorem told_back {N K : List (List UInt8)} {O : List UInt8 → Int} (hK : Covers K O) (hF : Fits K O) (hg : ∀ k, O k ≠ 0 → goodA k = true) (hN : Told N O) :
    okE [] (fun _ => 0) (rowsOf (N.filter fun n => O n != 0) O) ∧ plusO (fun _ => 0) (rowsAt (rowsOf (N.filter fun n => O n != 0) O)) = O := by
  have hT : Owned (N.filter fun n => O n != 0) O := ⟨hN.1.sublist List.filter_sublist, fun n => by
    rw [List.mem_filter, hN.2]
    constructor
    · rintro ⟨_, hn⟩; simpa using hn
    · intro hn; exact ⟨⟨n, hn, under_self n⟩, by simpa using hn⟩⟩
  have e : plusO (fun _ => 0) (rowsAt (rowsOf (N.filter fun n => O n != 0) O)) = O := by
    rw [plusO_zero]
    exact hT.rows
  refine ⟨⟨?_, ?_⟩, e⟩
  · refine List.all_eq_true.2 fun r hr => ?_
    obtain ⟨n, hn, rfl⟩ := List.mem_map.1 hr
    have hn0 := (hT.2 n).1 hn
    have := hF.1 n
    unfold top at this
    simp only [rowOk, hg n hn0, Bool.true_and, decide_eq_true_eq]
    omega
  · rw [e]
    have h0 : Covers [] (fun _ : List UInt8 => (0 : Int)) := ⟨List.nodup_nil, fun k hk => absurd rfl hk⟩
    have := h0.plus (rowsOf (N.filter fun n => O n != 0) O)
    rw [e] at this
    exact hF.any hK this
end Go.Proofs.YtejmndfdmikfaaaDoor.Kit
