/- A balance set: what it does to the sums at and above a name. No walk. -/
import Derived.Test.YtejmndfdmikfaaaDoorApplyM
namespace Go.Proofs.YtejmndfdmikfaaaDoor.Kit
open Go Go.RowKit

theorem ups_nodup : ∀ (l : Nat) (s : List UInt8), s.length ≤ l → (ups s).Nodup
  | l, s, hl => by
    cases h : above s with
    | none => rw [ups_root h]; simp
    | some p =>
      have hlt := above_lt h
      cases l with
      | zero => omega
      | succ l =>
        rw [ups_step h, List.nodup_cons]
        exact ⟨fun hm => under_before h ((mem_ups l p (by omega)).1 hm) rfl, ups_nodup l p (by omega)⟩
theorem ups_good : ∀ (l : Nat) (s : List UInt8), s.length ≤ l → goodA s = true → ∀ n ∈ ups s, goodA n = true
  | l, s, hl, hg, n, hn => by
    cases h : above s with
    | none =>
      rw [ups_root h] at hn
      obtain rfl := List.mem_singleton.1 hn
      exact hg
    | some p =>
      have hlt := above_lt h
      cases l with
      | zero => omega
      | succ l =>
        rw [ups_step h] at hn
        rcases List.mem_cons.1 hn with rfl | hn
        · exact hg
        · exact ups_good l p (by omega) (goodA_above hg h) n hn
section
variable (K : List (List UInt8)) (O : List UInt8 → Int)
/-- Sums at and below a name, those of the names in pre with d more. -/
def allF (d : Int) (pre : List (List UInt8)) : List UInt8 → Int := fun n => wr (rollup K O n + if n ∈ pre then d else 0)
def manyF (st : Int) (pre : List (List UInt8)) : List UInt8 → Int := fun n => count K O n + if n ∈ pre then st else 0
theorem allF_nil (d : Int) : allF K O d [] = fun n => wr (rollup K O n) := by funext n; simp [allF]
theorem manyF_nil (st : Int) : manyF K O st [] = fun n => count K O n := by funext n; simp [manyF]
theorem allF_step (d : Int) {pre : List (List UInt8)} {x : List UInt8} (hx : x ∉ pre) : setO (allF K O d pre) x (wr (allF K O d pre x + wr d)) = allF K O d (pre ++ [x]) := by
  funext n
  unfold setO allF
  by_cases h : n = x
  · subst h
    simp only [if_true, hx, if_false, List.mem_append, List.mem_singleton, or_true, Int.add_zero]
    exact wr_add _ _
  · simp [h]
theorem manyF_step (st : Int) {pre : List (List UInt8)} {x : List UInt8} (hx : x ∉ pre) (hb : -9223372036854775808 ≤ count K O x + st ∧ count K O x + st ≤ 9223372036854775807) :
    setO (manyF K O st pre) x (wr (manyF K O st pre x + st)) = manyF K O st (pre ++ [x]) := by
  funext n
  unfold setO manyF
  by_cases h : n = x
  · subst h
    simp only [if_true, hx, if_false, List.mem_append, List.mem_singleton, or_true, Int.add_zero]
    exact wr_id hb
  · simp [h]
/-- How the number of balances changes. -/
def stepOf (old a : Int) : Int := (if a ≠ 0 then 1 else 0) - (if old ≠ 0 then 1 else 0)
variable {K O}
theorem allF_ups {n : List UInt8} {a : Int} (hK : Covers K O) (hL : Covers K (setO O n a)) : allF K O (a - O n) (ups n) = fun m => wr (rollup K (setO O n a) m) := by
  funext m
  unfold allF
  rw [rollup_set hK hL]
  have := mem_ups n.length n (n := m) (Nat.le_refl _)
  by_cases h : under m n = true
  · rw [if_pos h, if_pos (this.2 h)]
  · rw [if_neg h, if_neg (fun hm => h (this.1 hm))]
theorem manyF_ups {n : List UInt8} {a : Int} (hK : Covers K O) (hL : Covers K (setO O n a)) : manyF K O (stepOf (O n) a) (ups n) = fun m => count K (setO O n a) m := by
  funext m
  unfold manyF stepOf
  rw [count_set hK hL]
  have := mem_ups n.length n (n := m) (Nat.le_refl _)
  by_cases h : under m n = true
  · rw [if_pos h, if_pos (this.2 h)]
  · rw [if_neg h, if_neg (fun hm => h (this.1 hm))]
theorem many_bound {n x : List UInt8} {a : Int} (hK : Covers K O) (hL : Covers K (setO O n a)) (hlen : K.length ≤ 9223372036854775807) (hx : x ∈ ups n) :
    -9223372036854775808 ≤ count K O x + stepOf (O n) a ∧ count K O x + stepOf (O n) a ≤ 9223372036854775807 := by
  have h1 := count_bounds K (setO O n a) x
  have hu := (mem_ups n.length n (n := x) (Nat.le_refl _)).1 hx
  rw [count_set hK hL, if_pos hu] at h1
  unfold stepOf
  omega
end
end Go.Proofs.YtejmndfdmikfaaaDoor.Kit
