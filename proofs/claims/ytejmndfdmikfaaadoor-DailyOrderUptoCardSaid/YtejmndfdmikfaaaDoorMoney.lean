/- money: Check, Add and Sub of amounts from 0 on. -/
import Derived.Test.YtejmndfdmikfaaaDoorProg
import Derived.Test.YtejmndfdmikfaaaDoorOwn
import Derived.Test.YtejmndfdmikfaaaDoorSumsV
namespace Go.Proofs.YtejmndfdmikfaaaDoor.Kit
open Go Go.RowKit

theorem Check_calls (w : World) (a : Int) :
    Calls Tryd.prog 31 #[.int .i64 a] w fun e w' => e = .returned (.int .i64 (if a = -9223372036854775808 then 10 else 0)) ∧ w = w' := by
  by_cases h : a = -9223372036854775808
  · subst h
    go_enter Tryd.func31, Tryd.ntmps31
    go_wp2
    go_ret
    exact ⟨rfl, rfl⟩
  · rw [if_neg h]
    go_enter Tryd.func31, Tryd.ntmps31
    go_wp2
    go_ret
    exact ⟨rfl, rfl⟩
theorem both_calls (w : World) (a b : Int) (ha : a ≠ -9223372036854775808) (hb : b ≠ -9223372036854775808) :
    Calls Tryd.prog 64 #[.int .i64 a, .int .i64 b] w fun e w' => e = .returned (.int .i64 0) ∧ w = w' := by
  have q1 : (a == (-9223372036854775808 : Int)) = false := by simpa using ha
  have q2 : (b == (-9223372036854775808 : Int)) = false := by simpa using hb
  clear ha hb
  go_enter Tryd.func64, Tryd.ntmps64
  go_wp2
  go_ret
  exact ⟨rfl, rfl⟩
/-- What Add answers of two amounts from 0 on. -/
def addE (a b : Int) : Value := if a + b ≤ 9223372036854775807 then .tuple #[.int .i64 (a + b), .int .i64 0] else .tuple #[.int .i64 0, .int .i64 11]
set_option maxHeartbeats 1000000 in
theorem Add_calls (w : World) (a b : Int) (ha : 0 ≤ a ∧ a ≤ 9223372036854775807) (hb : 0 ≤ b ∧ b ≤ 9223372036854775807) :
    Calls Tryd.prog 49 #[.int .i64 a, .int .i64 b] w fun e w' => e = .returned (addE a b) ∧ w = w' := by
  obtain ⟨a0, a1⟩ := ha
  obtain ⟨b0, b1⟩ := hb
  have na : decide (a < 0) = false := decide_eq_false (by omega)
  have nb : decide (b < 0) = false := decide_eq_false (by omega)
  unfold addE
  by_cases h : a + b ≤ 9223372036854775807
  · rw [if_pos h]
    have hw : IntKind.i64.wrap (a + b) = a + b := by rw [IntKind.wrap_i64]; omega
    have n1 : (a + b == (-9223372036854775808 : Int)) = false := by simp only [beq_eq_false_iff_ne, ne_eq]; omega
    have n2 : decide (a + b < 0) = false := decide_eq_false (by omega)
    go_enter Tryd.func49, Tryd.ntmps49
    go_wp2_with (go_at_call 64; refine (both_calls _ _ _ (by omega) (by omega)).mono ?_; rintro e w' ⟨rfl, rfl⟩)
    go_ret2
    exact ⟨rfl, rfl⟩
  · rw [if_neg h]
    obtain ⟨c, hc⟩ : ∃ c, a + b - 18446744073709551616 = c := ⟨_, rfl⟩
    have hw : IntKind.i64.wrap (a + b) = c := by rw [IntKind.wrap_i64]; omega
    have n2 : decide (c < 0) = true := decide_eq_true (by omega)
    clear h hc
    by_cases n3 : c = -9223372036854775808
    · subst n3
      go_enter Tryd.func49, Tryd.ntmps49
      go_wp2_with (go_at_call 64; refine (both_calls _ _ _ (by omega) (by omega)).mono ?_; rintro e w' ⟨rfl, rfl⟩)
      go_ret2
      exact ⟨rfl, rfl⟩
    have n4 : (c == (-9223372036854775808 : Int)) = false := by simpa using n3
    clear n3
    go_enter Tryd.func49, Tryd.ntmps49
    go_wp2_with (go_at_call 64; refine (both_calls _ _ _ (by omega) (by omega)).mono ?_; rintro e w' ⟨rfl, rfl⟩)
    go_ret2
    exact ⟨rfl, rfl⟩
set_option maxHeartbeats 1000000 in
theorem Sub_calls (w : World) (a b : Int) (ha : 0 ≤ a ∧ a ≤ 9223372036854775807) (hb : -9223372036854775807 ≤ b ∧ b ≤ 0) :
    Calls Tryd.prog 54 #[.int .i64 a, .int .i64 b] w fun e w' => e = .returned (addE a (-b)) ∧ w = w' := by
  have hw : IntKind.i64.wrap (-b) = -b := by rw [IntKind.wrap_i64]; omega
  have hA := Add_calls w a (-b) ha (by omega)
  obtain ⟨x, y, hxy⟩ : ∃ x y, addE a (-b) = .tuple #[x, .int .i64 y] := by unfold addE; split <;> exact ⟨_, _, rfl⟩
  rw [hxy] at hA ⊢
  clear hxy
  go_enter Tryd.func54, Tryd.ntmps54
  go_wp2_with (first | (go_at_call 64; refine (both_calls _ _ _ (by omega) (by omega)).mono ?_; rintro e w' ⟨rfl, rfl⟩) | (go_at_call 49; refine hA.mono ?_; rintro e w' ⟨rfl, rfl⟩))
  go_ret2
  exact ⟨rfl, rfl⟩
end Go.Proofs.YtejmndfdmikfaaaDoor.Kit
