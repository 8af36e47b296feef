/- sums.wide: a number in two words. -/
import Derived.Test.YtejmndfdmikfaaaDoorMoney
import Derived.Test.YtejmndfdmikfaaaDoorApplyM
namespace Go.Proofs.YtejmndfdmikfaaaDoor.Kit
open Go Go.RowKit

theorem Tryd.wide_size : (Tryd.prog.info? 78).map (·.size) = some 2 := by kernel_rfl
set_option maxHeartbeats 1000000 in
theorem plus_calls (w : World) (x a : Int) (hx : -85070591730234615865843651857942052864 ≤ x ∧ x ≤ 85070591730234615865843651857942052864) (ha : -9223372036854775808 ≤ a ∧ a ≤ 9223372036854775807) :
    Calls Tryd.prog 32 #[wideV x, .int .i64 a] w fun e w' => e = .returned (wideV (x + a)) ∧ New w w' := by
  obtain ⟨h, hh⟩ : ∃ h, x / 18446744073709551616 = h := ⟨_, rfl⟩
  obtain ⟨l, hl⟩ : ∃ l, x % 18446744073709551616 = l := ⟨_, rfl⟩
  have l0 : 0 ≤ l ∧ l < 18446744073709551616 := by omega
  have h0 : -9223372036854775800 ≤ h ∧ h ≤ 9223372036854775800 := by omega
  have e1 : wideV x = .agg #[.int .i64 h, .int .u64 l] := by unfold wideV; rw [hh, hl]
  obtain ⟨u, hu⟩ : ∃ u, IntKind.u64.wrap a = u := ⟨_, rfl⟩
  have hu' : u = a % 18446744073709551616 := by rw [← hu, IntKind.wrap_u64]
  obtain ⟨s, hs⟩ : ∃ s, IntKind.u64.wrap (l + u) = s := ⟨_, rfl⟩
  have hs' : s = (l + u) % 18446744073709551616 := by rw [← hs, IntKind.wrap_u64]
  have s0 : 0 ≤ s ∧ s < 18446744073709551616 := by omega
  have wp1 : IntKind.i64.wrap (h + 1) = h + 1 := by rw [IntKind.wrap_i64]; omega
  have wp2 : IntKind.i64.wrap (h - 1) = h - 1 := by rw [IntKind.wrap_i64]; omega
  have wp3 : IntKind.i64.wrap (h + 1 - 1) = h := by rw [IntKind.wrap_i64]; omega
  rw [e1]
  have res : ∀ h', h' = (x + a) / 18446744073709551616 → wideV (x + a) = .agg #[.int .i64 h', .int .u64 s] := by
    intro h' e
    have : s = (x + a) % 18446744073709551616 := by omega
    unfold wideV
    rw [e, this]
  by_cases hc : s < l
  · by_cases hn : a < 0
    · rw [res h (by omega)]
      clear res hu' hs' hh hl
      go_enter Tryd.func32, Tryd.ntmps32
      go_wp2
      refine bodyPost_ret (results_cell_row rfl _ _ _ _ _ _ _ rfl (heap_alloc2_new w _ _) Tryd.underlying78 rfl Tryd.wide_size) rfl ?_
      exact ⟨rfl, (Kp.alloc _ _ _).trans (Kp.alloc _ _ _) (fun _ _ h => h) (fun _ _ h => h)⟩
    · rw [res (h + 1) (by omega)]
      clear res hu' hs' hh hl
      go_enter Tryd.func32, Tryd.ntmps32
      go_wp2
      refine bodyPost_ret (results_cell_row rfl _ _ _ _ _ _ _ rfl (heap_alloc2_new w _ _) Tryd.underlying78 rfl Tryd.wide_size) rfl ?_
      exact ⟨rfl, (Kp.alloc _ _ _).trans (Kp.alloc _ _ _) (fun _ _ h => h) (fun _ _ h => h)⟩
  · by_cases hn : a < 0
    · rw [res (h - 1) (by omega)]
      clear res hu' hs' hh hl
      go_enter Tryd.func32, Tryd.ntmps32
      go_wp2
      refine bodyPost_ret (results_cell_row rfl _ _ _ _ _ _ _ rfl (heap_alloc2_new w _ _) Tryd.underlying78 rfl Tryd.wide_size) rfl ?_
      exact ⟨rfl, (Kp.alloc _ _ _).trans (Kp.alloc _ _ _) (fun _ _ h => h) (fun _ _ h => h)⟩
    · rw [res h (by omega)]
      clear res hu' hs' hh hl
      go_enter Tryd.func32, Tryd.ntmps32
      go_wp2
      refine bodyPost_ret (results_cell_row rfl _ _ _ _ _ _ _ rfl (heap_alloc2_new w _ _) Tryd.underlying78 rfl Tryd.wide_size) rfl ?_
      exact ⟨rfl, (Kp.alloc _ _ _).trans (Kp.alloc _ _ _) (fun _ _ h => h) (fun _ _ h => h)⟩
/-- Is it an amount? -/
def isAmt (x : Int) : Bool := decide (-9223372036854775807 ≤ x ∧ x ≤ 9223372036854775807)
def AmountPost (w : World) (x : Int) (e : Ending) (w' : World) : Prop := ∃ v, e = .returned (.tuple #[.int .i64 v, .bool (isAmt x)]) ∧ (isAmt x = true → v = x) ∧ New w w'
set_option maxHeartbeats 1000000 in
theorem amount_calls (w : World) (x : Int) (hx : -85070591730234615865843651857942052864 ≤ x ∧ x ≤ 85070591730234615865843651857942052864) :
    Calls Tryd.prog 33 #[wideV x] w (AmountPost w x) := by
  obtain ⟨h, hh⟩ : ∃ h, x / 18446744073709551616 = h := ⟨_, rfl⟩
  obtain ⟨l, hl⟩ : ∃ l, x % 18446744073709551616 = l := ⟨_, rfl⟩
  have e1 : wideV x = .agg #[.int .i64 h, .int .u64 l] := by unfold wideV; rw [hh, hl]
  obtain ⟨v, hv⟩ : ∃ v, IntKind.i64.wrap l = v := ⟨_, rfl⟩
  have hv' : v = (l + 9223372036854775808) % 18446744073709551616 - 9223372036854775808 := by rw [← hv, IntKind.wrap_i64]
  have res : ∀ b w', b = isAmt x → (isAmt x = true → v = x) → New w w' → AmountPost w x (.returned (.tuple #[.int .i64 v, .bool b])) w' := by
    rintro b w' rfl h2 h3
    exact ⟨v, rfl, h2, h3⟩
  have hvx : isAmt x = true → v = x := fun hb => by
    have := of_decide_eq_true hb
    omega
  have key : ∀ b : Bool, (b = true ↔ -9223372036854775807 ≤ x ∧ x ≤ 9223372036854775807) → b = isAmt x := by
    intro b hb
    unfold isAmt
    cases b with
    | true => exact (decide_eq_true (hb.1 rfl)).symm
    | false => exact (decide_eq_false fun h => by have := hb.2 h; cases this).symm
  have RES := Lib.hid (And.intro (fun b w' hb h3 => res b w' (key b hb) hvx h3) (And.intro hh (And.intro hl hv')))
  rw [e1]
  clear res hvx key hh hl hv' e1 hx
  go_enter Tryd.func33, Tryd.ntmps33
  by_cases c1 : h = 0
  · subst c1
    by_cases c2 : 0 ≤ v
    · have c3 : v ≠ -9223372036854775808 := by omega
      go_wp2_with (go_at_call 31; refine (Check_calls _ _).mono ?_; rw [if_neg c3]; rintro e w' ⟨rfl, rfl⟩)
      go_ret2
      refine RES.out.1 _ _ ?_ (Kp.alloc _ _ _)
      have := RES.out.2
      simp only [true_iff]
      omega
    · have c4 : v < 0 := by omega
      go_wp2
      go_ret2
      refine RES.out.1 _ _ ?_ (Kp.alloc _ _ _)
      have := RES.out.2
      simp only [Bool.false_eq_true, false_iff]
      omega
  · by_cases c5 : h = -1
    · subst c5
      by_cases c2 : v < 0
      · by_cases c6 : v = -9223372036854775808
        · subst c6
          go_wp2_with (go_at_call 31; refine (Check_calls _ _).mono ?_; rw [if_pos rfl]; rintro e w' ⟨rfl, rfl⟩)
          go_ret2
          refine RES.out.1 _ _ ?_ (Kp.alloc _ _ _)
          have := RES.out.2
          simp only [Bool.false_eq_true, false_iff]
          omega
        · go_wp2_with (go_at_call 31; refine (Check_calls _ _).mono ?_; rw [if_neg c6]; rintro e w' ⟨rfl, rfl⟩)
          go_ret2
          refine RES.out.1 _ _ ?_ (Kp.alloc _ _ _)
          have := RES.out.2
          simp only [true_iff]
          omega
      · go_wp2
        go_ret2
        refine RES.out.1 _ _ ?_ (Kp.alloc _ _ _)
        have := RES.out.2
        simp only [Bool.false_eq_true, false_iff]
        omega
    · go_wp2
      go_ret2
      refine RES.out.1 _ _ ?_ (Kp.alloc _ _ _)
      have := RES.out.2
      simp only [Bool.false_eq_true, false_iff]
      omega
end Go.Proofs.YtejmndfdmikfaaaDoor.Kit
