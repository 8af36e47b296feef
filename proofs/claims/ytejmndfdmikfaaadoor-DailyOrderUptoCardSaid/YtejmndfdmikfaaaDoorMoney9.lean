/- money: Add and Sum of any amounts. -/
import Derived.Test.YtejmndfdmikfaaaDoorMoney
import Derived.Test.YtejmndfdmikfaaaDoorDailyN
import Derived.Test.YtejmndfdmikfaaaDoorFlat
import Derived.Shelf.Spec.BitsCarry
namespace Go.Proofs.YtejmndfdmikfaaaDoor.Kit
open Go Go.RowKit

/-- What Add answers of two amounts. -/
def addM (a b : Int) : Value := if -9223372036854775807 ≤ a + b ∧ a + b ≤ 9223372036854775807 then .tuple #[.int .i64 (a + b), .int .i64 0] else .tuple #[.int .i64 0, .int .i64 11]
set_option maxHeartbeats 2000000 in
theorem AddG_calls (w : World) (a b : Int) (ha : amtD a) (hb : amtD b) :
    Calls Tryd.prog 49 #[.int .i64 a, .int .i64 b] w fun e w' => e = .returned (addM a b) ∧ w = w' := by
  obtain ⟨a0, a1⟩ := ha
  obtain ⟨b0, b1⟩ := hb
  have fin : ∀ c : Int, (-9223372036854775807 ≤ a + b ∧ a + b ≤ 9223372036854775807) → addM a b = .tuple #[.int .i64 (a + b), .int .i64 0] := fun c h => by unfold addM; rw [if_pos h]
  have bad : ¬ (-9223372036854775807 ≤ a + b ∧ a + b ≤ 9223372036854775807) → addM a b = .tuple #[.int .i64 0, .int .i64 11] := fun h => by unfold addM; rw [if_neg h]
  by_cases hA : a < 0
  · have na : decide (a < 0) = true := decide_eq_true hA
    by_cases hB : b < 0
    · have nb : decide (b < 0) = true := decide_eq_true hB
      by_cases h : -9223372036854775807 ≤ a + b
      · rw [fin 0 (by omega)]
        have hw : IntKind.i64.wrap (a + b) = a + b := by rw [IntKind.wrap_i64]; omega
        have n1 : (a + b == (-9223372036854775808 : Int)) = false := by simp only [beq_eq_false_iff_ne, ne_eq]; omega
        have n2 : decide (a + b < 0) = true := decide_eq_true (by omega)
        clear fin bad
        go_enter Tryd.func49, Tryd.ntmps49
        go_wp2_with (go_at_call 64; refine (both_calls _ _ _ (by omega) (by omega)).mono ?_; rintro e w' ⟨rfl, rfl⟩)
        go_ret2
        exact ⟨rfl, rfl⟩
      · rw [bad (by omega)]
        obtain ⟨c, hc⟩ : ∃ c, IntKind.i64.wrap (a + b) = c := ⟨_, rfl⟩
        have hcv : c = -9223372036854775808 ∨ 0 ≤ c := by rw [← hc, IntKind.wrap_i64]; omega
        clear fin bad h
        rcases hcv with rfl | hcv
        · go_enter Tryd.func49, Tryd.ntmps49
          go_wp2_with (go_at_call 64; refine (both_calls _ _ _ (by omega) (by omega)).mono ?_; rintro e w' ⟨rfl, rfl⟩)
          go_ret2
          exact ⟨rfl, rfl⟩
        · have n1 : (c == (-9223372036854775808 : Int)) = false := by simp only [beq_eq_false_iff_ne, ne_eq]; omega
          have n2 : decide (c < 0) = false := decide_eq_false (by omega)
          go_enter Tryd.func49, Tryd.ntmps49
          go_wp2_with (go_at_call 64; refine (both_calls _ _ _ (by omega) (by omega)).mono ?_; rintro e w' ⟨rfl, rfl⟩)
          go_ret2
          exact ⟨rfl, rfl⟩
    · have nb : decide (b < 0) = false := decide_eq_false hB
      rw [fin 0 (by omega)]
      have hw : IntKind.i64.wrap (a + b) = a + b := by rw [IntKind.wrap_i64]; omega
      have n1 : (a + b == (-9223372036854775808 : Int)) = false := by simp only [beq_eq_false_iff_ne, ne_eq]; omega
      clear fin bad
      go_enter Tryd.func49, Tryd.ntmps49
      go_wp2_with (go_at_call 64; refine (both_calls _ _ _ (by omega) (by omega)).mono ?_; rintro e w' ⟨rfl, rfl⟩)
      go_ret2
      exact ⟨rfl, rfl⟩
  · by_cases hB : b < 0
    · have na : decide (a < 0) = false := decide_eq_false hA
      have nb : decide (b < 0) = true := decide_eq_true hB
      rw [fin 0 (by omega)]
      have hw : IntKind.i64.wrap (a + b) = a + b := by rw [IntKind.wrap_i64]; omega
      have n1 : (a + b == (-9223372036854775808 : Int)) = false := by simp only [beq_eq_false_iff_ne, ne_eq]; omega
      clear fin bad
      go_enter Tryd.func49, Tryd.ntmps49
      go_wp2_with (go_at_call 64; refine (both_calls _ _ _ (by omega) (by omega)).mono ?_; rintro e w' ⟨rfl, rfl⟩)
      go_ret2
      exact ⟨rfl, rfl⟩
    · have e : addM a b = addE a b := by
        unfold addE
        by_cases h : a + b ≤ 9223372036854775807
        · rw [if_pos h, fin 0 (by omega)]
        · rw [if_neg h, bad (by omega)]
      rw [e]
      exact Add_calls w a b (by omega) (by omega)

theorem add64_run (w : World) (x y : Int) (hx : 0 ≤ x) (hy : 0 ≤ y) : (callFunc 71 #[.int .u64 x, .int .u64 y, .int .u64 0]).run Tryd.prog w =
    .ok (.value (.tuple #[.int .u64 ((x + y) % 18446744073709551616), .int .u64 ((x + y) / 18446744073709551616)])) w := by
  rw [run_callFunc_extern Tryd.func71 (by kernel_rfl) (by kernel_rfl) (by kernel_rfl) (e := add64Entry) (by kernel_rfl), run_add64 x y 0 hx hy (by omega) (by omega), Int.add_zero]
  rfl
/-- What Sum answers of amounts. -/
def sumV (l : List Int) : Value := if -9223372036854775807 ≤ l.sum ∧ l.sum ≤ 9223372036854775807 then .tuple #[.int .i64 l.sum, .int .i64 0] else .tuple #[.int .i64 0, .int .i64 11]
theorem sum_take {l : List Int} {k : Nat} {a : Int} (h : l[k]? = some a) : (l.take (k + 1)).sum = (l.take k).sum + a := by
  rw [take_get h, List.sum_append]
  simp
abbrev icells (l : List Int) : List Value := l.flatMap fun z => [Value.int .i64 z]
theorem icells_at {w : World} {A : Option Addr} {l : List Int} (h : RdC w A (icells l)) {k : Nat} {a : Int} (ha : l[k]? = some a) : ∃ b off, A = some ⟨b, off, none⟩ ∧ w.cell? ⟨b, off + k, none⟩ = some (.int .i64 a) := by
  obtain ⟨b, off, rfl, hc⟩ := RdC.elem (f := fun z => [Value.int .i64 z]) (k := 1) (fun _ => rfl) h (by decide) ha
  refine ⟨b, off, rfl, ?_⟩
  have := hc 0 _ rfl
  rw [Nat.mul_one, Nat.add_zero] at this
  exact this
/-- What the second loop holds. -/
def SumI (l : List Int) (k : Nat) (hi lo : Int) : Prop := hi * 18446744073709551616 + lo = (l.take k).sum ∧ 0 ≤ lo ∧ lo < 18446744073709551616 ∧ -(k : Int) ≤ hi ∧ hi ≤ k
set_option maxRecDepth 100000 in
set_option maxHeartbeats 4000000 in
theorem Sum_calls (w : World) (A : Option Addr) (n c : Nat) (l : List Int) (h : RdC w A (icells l)) (hn : n = l.length) (hl : ∀ a ∈ l, amtD a) (hb : n ≤ 1099511627776) :
    Calls Tryd.prog 60 #[.slice A n c] w fun e w' => e = .returned (sumV l) ∧ w = w' := by
  have HX := Lib.hid (And.intro h (And.intro hn hl))
  clear h hn hl
  go_enter Tryd.func60, Tryd.ntmps60
  go_wp2
  go_loopw [14] (fun i wr => ∃ k : Nat, k ≤ n ∧ i = .int .i64 (k : Int) ∧ w = wr) (fun i _ => n - (intOf i).toNat)
  case atStart => exact ⟨0, Nat.zero_le _, rfl, rfl⟩
  case round =>
    obtain ⟨k, hk, rfl, rfl⟩ := hrel
    have hk0 : (0 : Int) ≤ k := by omega
    by_cases hlt : k < n
    · have hki : (k : Int) < (n : Int) := by omega
      obtain ⟨a, ha⟩ : ∃ a, l[k]? = some a := ⟨_, List.getElem?_eq_getElem (by have := HX.out.2.1; omega)⟩
      obtain ⟨b, off, rfl, hc⟩ := icells_at HX.out.1 ha
      have hba := HX.out.2.2 a (List.mem_of_getElem? ha)
      unfold amtD at hba
      have ne : (a == (-9223372036854775808 : Int)) = false := by simp only [beq_eq_false_iff_ne, ne_eq]; omega
      clear ha
      go_wp2
      exact ⟨⟨k + 1, by omega, by go_num, trivial⟩, by simp [intOf]; omega⟩
    · go_wp2
      go_loopw [4, 5, 23] (fun hi lo i wr => ∃ (k : Nat) (zh zl : Int), k ≤ n ∧ i = .int .i64 (k : Int) ∧ hi = .int .i64 zh ∧ lo = .int .u64 zl ∧ w = wr ∧ Hid (SumI l k zh zl)) (fun _ _ i _ => n - (intOf i).toNat)
      case atStart => exact ⟨0, 0, 0, Nat.zero_le _, rfl, rfl, rfl, rfl, Lib.hid ⟨by simp, by omega, by omega, by omega, by omega⟩⟩
      case round =>
        obtain ⟨j, zh, zl, hj, rfl, rfl, rfl, rfl, HI⟩ := hrel
        have hj0 : (0 : Int) ≤ j := by omega
        by_cases hjl : j < n
        · have hji : (j : Int) < (n : Int) := by omega
          obtain ⟨a, ha⟩ : ∃ a, l[j]? = some a := ⟨_, List.getElem?_eq_getElem (by have := HX.out.2.1; omega)⟩
          obtain ⟨b, off, rfl, hc⟩ := icells_at HX.out.1 ha
          have hba := HX.out.2.2 a (List.mem_of_getElem? ha)
          unfold amtD at hba
          have hs := sum_take ha
          obtain ⟨i1, i2, i3, i4, i5⟩ := HI.out
          obtain ⟨u, hu⟩ : ∃ u, IntKind.u64.wrap a = u := ⟨_, rfl⟩
          have hu1 := IntKind.wrap_u64 a
          have hur : 0 ≤ u ∧ u < 18446744073709551616 := by rw [← hu, hu1]; omega
          have hadd := add64_run w zl u (by omega) (by omega)
          obtain ⟨q, hq⟩ : ∃ q, (zl + u) / 18446744073709551616 = q := ⟨_, rfl⟩
          obtain ⟨r, hr⟩ : ∃ r, (zl + u) % 18446744073709551616 = r := ⟨_, rfl⟩
          rw [hq, hr] at hadd
          have hqr : r + 18446744073709551616 * q = zl + u := by omega
          have hrr : 0 ≤ r ∧ r < 18446744073709551616 := by omega
          have hqq : 0 ≤ q ∧ q ≤ 1 := by omega
          have hwq : IntKind.i64.wrap q = q := by rw [IntKind.wrap_i64]; omega
          have hwz := fun (x : Int) (h1 : -9223372036854775808 ≤ x) (h2 : x ≤ 9223372036854775807) => (show IntKind.i64.wrap x = x by rw [IntKind.wrap_i64]; omega)
          have HS := Lib.hid (And.intro hs (And.intro hqr (And.intro hu (And.intro hrr hqq))))
          clear hs hqr hq hr hu1 ha i1
          go_wp2_with (simp only [hadd])
          refine ⟨⟨j + 1, zh + (a / 9223372036854775808 + q), r, by omega, by go_num, rfl, rfl, trivial, Lib.hid ⟨?_, HS.out.2.2.2.1.1, HS.out.2.2.2.1.2, ?_, ?_⟩⟩, by simp [intOf]; omega⟩
          · have h1 := HS.out.1
            have h2 := HS.out.2.1
            have h3 := HS.out.2.2.1
            rw [IntKind.wrap_u64] at h3
            have h4 := HI.out.1
            omega
          · have := HS.out.2.2.2.2
            omega
          · have := HS.out.2.2.2.2
            omega
        · obtain rfl : j = n := by omega
          have h1 := HI.out.1
          have hln := HX.out.2.1
          rw [hln, List.take_length] at h1
          obtain ⟨_, i2, i3, i4, i5⟩ := HI.out
          obtain ⟨c1, hc1⟩ : ∃ c1, IntKind.i64.wrap zl = c1 := ⟨_, rfl⟩
          have hcv := IntKind.wrap_i64 zl
          rw [hc1] at hcv
          have HS := Lib.hid (And.intro h1 hcv)
          by_cases hok : zh = c1 / 9223372036854775808 ∧ c1 ≠ -9223372036854775808
          · obtain ⟨hk1, hk2⟩ := hok
            have hsv : sumV l = .tuple #[.int .i64 c1, .int .i64 0] := by
              unfold sumV
              have e : l.sum = c1 := by omega
              rw [e, if_pos (by omega)]
            have hk2' : (c1 == (-9223372036854775808 : Int)) = false := by simpa using hk2
            have HV := Lib.hid hsv
            clear hsv h1 hcv
            go_wp2
            go_ret2
            exact ⟨congrArg Ending.returned HV.out.symm, rfl⟩
          · have hsv : sumV l = .tuple #[.int .i64 0, .int .i64 11] := by
              unfold sumV
              rw [if_neg]
              intro hs
              exact hok (by omega)
            have HV := Lib.hid hsv
            clear hsv h1 hcv
            by_cases hk1 : zh = c1 / 9223372036854775808
            · have hk2 : c1 = -9223372036854775808 := Classical.byContradiction fun h => hok ⟨hk1, h⟩
              clear hok
              subst hk2
              go_wp2
              go_ret2
              exact ⟨congrArg Ending.returned HV.out.symm, rfl⟩
            · clear hok
              have hk1' : (zh == c1 / 9223372036854775808) = false := by simpa using hk1
              go_wp2
              go_ret2
              exact ⟨congrArg Ending.returned HV.out.symm, rfl⟩
end Go.Proofs.YtejmndfdmikfaaaDoor.Kit
