/- daybookkeep: the marks of bytes, a page of them: written full, appended to, looked at. -/
import Derived.Test.YtdgpnpagbhikoaaGreatDoorProg
import Derived.Test.YtdgpnpagbhikoaaGreatDoorOwn
import Derived.Test.YtdgpnpagbhikoaaGreatDoorLine
import Derived.Test.YtdgpnpagbhikoaaGreatDoorFrame1
import Derived.WalkKit
import Derived.OpenShut
import Derived.BigQuiet
import Derived.Deep.QuietTactic
namespace Go.Proofs.YtdgpnpagbhikoaaGreatDoor.Kit
open Go Go.RowKit

/-- A byte of the marks of a number. -/
def patI (id k : Int) : Int := bits .xor .u8 ((id + 1) * 2654435761 % 4294967296 / 2 ^ (8 * (k % 4)).toNat % 256) (k / 4 % 256)
def markB (id k : Nat) : UInt8 := UInt8.ofNat (patI id k).toNat
theorem markB_int (id k : Nat) : ((markB id k).toNat : Int) = patI id k := by
  have h := bounds_u8 (wf_bits .xor .u8 (((id : Int) + 1) * 2654435761 % 4294967296 / 2 ^ (8 * ((k : Int) % 4)).toNat % 256) ((k : Int) / 4 % 256))
  change 0 ≤ patI id k ∧ patI id k ≤ 255 at h
  unfold markB
  rw [UInt8.toNat_ofNat']
  omega
/-- So many marks of a number. -/
def marksB (id n : Nat) : List UInt8 := (List.range n).map (markB id)
theorem marksB_length (id n : Nat) : (marksB id n).length = n := by simp [marksB]
theorem marksB_snoc (id n : Nat) : marksB id (n + 1) = marksB id n ++ [markB id n] := by simp [marksB, List.range_succ]
theorem marksB_take (id n k : Nat) (h : k ≤ n) : (marksB id n).take k = marksB id k := by
  unfold marksB
  rw [← List.map_take, List.take_range, Nat.min_eq_left h]
theorem marksB_get (id n k : Nat) (h : k < n) : (marksB id n)[k]? = some (markB id k) := by simp [marksB, h]

set_option maxRecDepth 10000 in
theorem pat_calls (w : World) (id k : Nat) (i j : Int) (hi : i = id) (hj : j = k) (h2 : id ≤ 1000000) (h4 : k ≤ 1099511627776) :
    Calls Tryz.prog 127 #[.int .i64 i, .int .i64 j] w fun e w' => e = .returned (.int .u8 ((markB id k).toNat : Int)) ∧ w = w' := by
  subst hi
  subst hj
  rw [markB_int]
  have h1 : (0 : Int) ≤ id := by omega
  have h3 : (0 : Int) ≤ k := by omega
  have h5 : (id : Int) ≤ 1000000 := by omega
  have h6 : (k : Int) ≤ 1099511627776 := by omega
  generalize (id : Int) = id at *
  generalize (k : Int) = k at *
  go_enter Tryz.func127, Tryz.ntmps127
  go_wp2
  go_ret
  exact ⟨rfl, rfl⟩

theorem markBytes_calls (w : World) (id k : Nat) (i j : Int) (hi : i = id) (hj : j = k) (h2 : id ≤ 1000000) (h4 : k ≤ 1099511627776) :
    Calls Tryz.prog 29 #[.int .i64 i, .int .i64 j] w fun e w' => e = .returned (.int .u8 ((markB id k).toNat : Int)) ∧ w = w' := by
  subst hi
  subst hj
  have hm := (markB id k).toNat_lt
  go_enter Tryz.func29, Tryz.ntmps29
  go_wp2_with (go_at_call 127; refine (pat_calls w id k _ _ rfl rfl h2 h4).mono ?_; rintro e w' ⟨rfl, rfl⟩)
  go_ret
  exact ⟨rfl, rfl⟩

theorem behind_calls (w : World) (id : Nat) (i : Int) (hi : i = id) (h2 : id ≤ 1000000) :
    Calls Tryz.prog 128 #[.int .i64 i] w fun e w' => e = .returned (.int .i64 ((id + 100000 : Nat) : Int)) ∧ w = w' := by
  subst hi
  go_enter Tryz.func128, Tryz.ntmps128
  go_wp2
  go_ret
  exact ⟨by go_num, rfl⟩

theorem sameBytes_calls (w : World) (a b : UInt8) :
    Calls Tryz.prog 34 #[.int .u8 a.toNat, .int .u8 b.toNat] w fun e w' => e = .returned (.bool (decide (a = b))) ∧ w = w' := by
  have h : decide (a = b) = ((a.toNat : Int) == (b.toNat : Int)) := by
    by_cases h : a = b
    · subst h; simp
    · rw [decide_eq_false h]
      symm
      rw [beq_eq_false_iff_ne]
      exact fun e => h (UInt8.toNat_inj.1 (by omega))
  rw [h]
  clear h
  go_enter Tryz.func34, Tryz.ntmps34
  go_wp2
  go_ret
  exact ⟨rfl, rfl⟩
end Go.Proofs.YtdgpnpagbhikoaaGreatDoor.Kit
