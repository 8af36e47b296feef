/- The acts of the outright statements: names of a few, a disk begun, which calls are acts. -/
import Derived.Test.YtekcoeonlfmebaaSimple
namespace Go.Proofs.Ytekcoeonlfmebaa.Kit
open Go Go.RowKit

theorem num_calls (w : World) (e : Int) : Calls Try.prog 19 #[.int .i64 e] w fun r w' => r = .returned (.int .i64 e) ∧ w = w' := by
  go_enter Try.func19, Try.ntmps19
  go_wp2
  go_ret
  exact ⟨rfl, rfl⟩
def isAct (k : Int) : Bool := decide (3 ≤ k ∧ k ≤ 7 ∨ k = 12 ∨ k = 14)
theorem isAct_calls (w : World) (k : Int) : Calls Try.prog 8 #[.int .i64 k] w fun r w' => r = .returned (.bool (isAct k)) ∧ w = w' := by
  by_cases h1 : (3 : Int) ≤ k
  · by_cases h2 : k ≤ 7
    · have e : isAct k = true := decide_eq_true (by omega)
      rw [e]
      go_enter Try.func8, Try.ntmps8
      go_wp2
      go_ret
      exact ⟨rfl, rfl⟩
    · by_cases h3 : k = 12
      · subst h3
        go_enter Try.func8, Try.ntmps8
        go_wp2
        go_ret
        exact ⟨rfl, rfl⟩
      · have e : isAct k = (k == 14) := by unfold isAct; rw [Bool.eq_iff_iff]; simp; omega
        rw [e]
        go_enter Try.func8, Try.ntmps8
        go_wp2
        go_ret
        exact ⟨by simp [h3], rfl⟩
  · have e : isAct k = false := decide_eq_false (by omega)
    have h3 : ¬ k = 12 := by omega
    have h4 : ¬ k = 14 := by omega
    rw [e]
    go_enter Try.func8, Try.ntmps8
    go_wp2
    go_ret
    exact ⟨by simp [h3, h4], rfl⟩

def pressN : List Nm := [[97], [98], [99, 46, 49], [100, 45, 50], [101, 95, 51], [102]]
def pressI (s : List UInt8) : Nat := s.foldl (fun n c => (n * 31 + c.toNat) % 6) 0
theorem pressI_lt (s : List UInt8) : pressI s < 6 := by
  unfold pressI
  rcases List.eq_nil_or_concat s with rfl | ⟨l, c, rfl⟩
  · decide
  · rw [List.concat_eq_append, List.foldl_append]
    exact Nat.mod_lt _ (by omega)
theorem pressI_step {s : List UInt8} {k : Nat} (hk : k < s.length) : pressI (s.take (k + 1)) = (pressI (s.take k) * 31 + s[k].toNat) % 6 := by
  unfold pressI
  rw [List.take_succ_eq_append_getElem hk, List.foldl_append]
  rfl
def pressed (s : List UInt8) : Nm := pressN.getD (pressI s) []
theorem pressed_len (s : List UInt8) : (pressed s).length ≤ 3 := by
  have := pressI_lt s
  unfold pressed
  generalize pressI s = i at *
  match i, this with
  | 0, _ | 1, _ | 2, _ | 3, _ | 4, _ | 5, _ => decide
  | i + 6, h => omega

theorem press_cell (s : List UInt8) : (#[.string ⟨#[97]⟩, .string ⟨#[98]⟩, .string ⟨#[99, 46, 49]⟩, .string ⟨#[100, 45, 50]⟩, .string ⟨#[101, 95, 51]⟩, .string ⟨#[102]⟩] : Array Value)[pressI s]? = some (.string (bstr (pressed s))) := by
  have := pressI_lt s
  unfold pressed
  generalize pressI s = i at *
  match i, this with
  | 0, _ | 1, _ | 2, _ | 3, _ | 4, _ | 5, _ => rfl
  | i + 6, h => omega

set_option maxRecDepth 100000 in
set_option maxHeartbeats 1000000 in
theorem pressed_calls (w : World) (s : List UInt8) (hs : s.length ≤ 9223372036854775807) :
    Calls Try.prog 12 #[.string (bstr s)] w fun e w' => e = .returned (.string (bstr (pressed s))) ∧ New w w' := by
  have hz : (bstr s).size = s.length := rfl
  go_enter Try.func12, Try.ntmps12
  go_wp2_with fail
  obtain ⟨W, hW⟩ : ∃ W, w.alloc (.cells #[.string ⟨#[97]⟩, .string ⟨#[98]⟩, .string ⟨#[99, 46, 49]⟩, .string ⟨#[100, 45, 50]⟩, .string ⟨#[101, 95, 51]⟩, .string ⟨#[102]⟩] 9) = W := ⟨_, rfl⟩
  rw [hW]
  have HW := Lib.hid (And.intro hW (show New w W from hW ▸ Kp.alloc _ _ _))
  have hb : W.heap[w.heap.size]? = some (.cells #[.string ⟨#[97]⟩, .string ⟨#[98]⟩, .string ⟨#[99, 46, 49]⟩, .string ⟨#[100, 45, 50]⟩, .string ⟨#[101, 95, 51]⟩, .string ⟨#[102]⟩] 9 (0, 0)) := hW ▸ heap_alloc_new w _
  have HB := Lib.hid hb
  clear hW hb
  go_loopw [4, 5] (fun n i wr => ∃ k : Nat, k ≤ s.length ∧ n = .int .i64 ((pressI (s.take k) : Nat) : Int) ∧ i = .int .i64 (k : Int) ∧ wr = W) (fun _ i _ => s.length - (intOf i).toNat)
  case atStart => exact ⟨0, Nat.zero_le _, rfl, rfl, rfl⟩
  case round =>
    obtain ⟨k, hk, rfl, rfl, rfl⟩ := hrel
    have hp := pressI_lt (s.take k)
    by_cases hlt : k < s.length
    · have hst := pressI_step hlt
      have hxl : s[k].toNat < 256 := s[k].toNat_lt
      generalize pressI (s.take k) = p at hp hst
      have hki : (k : Int) < (s.length : Int) := by omega
      have hk0 : (0 : Int) ≤ k := by omega
      go_wp2_with fail
      change (∃ j : Nat, j ≤ s.length ∧ Value.int .i64 ((wrap64 ((p : Int) * 31 + wrap64 ((s[k].toNat : Nat) : Int))).tmod 6) = Value.int .i64 ((pressI (List.take j s) : Nat) : Int) ∧ Value.int .i64 ((k : Int) + 1) = Value.int .i64 (j : Int) ∧ True) ∧ _
      generalize s[k] = x at hst hxl
      have e1 : wrap64 (x.toNat : Int) = (x.toNat : Int) := by simp only [wrap64]; omega
      have e2 : wrap64 ((p : Int) * 31 + (x.toNat : Int)) = ((p * 31 + x.toNat : Nat) : Int) := by simp only [wrap64]; omega
      have e3 : Int.tmod ((p * 31 + x.toNat : Nat) : Int) 6 = (((p * 31 + x.toNat) % 6 : Nat) : Int) := rfl
      rw [e1, e2, e3]
      exact ⟨⟨k + 1, by omega, by rw [hst], by go_num, trivial⟩, by simp [intOf]; omega⟩
    · obtain rfl : k = s.length := by omega
      have hc : wr.cell? ⟨w.heap.size, pressI s, none⟩ = some (.string (bstr (pressed s))) := (cell_of_block HB.out).trans (press_cell s)
      have hp2 := pressI_lt s
      have hp3 : (pressI s : Int) < 6 := by omega
      go_wp2_with fail
      go_ret
      exact ⟨rfl, HW.out.2⟩
end Go.Proofs.Ytekcoeonlfmebaa.Kit
