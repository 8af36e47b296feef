/- daybookref01.Digits: a number's digits, at least so many. -/
import Derived.Test.YtdgpnpagbhikoaaDoorProg
import Derived.Test.YtdgpnpagbhikoaaDoorOwn
import Derived.Test.YtdgpnpagbhikoaaDoorStr
namespace Go.Proofs.YtdgpnpagbhikoaaDoor.Kit
open Go Go.RowKit

/-- The lowest k digits. -/
def lowD (n : Nat) : Nat → List UInt8
  | 0 => []
  | k + 1 => UInt8.ofNat (48 + n / 10 ^ k % 10) :: lowD n k
theorem lowD_length (n : Nat) : ∀ k, (lowD n k).length = k
  | 0 => rfl
  | k + 1 => by rw [lowD, List.length_cons, lowD_length n k]
def lenS : Value → Nat
  | .string s => s.size
  | _ => 0
/-- What Digits answers. -/
def DigitsPost (n least : Nat) (w : World) (e : Ending) (w' : World) : Prop := ∃ K, least ≤ K ∧ n / 10 ^ K = 0 ∧ (K = least ∨ n / 10 ^ (K - 1) ≠ 0) ∧ e = .returned (.string (bstr (lowD n K))) ∧ New w w'

theorem few_digits {n k : Nat} (hn : n ≤ 9223372036854775807) (h : n / 10 ^ k ≠ 0) : k ≤ 18 := by
  have h1 : 10 ^ k ≤ n := by
    apply Classical.byContradiction
    intro hc
    exact h (Nat.div_eq_of_lt (by omega))
  apply Classical.byContradiction
  intro hc
  have : 10 ^ 19 ≤ 10 ^ k := Nat.pow_le_pow_right (by omega) (by omega)
  omega
theorem digit_rd (w : World) (c : UInt8) : RdB (w.alloc (.cells #[.int .u8 (c.toNat : Int)] 5)) (some ⟨w.heap.size, 0, none⟩) [c] := by
  intro _
  refine ⟨w.heap.size, 0, rfl, fun j hj => ?_⟩
  obtain rfl : j = 0 := by simpa using hj
  rw [cell_of_block (heap_alloc_new w _)]
  rfl
theorem bstr_append (l m : List UInt8) : bstr l ++ bstr m = bstr (l ++ m) := by
  apply ByteArray.ext
  apply Array.toList_inj.1
  simp [bstr]
/-- Where the number has no more digits than are asked for. -/
theorem DigitsPost.few {n least : Nat} {w : World} {e : Ending} {w' : World} (h : DigitsPost n least w e w') (hn : n < 10 ^ least) : e = .returned (.string (bstr (lowD n least))) ∧ New w w' := by
  obtain ⟨K, h1, _, h3, h4, h5⟩ := h
  rcases h3 with rfl | h3
  · exact ⟨h4, h5⟩
  · by_cases hK : K = least
    · subst hK
      exact ⟨h4, h5⟩
    · exact absurd (Nat.div_eq_of_lt (Nat.lt_of_lt_of_le hn (Nat.pow_le_pow_right (by omega) (show least ≤ K - 1 by omega)))) h3

set_option maxHeartbeats 1000000 in
theorem Digits_calls (w : World) (n least : Nat) (v l : Int) (hv : v = n) (hl : l = least) (hn : n ≤ 9223372036854775807) (hm : least ≤ 1000) :
    Calls Tryd.prog 8 #[.int .i64 v, .int .i64 l] w (DigitsPost n least w) := by
  subst hv
  subst hl
  go_enter Tryd.func8, Tryd.ntmps8
  go_wp2
  go_loopw [0, 5] (fun a s wr => ∃ k m : Nat, k ≤ 1100 ∧ m ≤ 9223372036854775807 ∧ a = .int .i64 (m : Int) ∧ s = .string (bstr (lowD n k)) ∧ Hid (m = n / 10 ^ k ∧ New w wr ∧ (k = 0 ∨ k ≤ least ∨ n / 10 ^ (k - 1) ≠ 0))) (fun a s _ => (intOf a).toNat + (least - lenS s))
  case atStart => exact ⟨0, n, by omega, hn, rfl, rfl, Lib.hid ⟨by simp, Kp.refl _ _, .inl rfl⟩⟩
  case round =>
    obtain ⟨k, m, hk, hm2, rfl, rfl, HI⟩ := hrel
    have hlen : (bstr (lowD n k)).size = k := by rw [bstr_size, lowD_length]
    by_cases hgo : 0 < m ∨ k < least
    · have hkk : k ≤ 1000 := by
        rcases hgo with h | h
        · have := few_digits (n := n) (k := k) hn (by rw [← HI.out.1]; omega)
          omega
        · omega
      have hc0 : ((UInt8.ofNat (48 + m % 10)).toNat : Int) = 48 + (m : Int) % 10 := by rw [UInt8.toNat_ofNat']; omega
      have hcv := run_conv_RdB (P := Tryd.prog) (wr.alloc (.cells #[.int .u8 ((UInt8.ofNat (48 + m % 10)).toNat : Int)] 5)) (src := 31) (dst := 9) Tryd.underlying31 Tryd.underlying5 Tryd.underlying9 1 (digit_rd wr _)
      rw [hc0, show ([UInt8.ofNat (48 + m % 10)] : List UInt8).length = 1 from rfl] at hcv
      have hd : UInt8.ofNat (48 + m % 10) :: lowD n k = lowD n (k + 1) := by rw [lowD, HI.out.1]
      have hcat : bstr [UInt8.ofNat (48 + m % 10)] ++ bstr (lowD n k) = bstr (lowD n (k + 1)) := by rw [bstr_append, ← hd]; rfl
      have hdiv : m / 10 = n / 10 ^ (k + 1) := by rw [HI.out.1, Nat.div_div_eq_div_mul, Nat.pow_succ]
      have hnz : k + 1 = 0 ∨ k + 1 ≤ least ∨ n / 10 ^ (k + 1 - 1) ≠ 0 := by
        rcases hgo with h | h
        · right; right; rw [Nat.add_sub_cancel, ← HI.out.1]; omega
        · right; left; omega
      have HD := Lib.hid (And.intro hdiv hnz)
      have hsz : (bstr [UInt8.ofNat (48 + m % 10)]).size + (bstr (lowD n k)).size ≤ 9223372036854775807 := by rw [hlen, bstr_size, List.length_singleton]; omega
      clear hd hdiv hnz hc0
      generalize UInt8.ofNat (48 + m % 10) = c0 at hcv hcat hsz
      have hn1 : New w (wr.alloc (.cells #[.int .u8 (48 + (m : Int) % 10)] 5)) := HI.out.2.1.trans (Kp.alloc _ _ _) (fun _ _ h => h) (fun _ _ h => h)
      have HN := Lib.hid hn1
      clear hn1
      by_cases h0 : 0 < m
      · have hm0 : (0 : Int) < m := by omega
        clear hgo
        go_wp2
        refine ⟨⟨k + 1, m / 10, by omega, by omega, by go_num, rfl, Lib.hid ⟨HD.out.1, HN.out, HD.out.2⟩⟩, ?_⟩
        simp [intOf, lenS, bstr_size, lowD_length]
        omega
      · have hkl : k < least := by omega
        have hkl2 : (k : Int) < least := by omega
        obtain rfl : m = 0 := by omega
        clear hgo
        rw [show (48 : Int) + ((0 : Nat) : Int) % 10 = 48 by omega] at hcv HN
        go_wp2
        refine ⟨⟨k + 1, 0, by omega, by omega, by go_num, rfl, Lib.hid ⟨by simpa using HD.out.1, HN.out, HD.out.2⟩⟩, ?_⟩
        simp [intOf, lenS, bstr_size, lowD_length]
        omega
    · have hm0 : m = 0 := by omega
      subst hm0
      have hkl : ¬ k < least := by omega
      clear hgo
      go_wp2
      go_ret
      refine ⟨k, by omega, HI.out.1.symm, ?_, rfl, HI.out.2.1⟩
      rcases HI.out.2.2 with h | h | h
      · left; omega
      · left; omega
      · exact .inr h
end Go.Proofs.YtdgpnpagbhikoaaDoor.Kit
