/- ckpt.Name and the reference's: the file of a checkpoint of so many events. -/
import Derived.Test.YtdgpnpagbhikoaaDoorDigits
import Derived.Test.YtdgpnpagbhikoaaDoorShelf
import Derived.Lib.AppendIntMem
namespace Go.Proofs.YtdgpnpagbhikoaaDoor.Kit
open Go Go.RowKit Go.Shelf Go.Lib

/-- A checkpoint's file. -/
def nameB (n : Nat) : List UInt8 := [99, 107, 112, 116, 45] ++ lowD n 6

theorem dec_one (n : Nat) (h : n < 10) : Lib.decDigits n = [UInt8.ofNat (48 + n)] := by rw [Lib.decDigits, dif_pos h]
theorem dec_more (n : Nat) (h : ¬ n < 10) : Lib.decDigits n = Lib.decDigits (n / 10) ++ [UInt8.ofNat (48 + n % 10)] := by rw [Lib.decDigits, dif_neg h]
theorem itoa_low (n : Nat) (h : n ≤ 1000) : (Lib.itoa n).length ≤ 6 ∧ Lib.repeatL [48] (6 - (Lib.itoa n).length) ++ Lib.itoa n = lowD n 6 := by
  have h0 : Lib.itoa (n : Int) = Lib.decDigits n := by
    unfold Lib.itoa
    rw [if_neg (by omega)]
    rfl
  rw [h0]
  have e48 : UInt8.ofNat 48 = 48 := rfl
  by_cases h1 : n < 10
  · rw [dec_one n h1]
    have a0 : n % 10 = n := by omega
    have a1 : n / 10 = 0 := by omega
    have a2 : n / 100 = 0 := by omega
    have a3 : n / 1000 = 0 := by omega
    have a4 : n / 10000 = 0 := by omega
    have a5 : n / 100000 = 0 := by omega
    simp [lowD, Lib.repeatL, a0, a1, a2, a3, a4, a5]
  · rw [dec_more n h1]
    by_cases h2 : n < 100
    · rw [dec_one (n / 10) (by omega)]
      have a1 : n / 10 % 10 = n / 10 := by omega
      have a2 : n / 100 = 0 := by omega
      have a3 : n / 1000 = 0 := by omega
      have a4 : n / 10000 = 0 := by omega
      have a5 : n / 100000 = 0 := by omega
      simp [lowD, Lib.repeatL, a1, a2, a3, a4, a5]
    · rw [dec_more (n / 10) (by omega)]
      by_cases h3 : n < 1000
      · rw [dec_one (n / 10 / 10) (by omega)]
        have a2 : n / 10 / 10 = n / 100 % 10 := by omega
        have a3 : n / 1000 = 0 := by omega
        have a4 : n / 10000 = 0 := by omega
        have a5 : n / 100000 = 0 := by omega
        simp [lowD, Lib.repeatL, a2, a3, a4, a5]
      · obtain rfl : n = 1000 := by omega
        rw [show 1000 / 10 / 10 = 10 from rfl, dec_more 10 (by omega), dec_one (10 / 10) (by omega)]
        exact ⟨by decide, by decide⟩

theorem Name_none (w : World) (n : Int) (h : n < 0 ∨ 1000 < n) :
    Calls Tryd.prog 4 #[.int .i64 n] w fun e w' => e = .returned (.string (bstr [])) ∧ w = w' := by
  rcases h with h | h
  · go_enter Tryd.func4, Tryd.ntmps4
    go_wp2
    go_ret
    exact ⟨rfl, rfl⟩
  · have h0 : ¬ n < 0 := by omega
    go_enter Tryd.func4, Tryd.ntmps4
    go_wp2
    go_ret
    exact ⟨rfl, rfl⟩
theorem RefName_none (w : World) (n : Int) (h : n < 0 ∨ 1000 < n) :
    Calls Tryd.prog 5 #[.int .i64 n] w fun e w' => e = .returned (.string (bstr [])) ∧ w = w' := by
  rcases h with h | h
  · go_enter Tryd.func5, Tryd.ntmps5
    go_wp2
    go_ret
    exact ⟨rfl, rfl⟩
  · have h0 : ¬ n < 0 := by omega
    go_enter Tryd.func5, Tryd.ntmps5
    go_wp2
    go_ret
    exact ⟨rfl, rfl⟩

theorem RefName_some (w : World) (n : Nat) (v : Int) (hv : v = n) (h : n ≤ 1000) :
    Calls Tryd.prog 5 #[.int .i64 v] w fun e w' => e = .returned (.string (bstr (nameB n))) ∧ New w w' := by
  subst hv
  have h1 : ¬ (n : Int) < 0 := by omega
  have h2 : ¬ (1000 : Int) < n := by omega
  have hs : (bstr [99, 107, 112, 116, 45]).size + (bstr (lowD n 6)).size ≤ 9223372036854775807 := by simp [bstr_size, lowD_length]
  have hc : (⟨#[99, 107, 112, 116, 45]⟩ : ByteArray) ++ bstr (lowD n 6) = bstr (nameB n) := bstr_append [99, 107, 112, 116, 45] (lowD n 6)
  go_enter Tryd.func5, Tryd.ntmps5
  go_wp2_with (go_at_call 8; refine (Digits_calls w n 6 _ _ rfl rfl (by omega) (by omega)).mono ?_; intro e w1 hp; obtain ⟨rfl, hn⟩ := hp.few (by omega); clear hp)
  go_ret
  exact ⟨rfl, hn⟩

theorem zeros_calls (w : World) (c : Nat) (v : Int) (hv : v = c) (h : c ≤ 100) :
    Calls Tryd.prog 7 #[.string ⟨#[48]⟩, .int .i64 v] w fun e w' => e = .returned (.string (bstr (Lib.repeatL [48] c))) ∧ Below w.heap.size w w' := by
  subst hv
  exact Tryd.strings_Repeat ⟨#[48]⟩ c w (by omega) (by rw [show (⟨#[48]⟩ : ByteArray).size = 1 from rfl]; omega)

set_option maxHeartbeats 1000000 in
theorem Name_some (w : World) (n : Nat) (v : Int) (hv : v = n) (h : n ≤ 1000) (htab : Lib.TabIs Tryd.prog w "internal/strconv.uint64pow10" .u64 Lib.pow10Tab) :
    Calls Tryd.prog 4 #[.int .i64 v] w fun e w' => e = .returned (.string (bstr (nameB n))) ∧ Below w.heap.size w w' := by
  subst hv
  obtain ⟨hl, hr⟩ := itoa_low n h
  have h1 : ¬ (n : Int) < 0 := by omega
  have h2 : ¬ (1000 : Int) < n := by omega
  have hT := Lib.hid htab
  clear htab
  have hi : Calls Tryd.prog 6 #[.int .i64 (n : Int)] w fun e w' => e = .returned (.string (bstr (Lib.itoa n))) ∧ ∃ k os, w' = Go.Sort.grow (w.drewN k) os := Tryd.strconv_Itoa n (by omega) (by omega) w hT.out
  generalize Lib.itoa (n : Int) = ds at hi hl hr
  have hs0 : (bstr ds).size = ds.length := rfl
  obtain ⟨z, hz⟩ : ∃ z, bstr (Lib.repeatL [48] (6 - ds.length)) = z := ⟨_, rfl⟩
  obtain ⟨p, hp⟩ : ∃ p, bstr ([99, 107, 112, 116, 45] ++ Lib.repeatL [48] (6 - ds.length)) = p := ⟨_, rfl⟩
  have hs : 5 + z.size ≤ 9223372036854775807 := by rw [← hz, bstr_size, Lib.repeatL_length]; simp; omega
  have hs2 : p.size + ds.length ≤ 9223372036854775807 := by rw [← hp, bstr_size, List.length_append, Lib.repeatL_length]; simp; omega
  have hc : (⟨#[99, 107, 112, 116, 45]⟩ : ByteArray) ++ z = p := by rw [← hz, ← hp]; exact bstr_append [99, 107, 112, 116, 45] _
  have hc2 : p ++ bstr ds = bstr (nameB n) := by rw [← hp, bstr_append, List.append_assoc, hr]; rfl
  have HZ := Lib.hid hz
  clear hz hp
  have HI := Lib.hid hi
  have HR := Lib.hid hr
  clear hi hr
  have hk : ((6 - ds.length : Nat) : Int) = 6 - (ds.length : Int) := by omega
  go_enter Tryd.func4, Tryd.ntmps4
  go_wp2_with fail
  refine HI.out.mono ?_
  rintro e w1 ⟨rfl, k, os, rfl⟩
  go_wp2_with fail
  refine (zeros_calls _ (6 - ds.length) _ (by omega) (by omega)).mono ?_
  rintro e w2 ⟨rfl, hb⟩
  rw [HZ.out]
  have HB := Lib.hid hb
  clear hb
  go_wp2_with fail
  go_ret
  exact ⟨rfl, (Lib.below_grow _ w (Nat.le_refl _) k os).trans (HB.out.mono (Lib.below_grow _ w (Nat.le_refl _) k os).size)⟩
end Go.Proofs.YtdgpnpagbhikoaaDoor.Kit
