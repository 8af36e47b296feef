/- disk.good: can a file have that name? -/
import Derived.Test.YtekcoeonlfmebaaProg
import Derived.Test.YtekcoeonlfmebaaDiskM
import Derived.Test.YtekcoeonlfmebaaStr
namespace Go.Proofs.Ytekcoeonlfmebaa.Kit
open Go Go.RowKit

theorem nameByte_iff (x : UInt8) : nameByte x = true ↔ (97 ≤ (x.toNat : Int) ∧ (x.toNat : Int) ≤ 122) ∨ (48 ≤ (x.toNat : Int) ∧ (x.toNat : Int) ≤ 57) ∨ (x.toNat : Int) = 46 ∨ (x.toNat : Int) = 45 ∨ (x.toNat : Int) = 95 := by
  unfold nameByte
  simp only [Bool.or_eq_true, Bool.and_eq_true, decide_eq_true_eq, beq_iff_eq, UInt8.le_iff_toNat_le, ← UInt8.toNat_inj]
  simp only [show (97 : UInt8).toNat = 97 from rfl, show (122 : UInt8).toNat = 122 from rfl, show (48 : UInt8).toNat = 48 from rfl, show (57 : UInt8).toNat = 57 from rfl, show (46 : UInt8).toNat = 46 from rfl, show (45 : UInt8).toNat = 45 from rfl, show (95 : UInt8).toNat = 95 from rfl]
  omega
theorem all_step {s : List UInt8} {k : Nat} (hk : k < s.length) (h : (s.take k).all nameByte = true) (hx : nameByte s[k] = true) : (s.take (k + 1)).all nameByte = true := by
  rw [List.take_succ_eq_append_getElem hk, List.all_append, h, Bool.true_and, List.all_cons, hx]
  rfl
theorem all_stop {s : List UInt8} {k : Nat} (hk : k < s.length) (hx : ¬ nameByte s[k] = true) : s.all nameByte = false := by
  rw [List.all_eq_false]
  exact ⟨s[k], List.getElem_mem hk, hx⟩

set_option maxRecDepth 100000 in
set_option maxHeartbeats 1000000 in
theorem good_calls (w : World) (s : List UInt8) (hs : s.length ≤ 9223372036854775807) :
    Calls Try.prog 37 #[.string (bstr s)] w fun e w' => e = .returned (.bool (goodN s)) ∧ New w w' := by
  have hz : (bstr s).size = s.length := rfl
  by_cases h0 : 0 < s.length ∧ s.length ≤ 40
  · obtain ⟨h1, h2⟩ := h0
    have hd : (bstr s).toList.isEmpty = false := by
      rw [Lib.toList_data, bstr_toList]
      cases s with
      | nil => simp at h1
      | cons c s => rfl
    have h3 : ¬ 40 < s.length := by omega
    have h3i : decide ((40 : Int) < (s.length : Int)) = false := decide_eq_false (by omega)
    obtain ⟨c, w1, hr, hrd, hn, hz1, hc⟩ := run_bytes_of (P := Try.prog) w (src := 9) (dst := 28) (e := 5) Try.underlying9 Try.underlying28 Try.underlying5 s
    have HR := Lib.hid (And.intro hrd hn)
    clear hrd hn hz1 hc
    have hkey : goodN s = s.all nameByte := by unfold goodN; rw [decide_eq_true ⟨h1, h2⟩, Bool.true_and]
    rw [hkey]
    clear hkey
    go_enter Try.func37, Try.ntmps37
    go_wp2
    go_loopw [15] (fun i wr => ∃ k : Nat, k ≤ s.length ∧ i = .int .i64 (k : Int) ∧ wr = w1 ∧ Hid ((s.take k).all nameByte = true)) (fun i _ => s.length - (intOf i).toNat)
    case atStart => exact ⟨0, Nat.zero_le _, rfl, rfl, Lib.hid (by simp)⟩
    case round =>
      obtain ⟨k, hk, rfl, rfl, HI⟩ := hrel
      by_cases hlt : k < s.length
      · obtain ⟨b1, o1, he, hc1⟩ := HR.out.1.at_ hlt
        cases he
        have e1 := hc1 k hlt
        rw [Nat.zero_add] at e1
        clear hc1
        have HX := Lib.hid (And.intro (fun hx => all_step hlt HI.out hx) (fun hx => all_stop hlt hx))
        generalize s[k] = x at e1 HX
        have hxl := x.toNat_lt
        have hki : (k : Int) < (s.length : Int) := by omega
        go_wp2
        all_goals (try simp only [beq_iff_eq, beq_eq_false_iff_ne, ne_eq] at *)
        all_goals first
          | exact ⟨⟨k + 1, by omega, by go_num, trivial, Lib.hid (HX.out.1 ((nameByte_iff x).2 (by omega)))⟩, by simp [intOf]; omega⟩
          | (go_ret; exact ⟨by rw [HX.out.2 (fun h => by have := (nameByte_iff x).1 h; omega)]; rfl, HR.out.2⟩)
      · obtain rfl : k = s.length := by omega
        go_wp2
        go_ret
        exact ⟨by have h := HI.out; rw [List.take_length] at h; rw [h]; rfl, HR.out.2⟩
  · have hkey : goodN s = false := by unfold goodN; rw [decide_eq_false h0, Bool.false_and]
    rw [hkey]
    clear hkey
    by_cases h1 : 0 < s.length
    · have hd : (bstr s).toList.isEmpty = false := by
        rw [Lib.toList_data, bstr_toList]
        cases s with
        | nil => simp at h1
        | cons c s => rfl
      have h3 : 40 < s.length := by omega
      have h3i : decide ((40 : Int) < (s.length : Int)) = true := decide_eq_true (by omega)
      clear h0
      go_enter Try.func37, Try.ntmps37
      go_wp2
      go_ret
      exact ⟨rfl, Kp.refl _ _⟩
    · have h3 : s = [] := List.eq_nil_of_length_eq_zero (by omega)
      subst h3
      clear h0 h1 hz hs
      have hd : (bstr []).toList.isEmpty = true := by rw [Lib.toList_data, bstr_toList]; rfl
      go_enter Try.func37, Try.ntmps37
      go_wp2
      go_ret
      exact ⟨rfl, Kp.refl _ _⟩
end Go.Proofs.Ytekcoeonlfmebaa.Kit
