/- daybookref05: Below, Root. -/
import Derived.Test.YtejmndfdmikfaaaDoorChart2
import Derived.Test.YtejmndfdmikfaaaDoorSumsL
namespace Go.Proofs.YtejmndfdmikfaaaDoor.Kit
open Go Go.RowKit

/-- Is a below b? -/
def isBelow (a b : List UInt8) : Bool := (b ++ [58]).isPrefixOf a
theorem isBelow_iff {a b : List UInt8} : isBelow a b = true ↔ ∃ r, a = b ++ 58 :: r := by
  unfold isBelow
  rw [List.isPrefixOf_iff_prefix]
  constructor
  · rintro ⟨r, h⟩; exact ⟨r, by rw [← h]; simp⟩
  · rintro ⟨r, h⟩; exact ⟨r, by rw [h]; simp⟩
theorem under_below (n k : List UInt8) : under n k = (k == n || isBelow k n) := rfl
theorem isBelow_at {a b : List UInt8} (h : b.length < a.length) : isBelow a b = (decide (a.take b.length = b) && decide (a[b.length] = 58)) := by
  by_cases h1 : a.take b.length = b
  · by_cases h2 : a[b.length] = 58
    · rw [decide_eq_true h1, decide_eq_true h2]
      refine isBelow_iff.2 ⟨a.drop (b.length + 1), ?_⟩
      have := List.take_append_drop b.length a
      rw [h1, List.drop_eq_getElem_cons h, h2] at this
      exact this.symm
    · rw [decide_eq_false h2, Bool.and_false]
      cases hb : isBelow a b with
      | false => rfl
      | true =>
        obtain ⟨r, e⟩ := isBelow_iff.1 hb
        subst e
        simp at h2
  · rw [decide_eq_false h1, Bool.false_and]
    cases hb : isBelow a b with
    | false => rfl
    | true =>
      obtain ⟨r, e⟩ := isBelow_iff.1 hb
      subst e
      simp at h1
theorem isBelow_short {a b : List UInt8} (h : ¬ b.length < a.length) : isBelow a b = false := by
  cases hb : isBelow a b with
  | false => rfl
  | true =>
    obtain ⟨r, e⟩ := isBelow_iff.1 hb
    subst e
    simp at h
set_option maxHeartbeats 1000000 in
theorem Below_calls (w : World) (a b : List UInt8) :
    Calls Tryd.prog 15 #[.string (bstr a), .string (bstr b)] w fun e w' => e = .returned (.bool (isBelow a b)) ∧ w = w' := by
  have za : (bstr a).size = a.length := rfl
  have zb : (bstr b).size = b.length := rfl
  by_cases h : b.length < a.length
  · have q0 : decide ((b.length : Int) < a.length) = true := decide_eq_true (by omega)
    have hs := run_upto (P := Tryd.prog) Tryd.underlying9 a (Nat.le_of_lt h)
    rw [isBelow_at h]
    by_cases h1 : a.take b.length = b
    · have hi := run_at (P := Tryd.prog) Tryd.underlying9 a h
      rw [decide_eq_true h1, Bool.true_and]
      obtain ⟨x, hx⟩ : ∃ x, a[b.length] = x := ⟨_, rfl⟩
      rw [hx] at hi ⊢
      rw [h1] at hs
      by_cases h2 : x = 58
      · have q2 : ((x.toNat : Int) == 58) = true := by subst h2; decide
        rw [decide_eq_true h2]
        clear h1 h2 hx
        go_enter Tryd.func15, Tryd.ntmps15
        go_wp2
        go_ret
        exact ⟨rfl, rfl⟩
      · have q2 : ((x.toNat : Int) == 58) = false := by
          simp only [beq_eq_false_iff_ne, ne_eq]
          intro e
          exact h2 (UInt8.toNat_inj.1 (by show x.toNat = 58; omega))
        rw [decide_eq_false h2]
        clear h1 h2 hx
        go_enter Tryd.func15, Tryd.ntmps15
        go_wp2
        go_ret
        exact ⟨rfl, rfl⟩
    · rw [decide_eq_false h1, Bool.false_and]
      have q1 : ((bstr (a.take b.length)).toList == (bstr b).toList) = false := by rw [bstr_beq, decide_eq_false h1]
      clear h1
      go_enter Tryd.func15, Tryd.ntmps15
      go_wp2
      go_ret
      exact ⟨rfl, rfl⟩
  · have q0 : decide ((b.length : Int) < a.length) = false := decide_eq_false (by omega)
    rw [isBelow_short h]
    go_enter Tryd.func15, Tryd.ntmps15
    go_wp2
    go_ret
    exact ⟨rfl, rfl⟩
set_option maxHeartbeats 1000000 in
theorem Root_calls (w : World) (s : List UInt8) (hs : s.length ≤ 4611686018427387904) :
    Calls Tryd.prog 19 #[.string (bstr s)] w fun e w' => e = .returned (.bool (root s)) ∧ w = w' := by
  have hz : (bstr s).size = s.length := rfl
  go_enter Tryd.func19, Tryd.ntmps19
  go_wp2
  go_loopw [3] (fun i wr => ∃ k : Nat, k ≤ s.length ∧ i = .int .i64 (k : Int) ∧ wr = w ∧ Hid (58 ∉ s.take k)) (fun i _ => s.length - (intOf i).toNat)
  case atStart => exact ⟨0, Nat.zero_le _, rfl, rfl, Lib.hid (by simp)⟩
  case round =>
    obtain ⟨k, hk, rfl, rfl, HI⟩ := hrel
    by_cases hlt : k < s.length
    · have e1 := run_at (P := Tryd.prog) Tryd.underlying9 s hlt
      have hki : decide ((k : Int) < (s.length : Int)) = true := decide_eq_true (by omega)
      obtain ⟨x, hx⟩ : ∃ x, s[k] = x := ⟨_, rfl⟩
      rw [hx] at e1
      by_cases h2 : x = 58
      · have q2 : ((x.toNat : Int) == 58) = true := by subst h2; decide
        have hr : root s = false := by
          unfold root
          rw [← h2, ← hx]
          simp
        have HR := Lib.hid hr
        clear hx h2 hr
        go_wp2
        go_ret
        exact ⟨by rw [HR.out]; rfl, rfl⟩
      · have q2 : ((x.toNat : Int) == 58) = false := by
          simp only [beq_eq_false_iff_ne, ne_eq]
          intro e
          exact h2 (UInt8.toNat_inj.1 (by show x.toNat = 58; omega))
        have hn : 58 ∉ s.take (k + 1) := by
          rw [take_snoc hlt, List.mem_append, hx]
          simp only [List.mem_cons, List.not_mem_nil, or_false]
          rintro (h | h)
          · exact HI.out h
          · exact h2 h.symm
        have HN := Lib.hid hn
        clear hx h2 hn
        go_wp2
        exact ⟨⟨k + 1, by omega, by go_num, trivial, HN⟩, by simp [intOf]; omega⟩
    · obtain rfl : k = s.length := by omega
      have hr : root s = true := by
        have := HI.out
        rw [List.take_length] at this
        unfold root
        simpa using this
      have HR := Lib.hid hr
      clear hr
      go_wp2
      go_ret
      exact ⟨by rw [HR.out]; rfl, rfl⟩
end Go.Proofs.YtejmndfdmikfaaaDoor.Kit
