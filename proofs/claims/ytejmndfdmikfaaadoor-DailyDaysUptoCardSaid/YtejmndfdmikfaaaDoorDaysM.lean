/- Daily's plain law: from day to day by the change alone; cut anywhere. -/
import Derived.Test.YtejmndfdmikfaaaDoorDailyS
namespace Go.Proofs.YtejmndfdmikfaaaDoor.Kit

theorem bal_step (l : List (Int × Int)) (d : Int) : bal l d = bal l (d - 1) + chg l d := by
  induction l with
  | nil => rfl
  | cons r l ih =>
    rw [bal_cons, bal_cons, chg_cons, ih]
    by_cases h1 : r.1 = d
    · rw [if_pos (by omega), if_neg (by omega), if_pos h1]; omega
    · by_cases h2 : r.1 ≤ d
      · rw [if_pos h2, if_pos (by omega), if_neg h1]; omega
      · rw [if_neg h2, if_neg (by omega), if_neg h1]; omega
theorem bal_gap {l : List (Int × Int)} {d e : Int} (hde : d ≤ e) (h : ∀ c, d < c → c ≤ e → chg l c = 0) : bal l e = bal l d := by
  rw [← bal_canon l e, ← bal_canon l d]
  unfold bal
  congr 2
  refine List.filter_congr fun r hr => ?_
  obtain ⟨h1, h2⟩ := mem_canon.1 hr
  by_cases hr1 : r.1 ≤ d
  · have : r.1 ≤ e := by omega
    simp [hr1, this]
  · by_cases hr2 : r.1 ≤ e
    · exact absurd (h1.trans (h r.1 (by omega) hr2)) h2
    · simp [hr1, hr2]
theorem betw_mem {l : List (Int × Int)} {a b : Int} {x : Int × Int × Int} (h : x ∈ betw l a b) : x ∈ days l ∧ a ≤ x.1 ∧ x.1 ≤ b := by
  unfold betw at h
  rw [List.mem_filter] at h
  simpa using h
theorem betw_rise (l : List (Int × Int)) (a b : Int) : RiseD (betw l a b) := List.Pairwise.sublist List.filter_sublist (days_rise l)
theorem betw_cut (l : List (Int × Int)) {a b c : Int} (h1 : a ≤ c) (h2 : c < b) : betw l a b = betw l a c ++ betw l (c + 1) b := by
  have key : ∀ es : List (Int × Int × Int), RiseD es → (es.filter fun x => decide (a ≤ x.1) && decide (x.1 ≤ b)) = (es.filter fun x => decide (a ≤ x.1) && decide (x.1 ≤ c)) ++ es.filter fun x => decide (c + 1 ≤ x.1) && decide (x.1 ≤ b) := by
    intro es hr
    induction es with
    | nil => rfl
    | cons x es ih =>
      rw [List.filter_cons, List.filter_cons, List.filter_cons, ih hr.tail]
      by_cases hx : x.1 ≤ c
      · have e1 : decide (x.1 ≤ b) = true := decide_eq_true (by omega)
        have e2 : decide (x.1 ≤ c) = true := decide_eq_true hx
        have e3 : decide (c + 1 ≤ x.1) = false := decide_eq_false (by omega)
        rw [e1, e2, e3]
        cases decide (a ≤ x.1) <;> simp
      · have e2 : decide (x.1 ≤ c) = false := decide_eq_false hx
        have e3 : decide (c + 1 ≤ x.1) = true := decide_eq_true (by omega)
        have e4 : decide (a ≤ x.1) = true := decide_eq_true (by omega)
        have e5 : (es.filter fun x => decide (a ≤ x.1) && decide (x.1 ≤ c)) = [] := by
          refine List.filter_eq_nil_iff.2 fun y hy hp => ?_
          have := hr.head y hy
          simp only [Bool.and_eq_true, decide_eq_true_eq] at hp
          omega
        rw [e2, e3, e4, e5]
        cases decide (x.1 ≤ b) <;> simp
  exact key _ (days_rise l)
theorem betw_one {l : List (Int × Int)} {x : Int × Int × Int} (h : x ∈ days l) : betw l x.1 x.1 = [x] := by
  have hr := betw_rise l x.1 x.1
  have hm : x ∈ betw l x.1 x.1 := by
    unfold betw
    rw [List.mem_filter]
    exact ⟨h, by simp⟩
  have hall : ∀ y ∈ betw l x.1 x.1, y = x := fun y hy => by
    obtain ⟨h1, h2, h3⟩ := betw_mem hy
    exact (days_rise l).inj h1 h (by omega)
  cases hb : betw l x.1 x.1 with
  | nil => rw [hb] at hm; cases hm
  | cons y r =>
    rw [hb] at hall hr
    obtain rfl := hall y (List.mem_cons_self ..)
    cases r with
    | nil => rfl
    | cons z r =>
      have h1 := hall z (by simp)
      have h2 := hr.head z (List.mem_cons_self ..)
      rw [h1] at h2
      omega
/-- The balance ahead of a day told is that of the day told ahead of it. -/
theorem betw_before {l : List (Int × Int)} {a b : Int} {i : Nat} {x y : Int × Int × Int} (hy : (betw l a b)[i]? = some y) (hx : (betw l a b)[i + 1]? = some x) : bal l (x.1 - 1) = y.2.2 ∧ y.1 < x.1 := by
  have hr := betw_rise l a b
  obtain ⟨hy1, hy2⟩ := List.getElem?_eq_some_iff.1 hy
  obtain ⟨hx1, hx2⟩ := List.getElem?_eq_some_iff.1 hx
  have hlt : y.1 < x.1 := by
    have := List.pairwise_iff_getElem.1 hr i (i + 1) hy1 hx1 (by omega)
    rw [hy2, hx2] at this
    exact this
  refine ⟨?_, hlt⟩
  obtain ⟨my, ay, by'⟩ := betw_mem (List.mem_of_getElem? hy)
  obtain ⟨mx, ax, bx⟩ := betw_mem (List.mem_of_getElem? hx)
  rw [(days_mem my).2.2]
  refine bal_gap (by omega) fun c h1 h2 => Classical.byContradiction fun hc => ?_
  have hm : (c, chg l c, bal l c) ∈ betw l a b := by
    unfold betw
    rw [List.mem_filter]
    refine ⟨days_at hc, ?_⟩
    simp only [Bool.and_eq_true, decide_eq_true_eq]
    omega
  obtain ⟨k, hk⟩ := List.getElem?_of_mem hm
  obtain ⟨hk1, hk2⟩ := List.getElem?_eq_some_iff.1 hk
  rcases Nat.lt_or_ge i k with h | h
  · rcases Nat.lt_or_ge k (i + 1) with h' | h'
    · omega
    · rcases Nat.lt_or_eq_of_le h' with h'' | rfl
      · have := List.pairwise_iff_getElem.1 hr (i + 1) k hx1 hk1 h''
        rw [hx2, hk2] at this
        simp only at this
        omega
      · rw [hx] at hk
        cases hk
        simp only at h2
        omega
  · rcases Nat.lt_or_eq_of_le h with h' | rfl
    · have := List.pairwise_iff_getElem.1 hr k i hk1 hy1 h'
      rw [hy2, hk2] at this
      simp only at this
      omega
    · rw [hy] at hk
      cases hk
      simp only at h1
      omega
end Go.Proofs.YtejmndfdmikfaaaDoor.Kit
