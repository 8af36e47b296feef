/- The two rows of `first`, in plain words. No program in sight. -/
import Derived.Test.YtejmndfdmikfaaaDoorSumsL
namespace Go.Proofs.YtejmndfdmikfaaaDoor.Kit
open Go

def nmA : List UInt8 := [65]
def nmAB : List UInt8 := [65, 58, 66]
def rows8 : List (List UInt8 × Int) := [(nmAB, 500), (nmA, -500)]
def own8 : List UInt8 → Int := plusO (fun _ => 0) (rowsAt rows8)
theorem own8_eq (k : List UInt8) : own8 k = if k = nmAB then 500 else if k = nmA then -500 else 0 := by
  unfold own8 plusO rows8
  rw [rowsAt_cons, rowsAt_cons, rowsAt_nil]
  by_cases h1 : k = nmAB
  · subst h1; decide
  · by_cases h2 : k = nmA
    · subst h2; decide
    · have e1 : ¬ nmAB = k := fun e => h1 e.symm
      have e2 : ¬ nmA = k := fun e => h2 e.symm
      simp [h1, h2, e1, e2]
theorem covers0 : Covers [] (fun _ : List UInt8 => (0 : Int)) := ⟨List.nodup_nil, fun _ hk => absurd rfl hk⟩
theorem names8 : names2 [] (rowNames rows8) = [nmAB, nmA] := by decide
theorem covers8 : Covers [nmAB, nmA] own8 := by
  have := covers0.plus rows8
  rw [names8] at this
  exact this
theorem ok8 : okE [] (fun _ => 0) rows8 := by
  refine ⟨by decide, fun k => ?_, ?_, ?_⟩
  · have := own8_eq k
    unfold own8 at this
    rw [this]
    unfold top
    split
    · decide
    · split <;> decide
  · rw [names8]; decide
  · rw [names8]; decide
theorem told8 : Told [nmA, nmAB] own8 := by
  refine ⟨by decide, fun n => ?_⟩
  constructor
  · intro h
    simp only [List.mem_cons, List.not_mem_nil, or_false] at h
    rcases h with rfl | rfl
    · exact ⟨nmA, by rw [own8_eq]; decide, under_self _⟩
    · exact ⟨nmAB, by rw [own8_eq]; decide, under_self _⟩
  · rintro ⟨k, hk, hu⟩
    have : k ∈ [nmAB, nmA] := covers8.2 k hk
    have hm : n ∈ ups k := (mem_ups k.length k (Nat.le_refl _)).2 hu
    have e1 : ups nmAB = [nmAB, nmA] := by rw [ups_step (p := nmA) (by decide), ups_root (by decide)]
    have e2 : ups nmA = [nmA] := ups_root (by decide)
    simp only [List.mem_cons, List.not_mem_nil, or_false] at this
    rcases this with rfl | rfl
    · rw [e1] at hm
      simp only [List.mem_cons, List.not_mem_nil, or_false] at hm ⊢
      exact hm.symm
    · rw [e2] at hm
      simp only [List.mem_cons, List.not_mem_nil, or_false] at hm ⊢
      exact .inl hm
theorem roll8 {K : List (List UInt8)} (hK : Covers K own8) : rollup K own8 nmA = 0 := by
  rw [rollup_any hK covers8]; decide
theorem deb8 {K : List (List UInt8)} (hK : Covers K own8) : debits K own8 = 500 := by
  rw [debits_any hK covers8]; decide
theorem cre8 {K : List (List UInt8)} (hK : Covers K own8) : credits K own8 = 500 := by
  rw [credits_any hK covers8]; decide
theorem own8_A : own8 nmA = -500 := by decide
theorem own8_AB : own8 nmAB = 500 := by decide
end Go.Proofs.YtejmndfdmikfaaaDoor.Kit
