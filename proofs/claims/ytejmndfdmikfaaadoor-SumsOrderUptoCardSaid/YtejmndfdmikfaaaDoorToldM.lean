/- How many names are told. No program in sight. -/
import Derived.Test.YtejmndfdmikfaaaDoorSetM
namespace Go.Proofs.YtejmndfdmikfaaaDoor.Kit
open Go

theorem nodup_len {α : Type} [DecidableEq α] : ∀ {l m : List α}, l.Nodup → (∀ x ∈ l, x ∈ m) → l.length ≤ m.length
  | [], _, _, _ => Nat.zero_le _
  | x :: l, m, hn, h => by
    rw [List.nodup_cons] at hn
    have hx : x ∈ m := h x (List.mem_cons_self ..)
    have h1 := nodup_len (l := l) (m := m.erase x) hn.2 fun y hy => by
      have hne : y ≠ x := fun e => hn.1 (e ▸ hy)
      exact (List.mem_erase_of_ne hne).2 (h y (List.mem_cons_of_mem _ hy))
    rw [List.length_erase_of_mem hx] at h1
    have : 0 < m.length := List.length_pos_of_mem hx
    rw [List.length_cons]
    omega
theorem ups_length : ∀ (l : Nat) (s : List UInt8), s.length ≤ l → (ups s).length ≤ s.length + 1
  | l, s, hl => by
    cases h : above s with
    | none => rw [ups_root h]; simp
    | some p =>
      have hlt := above_lt h
      cases l with
      | zero => omega
      | succ l =>
        rw [ups_step h, List.length_cons]
        have := ups_length l p (by omega)
        omega
theorem goodA_len {s : List UInt8} (h : goodA s = true) : s.length ≤ 102 := by
  unfold goodA at h
  simp only [Bool.and_eq_true, decide_eq_true_eq] at h
  exact h.1.1
theorem told_length {N K : List (List UInt8)} {O : List UInt8 → Int} (hn : N.Nodup) (hN : ∀ n, n ∈ N → ∃ k, O k ≠ 0 ∧ under n k = true) (hK : Covers K O) (hg : ∀ k, O k ≠ 0 → goodA k = true) : N.length ≤ 103 * K.length := by
  have h1 : N.length ≤ ((K.filter fun k => O k != 0).flatMap ups).length := nodup_len hn fun n hm => by
    obtain ⟨k, hk, hu⟩ := hN n hm
    exact List.mem_flatMap.2 ⟨k, List.mem_filter.2 ⟨hK.2 k hk, by simpa using hk⟩, (mem_ups k.length k (Nat.le_refl _)).2 hu⟩
  have h2 : ∀ l : List (List UInt8), (∀ k ∈ l, O k ≠ 0) → (l.flatMap ups).length ≤ 103 * l.length := by
    intro l
    induction l with
    | nil => intro _; simp
    | cons k l ih =>
      intro h
      rw [List.flatMap_cons, List.length_append, List.length_cons]
      have h3 := ih fun x hx => h x (List.mem_cons_of_mem _ hx)
      have h4 := ups_length k.length k (Nat.le_refl _)
      have h5 := goodA_len (hg k (h k (List.mem_cons_self ..)))
      omega
  have h3 := h2 (K.filter fun k => O k != 0) fun k hk => by simpa using (List.mem_filter.1 hk).2
  have h4 := List.length_filter_le (fun k => O k != 0) K
  omega
theorem told_of_count {N K : List (List UInt8)} {O : List UInt8 → Int} (hK : Covers K O) (hp : N.Pairwise (· < ·)) (hm : ∀ n, n ∈ N ↔ count K O n ≠ 0) : Told N O := ⟨hp, fun n => (hm n).trans (count_pos hK)⟩
end Go.Proofs.YtejmndfdmikfaaaDoor.Kit
