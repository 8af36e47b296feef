/- SumsOrder: plain laws: rows in another order; a state told is a state; slices of slices. No program in sight but the kinds. -/
import Derived.Test.YtejmndfdmikfaaaDoorFrom8
namespace Go.Proofs.YtejmndfdmikfaaaDoor.Kit
open Go Go.RowKit

theorem RdC.upto {w : World} {A : Option Addr} {cs : List Value} (h : RdC w A cs) (k : Nat) : RdC w A (cs.take k) := by
  intro hne
  obtain ⟨b, off, rfl, hc⟩ := h (by rintro rfl; simp at hne)
  refine ⟨b, off, rfl, fun j u hu => hc j u ?_⟩
  rw [List.getElem?_take] at hu
  split at hu
  · exact hu
  · cases hu
theorem RdC.from_ {w : World} {A : Option Addr} {cs : List Value} (h : RdC w A cs) (c lo sz : Nat) (hc : cs.length ≤ c * sz) : RdC w (Kit.adv A c lo sz) (cs.drop (lo * sz)) := by
  intro hne
  have hlen : 0 < (cs.drop (lo * sz)).length := List.length_pos_iff.2 hne
  rw [List.length_drop] at hlen
  obtain ⟨b, off, rfl, hcell⟩ := h (by rintro rfl; simp at hlen)
  refine ⟨b, off + lo * sz, ?_, fun j u hu => ?_⟩
  · unfold Kit.adv
    rw [if_neg (by rintro rfl; omega)]
    simp [Addr.add_lit]
  · rw [List.getElem?_drop] at hu
    rw [Nat.add_assoc]
    exact hcell _ u hu
theorem flat_take {α : Type} {f : α → List Value} {k : Nat} (hf : ∀ x, (f x).length = k) : ∀ (xs : List α) (n : Nat), (xs.take n).flatMap f = (xs.flatMap f).take (n * k)
  | [], n => by simp
  | x :: xs, 0 => by simp
  | x :: xs, n + 1 => by
    rw [List.take_succ_cons, List.flatMap_cons, List.flatMap_cons, flat_take hf xs n, List.take_append, hf, Nat.add_mul, Nat.one_mul, List.take_of_length_le (l := f x) (by rw [hf]; omega), Nat.add_sub_cancel]
theorem flat_drop {α : Type} {f : α → List Value} {k : Nat} (hf : ∀ x, (f x).length = k) : ∀ (xs : List α) (n : Nat), (xs.drop n).flatMap f = (xs.flatMap f).drop (n * k)
  | [], n => by simp
  | x :: xs, 0 => by simp
  | x :: xs, n + 1 => by
    rw [List.drop_succ_cons, List.flatMap_cons, flat_drop hf xs n, List.drop_append, hf, Nat.add_mul, Nat.one_mul, List.drop_of_length_le (l := f x) (by rw [hf]; omega), List.nil_append, Nat.add_sub_cancel]
theorem perm_pick {α : Type} {ps piece l : List α} {p : α} {a : Nat} (h : (piece ++ l).Perm ps) (hp : l[a]? = some p) : ((piece ++ [p]) ++ (l.take a ++ l.drop (a + 1))).Perm ps := by
  refine List.Perm.trans ?_ h
  obtain ⟨hlt, e⟩ := List.getElem?_eq_some_iff.1 hp
  have e2 : l = l.take a ++ p :: l.drop (a + 1) := by rw [← e, ← List.drop_eq_getElem_cons hlt, List.take_append_drop]
  rw [List.append_assoc]
  refine List.Perm.append_left _ ?_
  conv => rhs; rw [e2]
  rw [List.singleton_append]
  exact List.perm_middle.symm
theorem told_zero {N : List (List UInt8)} (h : Told N (fun _ => 0)) : N = [] := by
  cases N with
  | nil => rfl
  | cons n N =>
    obtain ⟨k, hk, _⟩ := (h.2 n).1 (List.mem_cons_self ..)
    exact absurd rfl hk
theorem rowsB_told (K N : List (List UInt8)) (O : List UInt8 → Int) : (rowsB (N.map (balOf K O))).map Pst.row = rowsOf (N.filter fun n => O n != 0) O := by
  unfold rowsB rowsOf
  rw [List.filter_map, List.map_map, List.map_map]
  rfl
/-- What a view tells is a state. -/
theorem isSt_told {N K : List (List UInt8)} {O : List UInt8 → Int} (hK : Covers K O) (hF : Fits K O) (hg : ∀ k, O k ≠ 0 → goodA k = true) (hN : Told N O) :
    isSt (N.map (balOf K O)) ∧ stO (N.map (balOf K O)) = O := by
  obtain ⟨h1, h2⟩ := told_back hK hF hg hN
  have e : stO (N.map (balOf K O)) = O := by
    unfold stO
    rw [rowsB_told]
    exact h2
  refine ⟨⟨by rw [rowsB_told]; exact h1, N, by rw [e]; exact hN, ?_⟩, e⟩
  have hc : Covers (stK (N.map (balOf K O))) (stO (N.map (balOf K O))) := covers_nil.plus _
  rw [e] at hc ⊢
  exact told_same hN hN hc hK
theorem told_ok {N K : List (List UInt8)} {O : List UInt8 → Int} (hF : Fits K O) (hg : ∀ k, O k ≠ 0 → goodA k = true) (hN : Told N O) : ∀ b ∈ N.map (balOf K O), b.Ok := by
  intro b hb
  obtain ⟨n, hn, rfl⟩ := List.mem_map.1 hb
  obtain ⟨k, hk, hu⟩ := (hN.2 n).1 hn
  have h1 := goodA_len (ups_good k.length k (Nat.le_refl _) (hg k hk) n ((mem_ups k.length k (Nat.le_refl _)).2 hu))
  have h2 := hF.1 n
  unfold top at h2
  exact ⟨show n.length < _ by omega, show _ ≤ O n by omega, show O n ≤ _ by omega⟩
end Go.Proofs.YtejmndfdmikfaaaDoor.Kit
