/- What came in: bytes, and lists of bytes, as the walks want them. -/
import Derived.Test.YtdgpnpagbhikoaaRows
import Derived.Test.YtdgpnpagbhikoaaShort
import Derived.OpenShut
import Derived.Deep.Slices
import Derived.Carry
import Derived.Below
namespace Go.Proofs.Ytdgpnpagbhikoaa.Kit
open Go Go.RowKit Go.ChangeShapes Go.WideShapes Go.ChangeAt Go.Deep

namespace bulks
theorem one_le {H : Type} (d : DataW H) : 1 ≤ Rows.uptoBulk d := by
  cases d with
  | lit l => cases l <;> simp [Rows.uptoBulk]
  | nil => simp [Rows.uptoBulk]
  | ptr d => simp [Rows.uptoBulk]
  | slice elems spare => simp [Rows.uptoBulk]
  | agg parts => simp [Rows.uptoBulk]
  | iface t d => simp [Rows.uptoBulk]
  | map entries => simp [Rows.uptoBulk]
  | held h => simp [Rows.uptoBulk]
theorem part_le {H : Type} {d : DataW H} {l : List (DataW H)} (h : d ∈ l) : Rows.uptoBulk d ≤ Rows.uptoBulkAll l := by
  induction l with
  | nil => cases h
  | cons x r ih =>
    simp only [Rows.uptoBulkAll]
    cases List.mem_cons.1 h with
    | inl e => subst e; omega
    | inr e => have := ih e; omega
theorem length_le {H : Type} (l : List (DataW H)) : l.length ≤ Rows.uptoBulkAll l := by
  induction l with
  | nil => simp [Rows.uptoBulkAll]
  | cons x r ih => have := one_le x; simp only [Rows.uptoBulkAll, List.length_cons]; omega
theorem slice_le {H : Type} (elems spare : List (DataW H)) : elems.length + spare.length + 1 ≤ Rows.uptoBulk (.slice elems spare) := by
  have h1 := length_le elems
  have h2 := length_le spare
  simp only [Rows.uptoBulk]
  omega
theorem elem_le {H : Type} {elems spare : List (DataW H)} {d : DataW H} (h : d ∈ elems) : Rows.uptoBulk d + 1 ≤ Rows.uptoBulk (.slice elems spare) := by
  have h1 := part_le h
  simp only [Rows.uptoBulk]
  omega
theorem bound {H : Type} {l : List (DataW H)} (hk : Rows.uptoSmall H l = true) : Rows.uptoBulkAll l ≤ 1048576 := by
  simpa [Rows.uptoSmall] using hk
end bulks

theorem Try.laidOut : laidOutB Try.prog = true := by kernel_rfl
theorem Try.cells_u8 : Try.prog.cellsOf 5 = 1 := by kernel_rfl
theorem Try.cells_sb : Try.prog.cellsOf 26 = 1 := by kernel_rfl

section
variable {H : Type} {enc : TypeId × Value → H} {W : World} {base fuel : Nat} {held : Bool}

/-- Bytes that came in. -/
theorem open_bytes {v : Value} {x : DataW H × List MemPlace} (h : DataW.trod enc Try.prog W base (fun _ => true) held fuel 26 [v] = some x) :
    ∃ b : BSl, v = b.val ∧ RdB W b.A b.l ∧ b.l.length ≤ b.c ∧ b.c ≤ maxLen ∧ b.c + 1 ≤ Rows.uptoBulk x.1 := by
  rcases open_ints Try.underlying26 Try.underlying5 Try.cells_u8 h with ⟨hcs, rfl⟩ | ⟨a, len, cap, zs, hcs, _, hl, hm, hz, rfl, hcell, hwf⟩
  · simp only [List.cons.injEq, and_true] at hcs
    subst hcs
    exact ⟨⟨none, 0, []⟩, rfl, fun e => absurd rfl e, Nat.le_refl _, Nat.zero_le _, by simp [Rows.uptoBulk]⟩
  · simp only [List.cons.injEq, and_true] at hcs
    subst hcs
    simp only [if_true] at hz
    have hlen : ((zs.take len).map fun z => UInt8.ofNat z.toNat).length = len := by simp; omega
    refine ⟨⟨some a, cap, (zs.take len).map fun z => UInt8.ofNat z.toNat⟩, ?_, fun _ => ?_, by rw [hlen]; exact hl, hm, ?_⟩
    · show _ = Value.slice (some a) _ cap
      rw [hlen]
    · by_cases h0 : 0 < zs.length
      · obtain ⟨b, off, rfl, hc⟩ := ints_at hcell h0
        refine ⟨b, off, rfl, fun j hj => ?_⟩
        have hj' : j < len := by rw [← hlen]; exact hj
        rw [hc j (by omega)]
        have hr := range_u8 hwf j
        have hjz : j < zs.length := by omega
        simp only [List.getElem_map, List.getElem_take, List.getD_eq_getElem?_getD, List.getElem?_eq_getElem hjz, Option.getD_some] at hr ⊢
        congr 2
        rw [UInt8.toNat_ofNat']
        omega
      · have : len = 0 := by omega
        subst this
        rename_i hne
        simp at hne
    · have := bulks.slice_le (H := H) (lits .u8 (zs.take len)) (lits .u8 (zs.drop len))
      simp only [lits, List.length_map, List.length_take, List.length_drop] at this
      simp only [lits] at this ⊢
      omega

instance : Inhabited BSl := ⟨⟨none, 0, []⟩⟩

/-- Lists of bytes that came in. -/
theorem open_lists {v : Value} {x : DataW H × List MemPlace} (h : DataW.trod enc Try.prog W base (fun _ => true) held fuel 25 [v] = some x) :
    ∃ (A : Option Addr) (c : Nat) (xs : List BSl), v = .slice A xs.length c ∧ RdL W A xs ∧ xs.length ≤ c ∧ c ≤ maxLen ∧ c + 1 ≤ Rows.uptoBulk x.1 ∧ ∀ b ∈ xs, b.c + 1 ≤ Rows.uptoBulk x.1 := by
  rcases open_slice1 Try.underlying25 Try.cells_sb h with ⟨hcs, rfl⟩ | ⟨a, len, cap, m, n, V, D, Pl, hcs, _, hl, hm, hmm, rfl, hx⟩
  · simp only [List.cons.injEq, and_true] at hcs
    subst hcs
    exact ⟨none, 0, [], rfl, ⟨fun e => absurd rfl e, by simp⟩, Nat.le_refl _, Nat.zero_le _, by simp [Rows.uptoBulk], by simp⟩
  · simp only [List.cons.injEq, and_true] at hcs
    subst hcs
    simp only [if_true] at hmm
    subst hmm
    obtain ⟨B, hB⟩ := choose_lt (α := BSl) (p := fun i b => V i = b.val ∧ RdB W b.A b.l ∧ b.l.length ≤ b.c ∧ b.c ≤ maxLen ∧ b.c + 1 ≤ Rows.uptoBulk (D i)) (fun i hi => open_bytes (hx i hi).2)
    have hlen : ((List.range len).map B).length = len := by simp
    refine ⟨some a, m, (List.range len).map B, by rw [hlen], ⟨fun hne => ?_, fun b hb => ?_⟩, by rw [hlen]; exact hl, hm, ?_, fun b hb => ?_⟩
    · have h0 : 0 < len := by
        rcases Nat.eq_zero_or_pos len with e | e
        · subst e; simp at hne
        · exact e
      obtain ⟨b, off, spot⟩ := a
      have hspot : spot = none := by simpa [Addr.add] using World.cell?_spot (hx 0 (by omega)).1
      subst hspot
      refine ⟨b, off, rfl, fun j hj => ?_⟩
      rw [hlen] at hj
      rw [← add_plain, (hx j (by omega)).1, (hB j (by omega)).1]
      simp
    · obtain ⟨i, hi, rfl⟩ := List.mem_map.1 hb
      have := hB i (by have := List.mem_range.1 hi; omega)
      exact ⟨this.2.1, this.2.2.1⟩
    · have := bulks.slice_le (H := H) ((List.range len).map D) ((List.range (m - len)).map fun j => D (len + j))
      simp at this
      show m + 1 ≤ _
      simp only
      omega
    · obtain ⟨i, hi, rfl⟩ := List.mem_map.1 hb
      have h1 := hB i (by have := List.mem_range.1 hi; omega)
      have h2 := bulks.elem_le (H := H) (spare := (List.range (m - len)).map fun j => D (len + j)) (List.mem_map_of_mem (f := D) hi)
      have h3 := h1.2.2.2.2
      simp only
      omega
end
end Go.Proofs.Ytdgpnpagbhikoaa.Kit
