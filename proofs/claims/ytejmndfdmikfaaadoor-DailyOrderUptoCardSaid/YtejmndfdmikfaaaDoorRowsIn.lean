/- What came in: a slice of structs of one-cell fields, cell by cell, and how each field reads; bulks. -/
import Derived.Test.YtejmndfdmikfaaaDoorRows
import Derived.Test.YtejmndfdmikfaaaDoorOwn
import Derived.OpenShut
import Derived.Deep.Slices
import Derived.Deep.Fields
import Derived.Carry
import Derived.Below
import Derived.SizedLaws
namespace Go.Proofs.YtejmndfdmikfaaaDoor.Kit
open Go Go.RowKit Go.ChangeShapes Go.WideShapes Go.ChangeAt Go.Deep

namespace bulks
theorem one_le {H : Type} (d : DataW H) : 1 ≤ Rows.uptoBulk d := by
  cases d with
  | lit l => cases l <;> simp [Rows.uptoBulk]
  | nil => simp [Rows.uptoBulk]
  | ptr d => simp [Rows.uptoBulk]
  | slice elems spare => simp [Rows.uptoBulk]
  | agg parts => simp [Rows.uptoBulk]
  | iface t d => simp [Rows.uptoBulk]
  | map entries => simp [Rows.uptoBulk]
  | held h => simp [Rows.uptoBulk]
theorem part_le {H : Type} {d : DataW H} {l : List (DataW H)} (h : d ∈ l) : Rows.uptoBulk d ≤ Rows.uptoBulkAll l := by
  induction l with
  | nil => cases h
  | cons x r ih =>
    simp only [Rows.uptoBulkAll]
    cases List.mem_cons.1 h with
    | inl e => subst e; omega
    | inr e => have := ih e; omega
theorem length_le {H : Type} (l : List (DataW H)) : l.length ≤ Rows.uptoBulkAll l := by
  induction l with
  | nil => simp [Rows.uptoBulkAll]
  | cons x r ih => have := one_le x; simp only [Rows.uptoBulkAll, List.length_cons]; omega
theorem slice_le {H : Type} (elems spare : List (DataW H)) : elems.length + spare.length + 1 ≤ Rows.uptoBulk (.slice elems spare) := by
  have h1 := length_le elems
  have h2 := length_le spare
  simp only [Rows.uptoBulk]
  omega
theorem elem_le {H : Type} {elems spare : List (DataW H)} {d : DataW H} (h : d ∈ elems) : Rows.uptoBulk d + 1 ≤ Rows.uptoBulk (.slice elems spare) := by
  have h1 := part_le h
  simp only [Rows.uptoBulk]
  omega
theorem agg_le {H : Type} {parts : List (DataW H)} {d : DataW H} (h : d ∈ parts) : Rows.uptoBulk d + 1 ≤ Rows.uptoBulk (.agg parts) := by
  have h1 := part_le h
  simp only [Rows.uptoBulk]
  omega
theorem bound {H : Type} {l : List (DataW H)} (hk : Rows.uptoSmall H l = true) : Rows.uptoBulkAll l ≤ 1048576 := by
  simpa [Rows.uptoSmall] using hk
end bulks

/-- No string, slice or map in it takes more than the form's reach. -/
def Lite {H : Type} (P : Program) (t : TypeId) (d : DataW H) : Prop := ∀ n ∈ d.weights P t, n ≤ reachBytes
theorem Lite.all {H : Type} {P : Program} {e : TypeId} : ∀ {l : List (DataW H)} {d : DataW H}, (∀ n ∈ DataW.weightsAll P e l, n ≤ reachBytes) → d ∈ l → Lite P e d
  | x :: r, d, h, hd => by
    unfold DataW.weightsAll at h
    rcases List.mem_cons.1 hd with rfl | hd
    · exact fun n hn => h n (List.mem_append_left _ hn)
    · exact Lite.all (fun n hn => h n (List.mem_append_right _ hn)) hd
theorem Lite.each {H : Type} {P : Program} : ∀ {ts : List TypeId} {l : List (DataW H)} {j : Nat} {t : TypeId} {d : DataW H}, (∀ n ∈ DataW.weightsEach P ts l, n ≤ reachBytes) → ts[j]? = some t → l[j]? = some d → Lite P t d
  | [], _, _, _, _, _, ht, _ => by simp at ht
  | _ :: _, [], _, _, _, _, _, hd => by simp at hd
  | t0 :: ts, x :: r, j, t, d, h, ht, hd => by
    unfold DataW.weightsEach at h
    cases j with
    | zero =>
      simp only [List.getElem?_cons_zero, Option.some.injEq] at ht hd
      subst ht hd
      exact fun n hn => h n (List.mem_append_left _ hn)
    | succ j =>
      rw [List.getElem?_cons_succ] at ht hd
      exact Lite.each (fun n hn => h n (List.mem_append_right _ hn)) ht hd
theorem Lite.slice {H : Type} {P : Program} {t e : TypeId} {elems spare : List (DataW H)} (ht : P.underlying t = some (.slice e)) (h : Lite P t (.slice elems spare)) : (elems.length + spare.length) * P.bytesOf e ≤ reachBytes ∧ ∀ d ∈ elems, Lite P e d := by
  unfold Lite at h
  unfold DataW.weights at h
  rw [ht] at h
  exact ⟨h _ List.mem_cons_self, fun d hd => Lite.all (fun n hn => h n (List.mem_cons_of_mem _ (List.mem_append_left _ hn))) hd⟩
theorem Lite.agg {H : Type} {P : Program} {t : TypeId} {fs : Array Field} {parts : List (DataW H)} (ht : P.underlying t = some (.struct fs)) (h : Lite P t (.agg parts)) {j : Nat} {f : Field} {d : DataW H} (hf : fs[j]? = some f) (hd : parts[j]? = some d) : Lite P f.type d := by
  unfold Lite at h
  unfold DataW.weights at h
  rw [ht] at h
  exact Lite.each h (by rw [List.getElem?_map, Array.getElem?_toList, hf]; rfl) hd
theorem Lite.str {H : Type} {P : Program} {t : TypeId} {l : List UInt8} (h : Lite (H := H) P t (.lit (.string l))) : l.length ≤ reachBytes := h _ (by unfold DataW.weights; simp)
theorem Lite.of_sized {H : Type} {P : Program} {ts : List TypeId} {ds : List (DataW H)} (h : (DataW.weightsEach P ts ds).all (· ≤ reachBytes) = true) {j : Nat} {t : TypeId} {d : DataW H} (ht : ts[j]? = some t) (hd : ds[j]? = some d) : Lite P t d :=
  Lite.each (fun n hn => of_decide_eq_true (List.all_eq_true.1 h n hn)) ht hd

theorem Tryd.laidOut : laidOutB Tryd.prog = true := by kernel_rfl

section
variable {H : Type} {enc : TypeId × Value → H} {W : World} {base : Nat} {held : Bool}

/-- A struct's fields, each as it reads. -/
theorem open_fields {P : Program} {e : TypeId} {fs : Array Field} {fuel : Nat} {cs : List Value} {x : DataW H × List MemPlace} (he : P.underlying e = some (.struct fs)) (h : DataW.trod enc P W base (fun _ => true) held fuel e cs = some x) :
    cs.length = P.cellsOf e ∧ ∀ (j : Nat) (f : Field), fs[j]? = some f → ∃ n y, DataW.trod enc P W base (fun _ => true) held n f.type ((cs.drop f.offset).take (P.cellsOf f.type)) = some y ∧ Rows.uptoBulk y.1 + 1 ≤ Rows.uptoBulk x.1 ∧ (Lite P e x.1 → Lite P f.type y.1) := by
  obtain ⟨ys, n', _, rfl, hl, hyl, hf⟩ := DataW.trod_struct he h
  refine ⟨hl, fun j f hj => ?_⟩
  have hjl : j < fs.size := (Array.getElem?_eq_some_iff.1 hj).1
  have h1 := hf j f hj
  rw [List.getElem?_eq_getElem (by omega)] at h1
  exact ⟨n', _, h1, bulks.agg_le (List.mem_map_of_mem (f := Prod.fst) (List.getElem_mem (show j < ys.length by omega))), fun hL => hL.agg he hj (by rw [List.getElem?_map, List.getElem?_eq_getElem (by omega)]; rfl)⟩
/-- A slice of structs that came in: the cells of each element, and how its fields read. -/
theorem open_rows {P : Program} {t e : TypeId} {fs : Array Field} {sz fuel : Nat} {v : Value} {x : DataW H × List MemPlace} (ht : P.underlying t = some (.slice e)) (he : P.underlying e = some (.struct fs))
    (hC : P.cellsOf e = sz) (hpos : 0 < sz) (h : DataW.trod enc P W base (fun _ => true) held fuel t [v] = some x) :
    ∃ (A : Option Addr) (len c : Nat) (R : Nat → List Value), v = .slice A len c ∧ len ≤ c ∧ c ≤ maxLen ∧ c + 1 ≤ Rows.uptoBulk x.1 ∧ (Lite P t x.1 → c * P.bytesOf e ≤ reachBytes) ∧
      (0 < len → ∃ b off, A = some ⟨b, off, none⟩ ∧ ∀ i, i < len → ∀ j, j < sz → W.cell? ⟨b, off + (i * sz + j), none⟩ = (R i)[j]?) ∧
      ∀ i, i < len → (R i).length = sz ∧ ∀ (j : Nat) (f : Field), fs[j]? = some f → ∃ n y, DataW.trod enc P W base (fun _ => true) held n f.type (((R i).drop f.offset).take (P.cellsOf f.type)) = some y ∧ Rows.uptoBulk y.1 ≤ Rows.uptoBulk x.1 ∧ (Lite P t x.1 → Lite P f.type y.1) := by
  rcases open_slice ht h with ⟨hcs, rfl⟩ | ⟨a, len, cap, m, n, D, Pl, hcs, _, hl, hm, hmm, rfl, hx⟩
  · simp only [List.cons.injEq, and_true] at hcs
    subst hcs
    exact ⟨none, 0, 0, fun _ => [], rfl, Nat.le_refl _, Nat.zero_le _, by simp [Rows.uptoBulk], fun _ => by simp, fun h => absurd h (Nat.lt_irrefl _), fun i hi => absurd hi (Nat.not_lt_zero _)⟩
  · simp only [List.cons.injEq, and_true] at hcs
    subst hcs
    simp only [if_true] at hmm
    subst hmm
    have key : ∀ i, i < m → ∃ (r : List Value), (∀ j, j < sz → W.cell? (a.add (i * sz + j)) = r[j]?) ∧ r.length = sz ∧
        ∀ (j : Nat) (f : Field), fs[j]? = some f → ∃ n y, DataW.trod enc P W base (fun _ => true) held n f.type ((r.drop f.offset).take (P.cellsOf f.type)) = some y ∧ Rows.uptoBulk y.1 + 1 ≤ Rows.uptoBulk (D i) ∧ (Lite P e (D i) → Lite P f.type y.1) := by
      intro i hi
      obtain ⟨cs', hc, ht'⟩ := hx i hi
      rw [hC] at hc
      obtain ⟨_, hcl, hat⟩ := World.cells?_some hc
      exact ⟨cs', fun j hj => by rw [← hat j hj, Go.Deep.add_add], hcl, (open_fields he ht').2⟩
    obtain ⟨R, hR⟩ := choose_lt (α := List Value) key
    refine ⟨some a, len, m, R, rfl, hl, hm, ?_, fun hL => ?_, fun h0 => ?_, fun i hi => ⟨(hR i (by omega)).2.1, fun j f hj => ?_⟩⟩
    · have := bulks.slice_le (H := H) ((List.range len).map D) ((List.range (m - len)).map fun j => D (len + j))
      simp only [List.length_map, List.length_range] at this
      show m + 1 ≤ _
      simp only
      omega
    · have h1 := (hL.slice ht).1
      simp only [List.length_map, List.length_range] at h1
      have h2 : len + (m - len) = m := by omega
      rwa [h2] at h1
    · obtain ⟨b, off, spot⟩ := a
      have c0 := (hR 0 (by omega)).1 0 hpos
      rw [List.getElem?_eq_getElem (by rw [(hR 0 (by omega)).2.1]; exact hpos)] at c0
      have hspot : spot = none := by simpa [Addr.add] using World.cell?_spot c0
      subst hspot
      exact ⟨b, off, rfl, fun i hi j hj => by rw [← add_plain]; exact (hR i (by omega)).1 j hj⟩
    · obtain ⟨n', y, h1, h2, h4⟩ := (hR i (by omega)).2.2 j f hj
      have h3 := bulks.elem_le (H := H) (spare := (List.range (m - len)).map fun j => D (len + j)) (List.mem_map_of_mem (f := D) (List.mem_range.2 hi))
      exact ⟨n', y, h1, by simp only at h3 ⊢; omega, fun hL => h4 ((hL.slice ht).2 _ (List.mem_map_of_mem (f := D) (List.mem_range.2 hi)))⟩
end
end Go.Proofs.YtejmndfdmikfaaaDoor.Kit
