/- Slices of notes or files, all of a call's own: one is changed in its place. -/
import Derived.Test.YtekcoeonlfmebaaFiles
import Derived.Test.YtekcoeonlfmebaaOwn2
import Derived.Test.YtekcoeonlfmebaaDiskF
import Derived.Test.YtekcoeonlfmebaaDisk
namespace Go.Proofs.Ytekcoeonlfmebaa.Kit
open Go Go.RowKit

theorem Try.info_note : (Try.prog.info? 66).map (fun i => (i.zero, i.size, i.bytes)) = some (some (.agg #[.string ⟨#[]⟩, .slice none 0 0, .int .i64 0]), 3, 48) := by kernel_rfl
def OwnN (t : TypeId) (w : World) (A : Option Addr) (c : Nat) (ys : List FV) : Prop :=
  Own w t 3 A c ys.length (FV.flat ys) ∧ (∀ y ∈ ys, Own w 5 1 y.A y.c y.f.data.length (bcs y.f.data)) ∧ (bks A ++ fblks ys).Nodup
theorem OwnN.nil (t : TypeId) (w : World) : OwnN t w none 0 [] := ⟨Own.nil _ _ _, by simp, by simp [bks, fblks]⟩
theorem OwnN.lt {t : TypeId} {w : World} {A : Option Addr} {c : Nat} {ys : List FV} (h : OwnN t w A c ys) : ∀ k, k ∈ bks A ++ fblks ys → k < w.heap.size := by
  intro k hk
  rcases List.mem_append.1 hk with hk | hk
  · exact h.1.lt k (mem_bks.1 hk)
  · obtain ⟨y, hy, hb⟩ := mem_fblks.1 hk
    exact (h.2.1 y hy).lt k hb
theorem OwnN.keep {t : TypeId} {w w' : World} {A : Option Addr} {c : Nat} {ys : List FV} (h : OwnN t w A c ys) (hk : ∀ k, k ∈ bks A ++ fblks ys → w'.heap[k]? = w.heap[k]?) : OwnN t w' A c ys :=
  ⟨h.1.keep fun k hb => hk k (List.mem_append_left _ (mem_bks.2 hb)), fun y hy => (h.2.1 y hy).keep fun k hb => hk k (List.mem_append_right _ (mem_fblks.2 ⟨y, hy, hb⟩)), h.2.2⟩
theorem OwnN.kp {t : TypeId} {w w' : World} {S : Nat → Prop} {A : Option Addr} {c : Nat} {ys : List FV} (h : OwnN t w A c ys) (hk : Kp S w w') (hS : ∀ k, k ∈ bks A ++ fblks ys → ¬ S k) : OwnN t w' A c ys := h.keep fun k hm => hk.block k (h.lt k hm) (hS k hm)
/-- One file more. -/
theorem OwnN.push {t : TypeId} {W W3 : World} {A A3 : Option Addr} {c c3 : Nat} {ys : List FV} (h : OwnN t W A c ys) (y : FV)
    (hy : Own W3 5 1 y.A y.c y.f.data.length (bcs y.f.data)) (hrow : Own W3 t 3 A3 c3 (ys.length + 1) (FV.flat ys ++ y.cells)) (hkeep : ∀ k, k ∈ fblks ys → W3.heap[k]? = W.heap[k]?)
    (hyf : ∀ k, Bk y.A k → W.heap.size ≤ k) (hA3 : ∀ k, Bk A3 k → Bk A k ∨ (W.heap.size ≤ k ∧ ¬ Bk y.A k)) : OwnN t W3 A3 c3 (ys ++ [y]) := by
  refine ⟨by rw [FV.flat_snoc, List.length_append]; exact hrow, fun z hz => ?_, ?_⟩
  · rcases List.mem_append.1 hz with hz | hz
    · exact (h.2.1 z hz).keep fun k hb => hkeep k (mem_fblks.2 ⟨z, hz, hb⟩)
    · obtain rfl := List.mem_singleton.1 hz
      exact hy
  · have hlt := h.lt
    obtain ⟨n1, n2, n3⟩ := List.nodup_append.1 h.2.2
    rw [fblks_snoc]
    refine List.nodup_append.2 ⟨bks_nodup _, List.nodup_append.2 ⟨n2, bks_nodup _, ?_⟩, ?_⟩
    · intro a ha b hb e
      subst e
      have := hyf a (mem_bks.1 hb)
      have := hlt a (List.mem_append_right _ ha)
      omega
    · intro a ha b hb e
      subst e
      rcases hA3 a (mem_bks.1 ha) with h3 | ⟨h3, h4⟩
      · rcases List.mem_append.1 hb with hb | hb
        · exact n3 a (mem_bks.2 h3) a hb rfl
        · have := hyf a (mem_bks.1 hb)
          have := hlt a (List.mem_append_left _ (mem_bks.2 h3))
          omega
      · rcases List.mem_append.1 hb with hb | hb
        · have := hlt a (List.mem_append_right _ hb)
          omega
        · exact h4 (mem_bks.1 hb)

theorem OwnN.rd {t : TypeId} {w : World} {A : Option Addr} {c : Nat} {ys : List FV} (h : OwnN t w A c ys) : RdF w A ys := by
  refine ⟨fun hne => ?_, fun y hy => (h.2.1 y hy).rd⟩
  rcases h.1.form with ⟨_, _, h0⟩ | ⟨g, rfl⟩
  · exact absurd (List.eq_nil_of_length_eq_zero h0) hne
  · exact ⟨g, 0, rfl, fun j u hu => by rw [Nat.zero_add]; exact h.1.cell hu⟩
/-- The blocks of a book. -/
def nblks (A : Option Addr) (ys : List FV) : List Nat := bks A ++ fblks ys
theorem FV.flat_set : ∀ (ys : List FV) (i m : Nat) (y z : FV) (v : Value), ys[i]? = some y → m < 3 → z.cells = y.cells.set m v → (FV.flat ys).set (i * 3 + m) v = FV.flat (ys.set i z)
  | [], _, _, _, _, _, h, _, _ => by simp at h
  | q :: ys, i, m, y, z, v, h, hm, hz => by
    have hq : q.cells.length = 3 := rfl
    unfold FV.flat
    cases i with
    | zero =>
      simp only [List.getElem?_cons_zero, Option.some.injEq] at h
      subst h
      rw [List.flatMap_cons, List.set_cons_zero, List.flatMap_cons, hz, Nat.zero_mul, Nat.zero_add, List.set_append_left _ _ (by omega)]
    | succ i =>
      rw [List.getElem?_cons_succ] at h
      rw [List.flatMap_cons, List.set_cons_succ, List.flatMap_cons, List.set_append_right _ _ (by omega)]
      have e : (i + 1) * 3 + m - q.cells.length = i * 3 + m := by omega
      rw [e]
      exact congrArg _ (FV.flat_set ys i m y z v h hm hz)
theorem mem_set_cases {α : Type} {l : List α} {i : Nat} {z x : α} (h : x ∈ l.set i z) : x = z ∨ x ∈ l := by
  rcases List.mem_or_eq_of_mem_set h with h | h
  · exact .inr h
  · exact .inl h
theorem fblks_set_cases {ys : List FV} {i : Nat} {z : FV} {k : Nat} (h : k ∈ fblks (ys.set i z)) : k ∈ fblks ys ∨ Bk z.A k := by
  obtain ⟨x, hx, hb⟩ := mem_fblks.1 h
  rcases mem_set_cases hx with rfl | hx
  · exact .inr hb
  · exact .inl (mem_fblks.2 ⟨x, hx, hb⟩)
theorem nodup_flat_set {ys : List FV} : ∀ {i : Nat} {y z : FV}, ys[i]? = some y → (fblks ys).Nodup → (∀ k, Bk z.A k → k ∉ fblks ys ∨ Bk y.A k) → (fblks (ys.set i z)).Nodup := by
  induction ys with
  | nil => intro i y z h; simp at h
  | cons q ys ih =>
    intro i y z h hn hz
    have hc : ∀ (q : FV) (ys : List FV), fblks (q :: ys) = bks q.A ++ fblks ys := fun q ys => by simp [fblks]
    rw [hc] at hn
    obtain ⟨n1, n2, n3⟩ := List.nodup_append.1 hn
    cases i with
    | zero =>
      simp only [List.getElem?_cons_zero, Option.some.injEq] at h
      subst h
      rw [List.set_cons_zero, hc]
      refine List.nodup_append.2 ⟨bks_nodup _, n2, fun a ha b hb e => ?_⟩
      subst e
      rcases hz a (mem_bks.1 ha) with h | h
      · exact h (by rw [hc]; exact List.mem_append_right _ hb)
      · exact n3 a (mem_bks.2 h) a hb rfl
    | succ i =>
      rw [List.getElem?_cons_succ] at h
      rw [List.set_cons_succ, hc]
      refine List.nodup_append.2 ⟨n1, ih h n2 (fun k hk => (hz k hk).imp (fun h hm => h (by rw [hc]; exact List.mem_append_right _ hm)) id), fun a ha b hb e => ?_⟩
      subst e
      rcases fblks_set_cases hb with hb | hb
      · exact n3 a ha a hb rfl
      · rcases hz a hb with h' | h'
        · exact h' (by rw [hc]; exact List.mem_append_left _ ha)
        · exact n3 a ha a (mem_fblks.2 ⟨y, List.mem_of_getElem? h, h'⟩) rfl
/-- A cell of a note is set: another note in its place. -/
theorem OwnN.put {t : TypeId} {w w1 : World} {S : Nat → Prop} {g c : Nat} {ys : List FV} (h : OwnN t w (some ⟨g, 0, none⟩) c ys) {i m : Nat} {y z : FV} (hy : ys[i]? = some y) (hm : m < 3) (v : Value) (hz : z.cells = y.cells.set m v)
    (hk : Kp S w w1) (hS : ∀ k ∈ nblks (some ⟨g, 0, none⟩) ys, ¬ S k) (hzo : Own w1 5 1 z.A z.c z.f.data.length (bcs z.f.data)) (hzb : ∀ k, Bk z.A k → w.heap.size ≤ k ∨ Bk y.A k) :
    OwnN t (w1.setCell ⟨g, i * 3 + m, none⟩ v) (some ⟨g, 0, none⟩) c (ys.set i z) := by
  have h1 := h.kp hk hS
  have hyf : ∀ k, Bk y.A k → k ∈ fblks ys := fun k hb => mem_fblks.2 ⟨y, List.mem_of_getElem? hy, hb⟩
  have hg : g < w.heap.size := h.lt g (List.mem_append_left _ (mem_bks.2 (Bk.some_.2 rfl)))
  obtain ⟨_, n2, n3⟩ := List.nodup_append.1 h.2.2
  have hzg : ∀ k, Bk z.A k → k ≠ g := fun k hb e => by
    subst e
    rcases hzb k hb with h' | h'
    · omega
    · exact n3 k (mem_bks.2 (Bk.some_.2 rfl)) k (hyf k h') rfl
  refine ⟨?_, fun x hx => ?_, ?_⟩
  · have := h1.1.set (i * 3 + m) v
    rw [FV.flat_set ys i m y z v hy hm hz] at this
    rw [List.length_set]
    exact this
  · have hset : Kp (fun k => k = g) w1 (w1.setCell ⟨g, i * 3 + m, none⟩ v) := Kp.setCell _ _ _ rfl
    rcases mem_set_cases hx with rfl | hx
    · exact hzo.kp hset fun k hb e => hzg k hb e
    · refine (h1.2.1 x hx).kp hset fun k hb e => ?_
      subst e
      exact n3 k (mem_bks.2 (Bk.some_.2 rfl)) k (mem_fblks.2 ⟨x, hx, hb⟩) rfl
  · refine List.nodup_append.2 ⟨bks_nodup _, nodup_flat_set hy n2 (fun k hb => (hzb k hb).imp (fun h' hm' => by have := h.lt k (List.mem_append_right _ hm'); omega) id), fun a ha b hb e => ?_⟩
    subst e
    obtain rfl : g = a := Bk.some_.1 (mem_bks.1 ha)
    rcases fblks_set_cases hb with hb | hb
    · exact n3 g ha g hb rfl
    · exact hzg g hb rfl
theorem OwnF.toN {w : World} {A : Option Addr} {c : Nat} {ys : List FV} (h : OwnF w A c ys) : OwnN 65 w A c ys := h
theorem fblks_ne : ∀ {ys : List FV}, (fblks ys).Nodup → ∀ {i j : Nat} {x y : FV}, ys[i]? = some x → ys[j]? = some y → i ≠ j → ∀ {k : Nat}, Bk x.A k → ¬ Bk y.A k
  | [], _, _, _, _, _, hx, _, _, _, _ => by simp at hx
  | q :: ys, h, i, j, x, y, hx, hy, hij, k, hk => by
    have hc : fblks (q :: ys) = bks q.A ++ fblks ys := by simp [fblks]
    rw [hc] at h
    obtain ⟨_, n2, n3⟩ := List.nodup_append.1 h
    intro hb
    cases i with
    | zero =>
      cases j with
      | zero => exact hij rfl
      | succ j =>
        simp only [List.getElem?_cons_zero, Option.some.injEq] at hx
        subst hx
        rw [List.getElem?_cons_succ] at hy
        exact n3 k (mem_bks.2 hk) k (mem_fblks.2 ⟨y, List.mem_of_getElem? hy, hb⟩) rfl
    | succ i =>
      rw [List.getElem?_cons_succ] at hx
      cases j with
      | zero =>
        simp only [List.getElem?_cons_zero, Option.some.injEq] at hy
        subst hy
        exact n3 k (mem_bks.2 hb) k (mem_fblks.2 ⟨x, List.mem_of_getElem? hx, hk⟩) rfl
      | succ j =>
        rw [List.getElem?_cons_succ] at hy
        exact fblks_ne n2 hx hy (fun e => hij (by rw [e])) hk hb
theorem mem_set_at {α : Type} {l : List α} {i : Nat} {z x : α} (h : x ∈ l.set i z) : x = z ∨ ∃ j, j ≠ i ∧ l[j]? = some x := by
  obtain ⟨j, hj⟩ := List.mem_iff_getElem?.1 h
  rw [List.getElem?_set] at hj
  split at hj
  · split at hj
    · exact .inl (Option.some.inj hj).symm
    · cases hj
  · rename_i hne
    exact .inr ⟨j, fun e => hne e.symm, hj⟩
/-- A byte of a file, another one. -/
def FV.byte (y : FV) (k : Nat) (v : UInt8) : FV := ⟨⟨y.f.name, y.f.data.set k v, y.f.syn⟩, y.A, y.c⟩
theorem FV.byte_cells (y : FV) (k : Nat) (v : UInt8) : (y.byte k v).cells = y.cells := by simp [FV.byte, FV.cells]
theorem set_self' {α : Type} : ∀ (l : List α) (i : Nat) (z y : α) (f : α → List Value), l[i]? = some y → f z = f y → (l.set i z).flatMap f = l.flatMap f
  | [], _, _, _, _, h, _ => by simp at h
  | q :: l, i, z, y, f, h, hz => by
    cases i with
    | zero =>
      simp only [List.getElem?_cons_zero, Option.some.injEq] at h
      subst h
      rw [List.set_cons_zero, List.flatMap_cons, List.flatMap_cons, hz]
    | succ i =>
      rw [List.getElem?_cons_succ] at h
      rw [List.set_cons_succ, List.flatMap_cons, List.flatMap_cons, set_self' l i z y f h hz]
theorem fblks_set_same {y z : FV} (hz : z.A = y.A) : ∀ {l : List FV} {i : Nat}, l[i]? = some y → fblks (l.set i z) = fblks l
  | [], _, h => by simp at h
  | q :: l, i, h => by
    have hc : ∀ (q : FV) (ys : List FV), fblks (q :: ys) = bks q.A ++ fblks ys := fun q ys => by simp [fblks]
    cases i with
    | zero =>
      simp only [List.getElem?_cons_zero, Option.some.injEq] at h
      subst h
      rw [List.set_cons_zero, hc, hc, hz]
    | succ i =>
      rw [List.getElem?_cons_succ] at h
      rw [List.set_cons_succ, hc, hc, fblks_set_same hz h]
theorem bcs_set (l : List UInt8) (k : Nat) (v : UInt8) : bcs (l.set k v) = (bcs l).set k (bc v) := by simp [bcs, List.map_set]
theorem OwnN.byte {t : TypeId} {w : World} {A : Option Addr} {c : Nat} {ys : List FV} (h : OwnN t w A c ys) {i k g : Nat} {y : FV} (hy : ys[i]? = some y) (hg : y.A = some ⟨g, 0, none⟩) (v : UInt8) :
    OwnN t (w.setCell ⟨g, k, none⟩ (bc v)) A c (ys.set i (y.byte k v)) := by
  have hset : Kp (fun j => j = g) w (w.setCell ⟨g, k, none⟩ (bc v)) := Kp.setCell _ _ _ rfl
  have hgb : Bk y.A g := hg ▸ Bk.some_.2 rfl
  obtain ⟨n1, n2, n3⟩ := List.nodup_append.1 h.2.2
  have hgf : g ∈ fblks ys := mem_fblks.2 ⟨y, List.mem_of_getElem? hy, hgb⟩
  have hb : fblks (ys.set i (y.byte k v)) = fblks ys := fblks_set_same (y := y) (z := y.byte k v) rfl hy
  refine ⟨?_, fun x hx => ?_, by rw [hb]; exact h.2.2⟩
  · rw [List.length_set]
    unfold FV.flat
    rw [set_self' ys i (y.byte k v) y FV.cells hy (FV.byte_cells y k v)]
    exact h.1.kp hset fun j hj e => n3 j (mem_bks.2 hj) g hgf e
  · rcases mem_set_at hx with rfl | ⟨j, hji, hj⟩
    · have h0 := h.2.1 y (List.mem_of_getElem? hy)
      show Own _ _ _ y.A y.c (y.f.data.set k v).length (bcs (y.f.data.set k v))
      rw [bcs_set, List.length_set]
      rw [hg] at h0 ⊢
      exact h0.set k _
    · exact (h.2.1 x (List.mem_of_getElem? hj)).kp hset fun m hm e => by
        subst e
        exact fblks_ne n2 hj hy hji hm hgb
theorem OwnN.at_ {t : TypeId} {w : World} {A : Option Addr} {c : Nat} {ys : List FV} (h : OwnN t w A c ys) {i : Nat} {y : FV} (hy : ys[i]? = some y) : ∃ g, A = some ⟨g, 0, none⟩ ∧ w.cell? ⟨g, i * 3, none⟩ = some (.string (bstr y.f.name)) ∧ w.cell? ⟨g, i * 3 + 1, none⟩ = some (.slice y.A y.f.data.length y.c) ∧ w.cell? ⟨g, i * 3 + 2, none⟩ = some (.int .i64 (y.f.syn : Int)) ∧
    (∀ j, w.frozen? ⟨g, j, none⟩ = false) := by
  obtain ⟨g, rfl⟩ := h.1.some_ (by have := (List.getElem?_eq_some_iff.1 hy).1; omega)
  have f0 := FV.flat_get ys i 0 y hy (by omega)
  have f1 := FV.flat_get ys i 1 y hy (by omega)
  have f2 := FV.flat_get ys i 2 y hy (by omega)
  exact ⟨g, rfl, h.1.cell f0, h.1.cell f1, h.1.cell f2, fun j => h.1.frozen j⟩
end Go.Proofs.Ytekcoeonlfmebaa.Kit
