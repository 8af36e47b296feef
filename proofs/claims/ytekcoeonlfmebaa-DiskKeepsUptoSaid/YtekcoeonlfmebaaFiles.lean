/- A slice of files, all of a call's own: names, bytes, how many are synced. -/
import Derived.Test.YtekcoeonlfmebaaLists
import Derived.Test.YtekcoeonlfmebaaDiskM
import Derived.Test.YtekcoeonlfmebaaStr
import Derived.Test.YtekcoeonlfmebaaNew
namespace Go.Proofs.Ytekcoeonlfmebaa.Kit
open Go Go.RowKit

/-- A file that was told. -/
structure FV where
  f : Fl
  A : Option Addr
  c : Nat
def FV.cells (y : FV) : List Value := [.string (bstr y.f.name), .slice y.A y.f.data.length y.c, .int .i64 (y.f.syn : Int)]
def FV.flat (ys : List FV) : List Value := ys.flatMap FV.cells
def fblks (ys : List FV) : List Nat := ys.flatMap fun y => bks y.A
theorem FV.flat_length (ys : List FV) : (FV.flat ys).length = ys.length * 3 := by
  induction ys with
  | nil => rfl
  | cons y ys ih => simp only [FV.flat, List.flatMap_cons, List.length_append, List.length_cons] at *; rw [ih]; simp [FV.cells]; omega
theorem FV.flat_snoc (ys : List FV) (y : FV) : FV.flat (ys ++ [y]) = FV.flat ys ++ y.cells := by simp [FV.flat]
theorem FV.flat_get (ys : List FV) : ∀ (i j : Nat) (y : FV), ys[i]? = some y → j < 3 → (FV.flat ys)[i * 3 + j]? = y.cells[j]? := by
  induction ys with
  | nil => intro i j y h; simp at h
  | cons q ys ih =>
    intro i j y h hj
    unfold FV.flat at *
    rw [List.flatMap_cons]
    cases i with
    | zero =>
      simp only [List.getElem?_cons_zero, Option.some.injEq] at h
      subst h
      rw [Nat.zero_mul, Nat.zero_add, List.getElem?_append_left (by simpa [FV.cells] using hj)]
    | succ i =>
      rw [List.getElem?_cons_succ] at h
      rw [List.getElem?_append_right (by simp [FV.cells]; omega), ← ih i j y h hj]
      congr 1
      simp [FV.cells]
      omega
theorem mem_fblks {ys : List FV} {k : Nat} : k ∈ fblks ys ↔ ∃ y ∈ ys, Bk y.A k := by simp [fblks, mem_bks]
theorem fblks_snoc (ys : List FV) (y : FV) : fblks (ys ++ [y]) = fblks ys ++ bks y.A := by simp [fblks]
theorem Try.info_file : (Try.prog.info? 65).map (fun i => (i.zero, i.size, i.bytes)) = some (some (.agg #[.string ⟨#[]⟩, .slice none 0 0, .int .i64 0]), 3, 48) := by kernel_rfl

def OwnF (w : World) (A : Option Addr) (c : Nat) (ys : List FV) : Prop :=
  Own w 65 3 A c ys.length (FV.flat ys) ∧ (∀ y ∈ ys, Own w 5 1 y.A y.c y.f.data.length (bcs y.f.data)) ∧ (bks A ++ fblks ys).Nodup
theorem OwnF.nil (w : World) : OwnF w none 0 [] := ⟨Own.nil _ _ _, by simp, by simp [bks, fblks]⟩
theorem OwnF.lt {w : World} {A : Option Addr} {c : Nat} {ys : List FV} (h : OwnF w A c ys) : ∀ k, k ∈ bks A ++ fblks ys → k < w.heap.size := by
  intro k hk
  rcases List.mem_append.1 hk with hk | hk
  · exact h.1.lt k (mem_bks.1 hk)
  · obtain ⟨y, hy, hb⟩ := mem_fblks.1 hk
    exact (h.2.1 y hy).lt k hb
theorem OwnF.keep {w w' : World} {A : Option Addr} {c : Nat} {ys : List FV} (h : OwnF w A c ys) (hk : ∀ k, k ∈ bks A ++ fblks ys → w'.heap[k]? = w.heap[k]?) : OwnF w' A c ys :=
  ⟨h.1.keep fun k hb => hk k (List.mem_append_left _ (mem_bks.2 hb)), fun y hy => (h.2.1 y hy).keep fun k hb => hk k (List.mem_append_right _ (mem_fblks.2 ⟨y, hy, hb⟩)), h.2.2⟩
theorem OwnF.kp {w w' : World} {S : Nat → Prop} {A : Option Addr} {c : Nat} {ys : List FV} (h : OwnF w A c ys) (hk : Kp S w w') (hS : ∀ k, k ∈ bks A ++ fblks ys → ¬ S k) : OwnF w' A c ys := h.keep fun k hm => hk.block k (h.lt k hm) (hS k hm)
/-- One file more. -/
theorem OwnF.push {W W3 : World} {A A3 : Option Addr} {c c3 : Nat} {ys : List FV} (h : OwnF W A c ys) (y : FV)
    (hy : Own W3 5 1 y.A y.c y.f.data.length (bcs y.f.data)) (hrow : Own W3 65 3 A3 c3 (ys.length + 1) (FV.flat ys ++ y.cells)) (hkeep : ∀ k, k ∈ fblks ys → W3.heap[k]? = W.heap[k]?)
    (hyf : ∀ k, Bk y.A k → W.heap.size ≤ k) (hA3 : ∀ k, Bk A3 k → Bk A k ∨ (W.heap.size ≤ k ∧ ¬ Bk y.A k)) : OwnF W3 A3 c3 (ys ++ [y]) := by
  refine ⟨by rw [FV.flat_snoc, List.length_append]; exact hrow, fun z hz => ?_, ?_⟩
  · rcases List.mem_append.1 hz with hz | hz
    · exact (h.2.1 z hz).keep fun k hb => hkeep k (mem_fblks.2 ⟨z, hz, hb⟩)
    · obtain rfl := List.mem_singleton.1 hz
      exact hy
  · have hlt := h.lt
    obtain ⟨n1, n2, n3⟩ := List.nodup_append.1 h.2.2
    rw [fblks_snoc]
    refine List.nodup_append.2 ⟨bks_nodup _, List.nodup_append.2 ⟨n2, bks_nodup _, ?_⟩, ?_⟩
    · intro a ha b hb e
      subst e
      have := hyf a (mem_bks.1 hb)
      have := hlt a (List.mem_append_right _ ha)
      omega
    · intro a ha b hb e
      subst e
      rcases hA3 a (mem_bks.1 ha) with h3 | ⟨h3, h4⟩
      · rcases List.mem_append.1 hb with hb | hb
        · exact n3 a (mem_bks.2 h3) a hb rfl
        · have := hyf a (mem_bks.1 hb)
          have := hlt a (List.mem_append_left _ (mem_bks.2 h3))
          omega
      · rcases List.mem_append.1 hb with hb | hb
        · have := hlt a (List.mem_append_right _ hb)
          omega
        · exact h4 (mem_bks.1 hb)

/-- A slice of files that is only read. -/
def RdF (w : World) (A : Option Addr) (ys : List FV) : Prop :=
  (ys ≠ [] → ∃ b off, A = some ⟨b, off, none⟩ ∧ ∀ (j : Nat) (u : Value), (FV.flat ys)[j]? = some u → w.cell? ⟨b, off + j, none⟩ = some u) ∧ ∀ y ∈ ys, RdB w y.A y.f.data
theorem OwnF.rd {w : World} {A : Option Addr} {c : Nat} {ys : List FV} (h : OwnF w A c ys) : RdF w A ys := by
  refine ⟨fun hne => ?_, fun y hy => (h.2.1 y hy).rd⟩
  rcases h.1.form with ⟨_, _, h0⟩ | ⟨g, rfl⟩
  · exact absurd (List.eq_nil_of_length_eq_zero h0) hne
  · exact ⟨g, 0, rfl, fun j u hu => by rw [Nat.zero_add]; exact h.1.cell hu⟩
/-- All blocks of what is read. -/
def RdF.In (A : Option Addr) (ys : List FV) (k : Nat) : Prop := Bk A k ∨ ∃ y ∈ ys, Bk y.A k
theorem RdF.kp {w w' : World} {S : Nat → Prop} {A : Option Addr} {ys : List FV} (h : RdF w A ys) (hk : Kp S w w') (hS : ∀ k, RdF.In A ys k → ¬ S k) : RdF w' A ys := by
  refine ⟨fun hne => ?_, fun y hy => (h.2 y hy).kp hk fun k hb => hS k (.inr ⟨y, hy, hb⟩)⟩
  obtain ⟨b, off, rfl, hc⟩ := h.1 hne
  exact ⟨b, off, rfl, fun j u hu => hk.cell_of (hc j u hu) (hS b (.inl (Bk.some_.2 rfl)))⟩
theorem RdF.new {w w' : World} {A : Option Addr} {ys : List FV} (h : RdF w A ys) (hk : New w w') : RdF w' A ys := h.kp hk fun _ _ => id
theorem RdF.at_ {w : World} {A : Option Addr} {ys : List FV} (h : RdF w A ys) {i : Nat} (hi : i < ys.length) : ∃ b off, A = some ⟨b, off, none⟩ ∧ w.cell? ⟨b, off + i * 3, none⟩ = some (.string (bstr ys[i].f.name)) ∧
    w.cell? ⟨b, off + i * 3 + 1, none⟩ = some (.slice ys[i].A ys[i].f.data.length ys[i].c) ∧ w.cell? ⟨b, off + i * 3 + 2, none⟩ = some (.int .i64 (ys[i].f.syn : Int)) := by
  obtain ⟨b, off, rfl, hc⟩ := h.1 (by intro e; subst e; simp at hi)
  have hy : ys[i]? = some ys[i] := List.getElem?_eq_getElem hi
  refine ⟨b, off, rfl, ?_, ?_, ?_⟩
  · exact hc (i * 3) _ (by have := FV.flat_get ys i 0 _ hy (by omega); simpa [FV.cells] using this)
  · rw [Nat.add_assoc]
    exact hc (i * 3 + 1) _ (by have := FV.flat_get ys i 1 _ hy (by omega); simpa [FV.cells] using this)
  · rw [Nat.add_assoc]
    exact hc (i * 3 + 2) _ (by have := FV.flat_get ys i 2 _ hy (by omega); simpa [FV.cells] using this)
end Go.Proofs.Ytekcoeonlfmebaa.Kit
