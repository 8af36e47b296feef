/- A slice of slices of bytes, all of a call's own, no two of them in one block. -/
import Derived.Test.YtekcoeonlfmebaaOwn
namespace Go.Proofs.Ytekcoeonlfmebaa.Kit
open Go Go.RowKit

/-- A slice of bytes: where it lies, its capacity, what it shows. -/
structure BSl where
  A : Option Addr
  c : Nat
  l : List UInt8
def BSl.val (x : BSl) : Value := .slice x.A x.l.length x.c
/-- The blocks of an address: one or none. -/
def bks (A : Option Addr) : List Nat := (A.map Addr.block).toList
theorem mem_bks {A : Option Addr} {k : Nat} : k ∈ bks A ↔ Bk A k := by
  cases A with
  | none => simp [bks, Bk]
  | some a => simp [bks, Bk, eq_comm]
theorem bks_nodup (A : Option Addr) : (bks A).Nodup := by cases A <;> simp [bks]
/-- All blocks of the slices in a list. -/
def blks (xs : List BSl) : List Nat := xs.flatMap fun x => bks x.A
theorem mem_blks {xs : List BSl} {k : Nat} : k ∈ blks xs ↔ ∃ x ∈ xs, Bk x.A k := by simp [blks, mem_bks]
theorem blks_snoc (xs : List BSl) (x : BSl) : blks (xs ++ [x]) = blks xs ++ bks x.A := by simp [blks]

def OwnL (w : World) (eL eB : TypeId) (A : Option Addr) (c : Nat) (xs : List BSl) : Prop :=
  Own w eL 1 A c xs.length (xs.map BSl.val) ∧ (∀ x ∈ xs, Own w eB 1 x.A x.c x.l.length (bcs x.l)) ∧ (bks A ++ blks xs).Nodup

theorem OwnL.nil (w : World) (eL eB : TypeId) : OwnL w eL eB none 0 [] := ⟨Own.nil _ _ _, by simp, by simp [bks, blks]⟩
theorem OwnL.lt {w : World} {eL eB : TypeId} {A : Option Addr} {c : Nat} {xs : List BSl} (h : OwnL w eL eB A c xs) : ∀ k, k ∈ bks A ++ blks xs → k < w.heap.size := by
  intro k hk
  rcases List.mem_append.1 hk with hk | hk
  · exact h.1.lt k (mem_bks.1 hk)
  · obtain ⟨x, hx, hb⟩ := mem_blks.1 hk
    exact (h.2.1 x hx).lt k hb
theorem OwnL.keep {w w' : World} {eL eB : TypeId} {A : Option Addr} {c : Nat} {xs : List BSl} (h : OwnL w eL eB A c xs) (hk : ∀ k, k ∈ bks A ++ blks xs → w'.heap[k]? = w.heap[k]?) : OwnL w' eL eB A c xs :=
  ⟨h.1.keep fun k hb => hk k (List.mem_append_left _ (mem_bks.2 hb)), fun x hx => (h.2.1 x hx).keep fun k hb => hk k (List.mem_append_right _ (mem_blks.2 ⟨x, hx, hb⟩)), h.2.2⟩

/-- One slice more. -/
theorem OwnL.push {W W3 : World} {eL eB : TypeId} {A A3 : Option Addr} {c c3 : Nat} {xs : List BSl} (h : OwnL W eL eB A c xs) (x : BSl)
    (hx : Own W3 eB 1 x.A x.c x.l.length (bcs x.l)) (hrow : Own W3 eL 1 A3 c3 (xs.length + 1) (xs.map BSl.val ++ [x.val])) (hkeep : ∀ k, k ∈ blks xs → W3.heap[k]? = W.heap[k]?)
    (hxf : ∀ k, Bk x.A k → W.heap.size ≤ k) (hA3 : ∀ k, Bk A3 k → Bk A k ∨ (W.heap.size ≤ k ∧ ¬ Bk x.A k)) : OwnL W3 eL eB A3 c3 (xs ++ [x]) := by
  refine ⟨by simpa using hrow, fun y hy => ?_, ?_⟩
  · rcases List.mem_append.1 hy with hy | hy
    · exact (h.2.1 y hy).keep fun k hb => hkeep k (mem_blks.2 ⟨y, hy, hb⟩)
    · obtain rfl := List.mem_singleton.1 hy
      exact hx
  · have hlt := h.lt
    obtain ⟨n1, n2, n3⟩ := List.nodup_append.1 h.2.2
    rw [blks_snoc]
    refine List.nodup_append.2 ⟨bks_nodup _, List.nodup_append.2 ⟨n2, bks_nodup _, ?_⟩, ?_⟩
    · intro a ha b hb e
      subst e
      have := hxf a (mem_bks.1 hb)
      have := hlt a (List.mem_append_right _ ha)
      omega
    · intro a ha b hb e
      subst e
      rcases hA3 a (mem_bks.1 ha) with h3 | ⟨h3, h4⟩
      · rcases List.mem_append.1 hb with hb | hb
        · exact n3 a (mem_bks.2 h3) a hb rfl
        · have := hxf a (mem_bks.1 hb)
          have := hlt a (List.mem_append_left _ (mem_bks.2 h3))
          omega
      · rcases List.mem_append.1 hb with hb | hb
        · have := hlt a (List.mem_append_right _ hb)
          omega
        · exact h4 (mem_bks.1 hb)
end Go.Proofs.Ytekcoeonlfmebaa.Kit
