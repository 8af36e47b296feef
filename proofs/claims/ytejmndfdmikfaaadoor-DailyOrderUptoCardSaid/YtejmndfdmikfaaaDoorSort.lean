/- The library's sort of strings: a list of one's own, sorted. -/
import Derived.Test.YtejmndfdmikfaaaDoorOwn
import Derived.Test.YtejmndfdmikfaaaDoorStr
import Derived.Test.YtejmndfdmikfaaaDoorMap
import Derived.Test.YtejmndfdmikfaaaDoorShelf
import Derived.Sort.OwnSorted
import Derived.Laws.MakeOwn
namespace Go.Proofs.YtejmndfdmikfaaaDoor.Kit
open Go Go.RowKit

abbrev Nm := List UInt8
theorem nm_lt_trans {a b c : Nm} (h : a < b) (k : b < c) : a < c := List.lt_trans h k
theorem nm_irrefl (a : Nm) : ¬ a < a := List.lt_irrefl a
theorem Tryd.info_str : (Tryd.prog.info? 9).map (fun i => (i.zero, i.size, i.bytes)) = some (some (.string ⟨#[]⟩), 1, 16) := by kernel_rfl
def sortN (l : List Nm) : List Nm := l.mergeSort fun x y => decide (x ≤ y)
def SortPost (w : World) (A : Option Addr) (c : Nat) (ss : List Nm) (e : Ending) (w' : World) : Prop := e = .returned (.tuple #[]) ∧ Own w' 9 1 A c ss.length ((sortN ss).map sv) ∧ Kp (Bk A) w w'

theorem sort_calls (w : World) (A : Option Addr) (c n : Nat) (ss : List Nm) (h : Own w 9 1 A c n (ss.map sv)) (hn : n = ss.length) (hb : n < 4611686018427387904) :
    Calls Tryd.prog 43 #[.slice A n c] w (SortPost w A c ss) := by
  subst hn
  rcases h.2 with ⟨rfl, rfl, h0⟩ | ⟨g, cur, rfl, hg, h1, h2, h3, h4⟩
  · have hs : ss = [] := List.eq_nil_of_length_eq_zero h0
    subst hs
    refine (Tryd.slices_Sort_string_none none 0 w).mono ?_
    rintro e w' ⟨rfl, rfl⟩
    exact ⟨rfl, by simpa [sortN] using h, Kp.refl _ _⟩
  · have hH : Sort.Holds encStr w g 0 ss.toArray := holds_of_block hg (by rw [Nat.mul_one] at h4; exact h4)
    refine (Tryd.slices_Sort_string g 0 c ss w hH (Array.getElem?_eq_some_iff.1 hg).1 hb).mono ?_
    rintro e w' ⟨rfl, k, os, rfl⟩
    have hl : (sortN ss).length = ss.length := by simp [sortN]
    refine ⟨rfl, ⟨by simp [hl], .inr ⟨g, _, rfl, heap_sorted _ hg, h1, h2, by simp [Sort.putCells]; omega, ?_⟩⟩, (Kp.of_grown (grownBy_sorted _)).mono fun k _ hk => Bk.some_.2 (by cases hk; rfl)⟩
    have := take_putCells cur (sortN ss) (by rw [hl]; omega)
    rw [hl] at this
    rw [Nat.mul_one]
    exact this
theorem sortN_perm (l : List Nm) : (sortN l).Perm l := List.mergeSort_perm l _
theorem le_total' (a b : Nm) : (decide (a ≤ b) || decide (b ≤ a)) = true := by
  rcases List.le_total a b with h | h <;> simp [h]
theorem le_trans' (a b c : Nm) (h : decide (a ≤ b) = true) (k : decide (b ≤ c) = true) : decide (a ≤ c) = true := by
  simp only [decide_eq_true_eq] at *
  exact List.le_trans h k
theorem nm_le_of_lt {a b : Nm} (h : a < b) : a ≤ b := List.not_lt.1 fun k => nm_irrefl a (nm_lt_trans h k)
/-- A rising list is what any list of its members sorts to. -/
theorem sortN_rise {l m : List Nm} (hp : l.Perm m) (hm : m.Pairwise (· < ·)) : sortN l = m := by
  refine List.Perm.eq_of_pairwise (le := fun a b => a ≤ b) (fun a b _ _ h k => List.le_antisymm h k) ?_ (hm.imp nm_le_of_lt) ((sortN_perm l).trans hp)
  have := List.pairwise_mergeSort (le := fun x y : Nm => decide (x ≤ y)) le_trans' le_total' l
  exact this.imp fun h => by simpa using h
theorem Own.made (w : World) (e : TypeId) (sz : Nat) (C : Array Value) (n : Nat) (h : n * sz ≤ C.size) (hn : n ≤ maxLen) : Own (w.alloc (.cells C e)) e sz (some ⟨w.heap.size, 0, none⟩) n 0 [] :=
  ⟨by simp, .inr ⟨w.heap.size, C, rfl, heap_alloc_new w _, Nat.zero_le _, hn, h, by simp⟩⟩
theorem sortN_sorted (l : List Nm) : (sortN l).Pairwise (· ≤ ·) := by
  have := List.pairwise_mergeSort (le := fun x y : Nm => decide (x ≤ y)) le_trans' le_total' l
  exact this.imp fun h => by simpa using h
/-- Of names that are there once, the same come in the same order. -/
theorem sortN_same {l m : List Nm} (hp : l.Perm m) : sortN l = sortN m :=
  List.Perm.eq_of_pairwise (le := fun a b => a ≤ b) (fun _ _ _ _ h k => List.le_antisymm h k) (sortN_sorted l) (sortN_sorted m) (((sortN_perm l).trans hp).trans (sortN_perm m).symm)
end Go.Proofs.YtejmndfdmikfaaaDoor.Kit
