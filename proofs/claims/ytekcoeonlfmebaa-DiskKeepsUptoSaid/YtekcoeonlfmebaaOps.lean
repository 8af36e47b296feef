/- A script of acts that came in. -/
import Derived.Test.YtekcoeonlfmebaaAct
namespace Go.Proofs.Ytekcoeonlfmebaa.Kit
open Go Go.RowKit

def OpV.cells (o : OpV) : List Value := [.int .i64 o.disk, .int .i64 o.kind, .string (bstr o.name), .string (bstr o.to), .slice o.bA o.body.length o.bc, .int .i64 o.at_, .int .i64 o.n, .slice o.kA o.keep.length o.kc, .int .i64 o.cap, .slice o.fA o.fn o.fc, .int .i64 o.fuse, .bool o.down]
theorem OpV.flat_get (ys : List OpV) : ∀ (i j : Nat) (y : OpV), ys[i]? = some y → j < 12 → (ys.flatMap OpV.cells)[i * 12 + j]? = y.cells[j]? := by
  induction ys with
  | nil => intro i j y h; simp at h
  | cons q ys ih =>
    intro i j y h hj
    rw [List.flatMap_cons]
    cases i with
    | zero =>
      simp only [List.getElem?_cons_zero, Option.some.injEq] at h
      subst h
      rw [Nat.zero_mul, Nat.zero_add, List.getElem?_append_left (by simpa [OpV.cells] using hj)]
    | succ i =>
      rw [List.getElem?_cons_succ] at h
      rw [List.getElem?_append_right (by simp [OpV.cells]; omega), ← ih i j y h hj]
      congr 1
      simp [OpV.cells]
      omega
/-- A slice of acts that came in. -/
def RdO (w : World) (A : Option Addr) (ys : List OpV) : Prop :=
  (ys ≠ [] → ∃ b off, A = some ⟨b, off, none⟩ ∧ ∀ (j : Nat) (u : Value), (ys.flatMap OpV.cells)[j]? = some u → w.cell? ⟨b, off + j, none⟩ = some u) ∧ ∀ y ∈ ys, y.Ok w
theorem RdO.new {w w' : World} {A : Option Addr} {ys : List OpV} (h : RdO w A ys) (hk : New w w') : RdO w' A ys := by
  refine ⟨fun hne => ?_, fun y hy => (h.2 y hy).new hk⟩
  obtain ⟨b, off, rfl, hc⟩ := h.1 hne
  exact ⟨b, off, rfl, fun j u hu => New.cell hk (hc j u hu)⟩
/-- The act at a place. -/
def OpAt (w : World) (b off : Nat) (y : OpV) : Prop :=
  w.cell? ⟨b, off, none⟩ = some (.int .i64 y.disk) ∧ w.cell? ⟨b, off + 1, none⟩ = some (.int .i64 y.kind) ∧ w.cell? ⟨b, off + 2, none⟩ = some (.string (bstr y.name)) ∧ w.cell? ⟨b, off + 3, none⟩ = some (.string (bstr y.to)) ∧
  w.cell? ⟨b, off + 4, none⟩ = some (.slice y.bA y.body.length y.bc) ∧ w.cell? ⟨b, off + 5, none⟩ = some (.int .i64 y.at_) ∧ w.cell? ⟨b, off + 6, none⟩ = some (.int .i64 y.n) ∧ w.cell? ⟨b, off + 7, none⟩ = some (.slice y.kA y.keep.length y.kc) ∧
  w.cell? ⟨b, off + 8, none⟩ = some (.int .i64 y.cap) ∧ w.cell? ⟨b, off + 9, none⟩ = some (.slice y.fA y.fn y.fc) ∧ w.cell? ⟨b, off + 10, none⟩ = some (.int .i64 y.fuse) ∧ w.cell? ⟨b, off + 11, none⟩ = some (.bool y.down)
theorem RdO.at_ {w : World} {A : Option Addr} {ys : List OpV} (h : RdO w A ys) {i : Nat} {y : OpV} (hy : ys[i]? = some y) : ∃ b off, A = some ⟨b, off, none⟩ ∧ OpAt w b (off + i * 12) y := by
  obtain ⟨b, off, rfl, hc⟩ := h.1 (by intro e; subst e; simp at hy)
  have g : ∀ (j : Nat) (u : Value), j < 12 → y.cells[j]? = some u → w.cell? ⟨b, off + i * 12 + j, none⟩ = some u := fun j u hj hu => by
    rw [Nat.add_assoc]
    exact hc (i * 12 + j) u ((OpV.flat_get ys i j y hy hj).trans hu)
  exact ⟨b, off, rfl, g 0 _ (by decide) rfl, g 1 _ (by decide) rfl, g 2 _ (by decide) rfl, g 3 _ (by decide) rfl, g 4 _ (by decide) rfl, g 5 _ (by decide) rfl, g 6 _ (by decide) rfl, g 7 _ (by decide) rfl, g 8 _ (by decide) rfl, g 9 _ (by decide) rfl, g 10 _ (by decide) rfl, g 11 _ (by decide) rfl⟩
end Go.Proofs.Ytekcoeonlfmebaa.Kit
