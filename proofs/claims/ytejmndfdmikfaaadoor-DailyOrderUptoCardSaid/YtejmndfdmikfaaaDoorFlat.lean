/- Slices of structs, cell by cell: read, owned, appended. -/
import Derived.Test.YtejmndfdmikfaaaDoorOwn2
import Derived.Test.YtejmndfdmikfaaaDoorStr
namespace Go.Proofs.YtejmndfdmikfaaaDoor.Kit
open Go Go.RowKit

/-- The slice that begins at A shows these cells. -/
def RdC (w : World) (A : Option Addr) (cs : List Value) : Prop := cs ≠ [] → ∃ b off, A = some ⟨b, off, none⟩ ∧ ∀ (j : Nat) (u : Value), cs[j]? = some u → w.cell? ⟨b, off + j, none⟩ = some u
theorem RdC.nil (w : World) (A : Option Addr) : RdC w A [] := fun h => absurd rfl h
theorem RdC.lt {w : World} {A : Option Addr} {cs : List Value} (h : RdC w A cs) (hne : cs ≠ []) : ∀ k, Bk A k → k < w.heap.size := by
  intro k hk
  obtain ⟨b, off, rfl, hc⟩ := h hne
  obtain rfl : b = k := Bk.some_.1 hk
  cases cs with
  | nil => exact absurd rfl hne
  | cons x cs => exact World.block_lt_of_cell? w ⟨b, off + 0, none⟩ (hc 0 x rfl)
theorem RdC.kp {w w' : World} {S : Nat → Prop} {A : Option Addr} {cs : List Value} (h : RdC w A cs) (hk : Kp S w w') (hS : ∀ k, Bk A k → ¬ S k) : RdC w' A cs := by
  intro hne
  obtain ⟨b, off, rfl, hc⟩ := h hne
  exact ⟨b, off, rfl, fun j u hu => hk.cell_of (hc j u hu) (hS b (Bk.some_.2 rfl))⟩
theorem RdC.new {w w' : World} {A : Option Addr} {cs : List Value} (h : RdC w A cs) (hk : New w w') : RdC w' A cs := h.kp hk (fun _ _ => id)
theorem RdC.old {w w' : World} {S : Nat → Prop} {A : Option Addr} {cs : List Value} (h : RdC w A cs) (hk : Kp S w w') (hS : ∀ k, k < w.heap.size → ¬ S k) : RdC w' A cs := by
  intro hne
  obtain ⟨b, off, rfl, hc⟩ := h hne
  exact ⟨b, off, rfl, fun j u hu => hk.cell_of (hc j u hu) (hS b (World.block_lt_of_cell? w ⟨b, off + j, none⟩ (hc j u hu)))⟩
theorem Own.rdc {w : World} {e : TypeId} {sz n c : Nat} {A : Option Addr} {xs : List Value} (h : Own w e sz A c n xs) : RdC w A xs := by
  intro hne
  rcases h.form with ⟨rfl, _, h0⟩ | ⟨g, rfl⟩
  · have := h.1
    rw [h0, Nat.zero_mul] at this
    exact absurd (List.eq_nil_of_length_eq_zero this) hne
  · exact ⟨g, 0, rfl, fun j u hu => by rw [Nat.zero_add]; exact h.cell hu⟩
theorem Src.ofRdC {P : Program} {w : World} {tx e' : TypeId} (hk : P.underlying tx = some (.slice e')) {A : Option Addr} {cs : List Value} (sz n c : Nat) (h : RdC w A cs) (hn : cs.length = n * sz) (hsz : 0 < sz) (h1 : ∀ u ∈ cs, u.oneCell' = true) : Src P sz tx (.slice A n c) n cs w := by
  cases A with
  | none =>
    have : cs = [] := Classical.byContradiction fun hl => by obtain ⟨_, _, e, _⟩ := h hl; cases e
    subst this
    have : n = 0 := by
      have h2 : n * sz = 0 := by rw [← hn]; rfl
      rcases Nat.mul_eq_zero.1 h2 with h | h
      · exact h
      · omega
    subst this
    exact Src.ofNil w hk c
  | some a =>
    refine Src.ofSlice w hk a n c cs hn (fun j u hu => ?_) h1
    obtain ⟨b, off, e, hc⟩ := h (by rintro rfl; simp at hu)
    cases e
    rw [Addr.add_lit]
    exact hc j u hu

section
variable {α : Type} {f : α → List Value} {k : Nat}
theorem flat_length (hf : ∀ x, (f x).length = k) (xs : List α) : (xs.flatMap f).length = xs.length * k := by
  induction xs with
  | nil => simp
  | cons x xs ih => rw [List.flatMap_cons, List.length_append, ih, hf, List.length_cons, Nat.add_mul]; omega
theorem flat_get (hf : ∀ x, (f x).length = k) : ∀ (xs : List α) (i j : Nat) (x : α), xs[i]? = some x → j < k → (xs.flatMap f)[i * k + j]? = (f x)[j]?
  | [], i, j, x, h, _ => by simp at h
  | q :: xs, i, j, x, h, hj => by
    rw [List.flatMap_cons]
    cases i with
    | zero =>
      simp only [List.getElem?_cons_zero, Option.some.injEq] at h
      subst h
      rw [Nat.zero_mul, Nat.zero_add, List.getElem?_append_left (by rw [hf]; exact hj)]
    | succ i =>
      rw [List.getElem?_cons_succ] at h
      rw [List.getElem?_append_right (by rw [hf, Nat.add_mul]; omega), ← flat_get hf xs i j x h hj, hf]
      congr 1
      rw [Nat.add_mul]
      omega
theorem RdC.elem (hf : ∀ x, (f x).length = k) {w : World} {A : Option Addr} {xs : List α} (h : RdC w A (xs.flatMap f)) (hk : 0 < k) {i : Nat} {x : α} (hx : xs[i]? = some x) :
    ∃ b off, A = some ⟨b, off, none⟩ ∧ ∀ (j : Nat) (u : Value), (f x)[j]? = some u → w.cell? ⟨b, off + i * k + j, none⟩ = some u := by
  have hlen := flat_length hf xs
  have hi : i < xs.length := (List.getElem?_eq_some_iff.1 hx).1
  have hne : xs.flatMap f ≠ [] := by
    intro e
    rw [e] at hlen
    have : 1 * k ≤ xs.length * k := Nat.mul_le_mul_right _ (by omega)
    simp at hlen
    omega
  obtain ⟨b, off, rfl, hc⟩ := h hne
  refine ⟨b, off, rfl, fun j u hu => ?_⟩
  have hj : j < k := by have := (List.getElem?_eq_some_iff.1 hu).1; rw [hf] at this; exact this
  rw [Nat.add_assoc]
  exact hc (i * k + j) u ((flat_get hf xs i j x hx hj).trans hu)
end

/-! ### Postings -/
structure Pst where
  s : Int
  ln : Int
  day : Int
  kind : Int
  key : List UInt8
  acct : List UInt8
  amt : Int
  tag : List UInt8
  memo : List UInt8
def Pst.cells (p : Pst) : List Value := [.int .i64 p.s, .int .i64 p.ln, .int .i64 p.day, .int .i64 p.kind, .string (bstr p.key), .string (bstr p.acct), .int .i64 p.amt, .string (bstr p.tag), .string (bstr p.memo)]
theorem Pst.len (p : Pst) : p.cells.length = 9 := rfl
theorem Pst.one (ps : List Pst) : ∀ u ∈ ps.flatMap Pst.cells, u.oneCell' = true := by
  intro u hu
  obtain ⟨p, _, hp⟩ := List.mem_flatMap.1 hu
  simp only [Pst.cells, List.mem_cons, List.not_mem_nil, or_false] at hp
  rcases hp with h | h | h | h | h | h | h | h | h <;> subst h <;> rfl
abbrev Pst.row (p : Pst) : List UInt8 × Int := (p.acct, p.amt)
/-- It can stand in memory. -/
def Pst.Ok (p : Pst) : Prop := p.acct.length < 4611686018427387904 ∧ -9223372036854775808 ≤ p.amt ∧ p.amt ≤ 9223372036854775807
/-- A posting's cells at a place. -/
structure PstAt (w : World) (b off : Nat) (p : Pst) : Prop where
  c0 : w.cell? ⟨b, off, none⟩ = some (.int .i64 p.s)
  c1 : w.cell? ⟨b, off + 1, none⟩ = some (.int .i64 p.ln)
  c2 : w.cell? ⟨b, off + 2, none⟩ = some (.int .i64 p.day)
  c3 : w.cell? ⟨b, off + 3, none⟩ = some (.int .i64 p.kind)
  c4 : w.cell? ⟨b, off + 4, none⟩ = some (.string (bstr p.key))
  c5 : w.cell? ⟨b, off + 5, none⟩ = some (.string (bstr p.acct))
  c6 : w.cell? ⟨b, off + 6, none⟩ = some (.int .i64 p.amt)
  c7 : w.cell? ⟨b, off + 7, none⟩ = some (.string (bstr p.tag))
  c8 : w.cell? ⟨b, off + 8, none⟩ = some (.string (bstr p.memo))
/-- A slice of postings. -/
abbrev RdP (w : World) (A : Option Addr) (ps : List Pst) : Prop := RdC w A (ps.flatMap Pst.cells)
theorem RdP.at_ {w : World} {A : Option Addr} {ps : List Pst} (h : RdP w A ps) {i : Nat} {p : Pst} (hp : ps[i]? = some p) : ∃ b off, A = some ⟨b, off, none⟩ ∧ PstAt w b (off + i * 9) p := by
  obtain ⟨b, off, rfl, hc⟩ := RdC.elem Pst.len h (by decide) hp
  exact ⟨b, off, rfl, hc 0 _ rfl, hc 1 _ rfl, hc 2 _ rfl, hc 3 _ rfl, hc 4 _ rfl, hc 5 _ rfl, hc 6 _ rfl, hc 7 _ rfl, hc 8 _ rfl⟩

/-! ### Balances and columns: a name and two amounts -/
structure Bal where
  acct : List UInt8
  own : Int
  all : Int
def Bal.cells (p : Bal) : List Value := [.string (bstr p.acct), .int .i64 p.own, .int .i64 p.all]
theorem Bal.len (p : Bal) : p.cells.length = 3 := rfl
theorem Bal.one (ps : List Bal) : ∀ u ∈ ps.flatMap Bal.cells, u.oneCell' = true := by
  intro u hu
  obtain ⟨p, _, hp⟩ := List.mem_flatMap.1 hu
  simp only [Bal.cells, List.mem_cons, List.not_mem_nil, or_false] at hp
  rcases hp with h | h | h <;> subst h <;> rfl
structure BalAt (w : World) (b off : Nat) (p : Bal) : Prop where
  c0 : w.cell? ⟨b, off, none⟩ = some (.string (bstr p.acct))
  c1 : w.cell? ⟨b, off + 1, none⟩ = some (.int .i64 p.own)
  c2 : w.cell? ⟨b, off + 2, none⟩ = some (.int .i64 p.all)
abbrev RdBal (w : World) (A : Option Addr) (ps : List Bal) : Prop := RdC w A (ps.flatMap Bal.cells)
theorem RdBal.at_ {w : World} {A : Option Addr} {ps : List Bal} (h : RdBal w A ps) {i : Nat} {p : Bal} (hp : ps[i]? = some p) : ∃ b off, A = some ⟨b, off, none⟩ ∧ BalAt w b (off + i * 3) p := by
  obtain ⟨b, off, rfl, hc⟩ := RdC.elem Bal.len h (by decide) hp
  exact ⟨b, off, rfl, hc 0 _ rfl, hc 1 _ rfl, hc 2 _ rfl⟩
end Go.Proofs.YtejmndfdmikfaaaDoor.Kit
