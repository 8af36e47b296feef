/- Names of accounts: cut at the colons; which are good. No program in sight. -/
import Derived.Test.YtejmndfdmikfaaaDoorSumsM
import Derived.Lib.Split
namespace Go.Proofs.YtejmndfdmikfaaaDoor.Kit

theorem index_colon {p r : List UInt8} (hp : 58 ∉ p) : Lib.index (p ++ 58 :: r) [58] = p.length := by
  induction p with
  | nil => rfl
  | cons x p ih =>
    have hx : x ≠ 58 := fun e => hp (by rw [e]; simp)
    have h1 := ih (fun h => hp (List.mem_cons_of_mem _ h))
    rw [List.cons_append, Lib.index, if_neg (by simpa using fun e => hx e.symm), h1, if_neg (by simp)]
    simp
theorem index_nocolon {s : List UInt8} (hs : 58 ∉ s) : Lib.index s [58] = -1 := by
  induction s with
  | nil => rfl
  | cons x p ih =>
    have hx : x ≠ 58 := fun e => hs (by rw [e]; simp)
    have h1 := ih (fun h => hs (List.mem_cons_of_mem _ h))
    rw [Lib.index, if_neg (by simpa using fun e => hx e.symm), h1]
    rfl
/-- The parts of a name. -/
def partsOf (s : List UInt8) : List (List UInt8) := Lib.split s [58]
theorem partsOf_one {s : List UInt8} (hs : 58 ∉ s) : partsOf s = [s] := by
  unfold partsOf Lib.split
  rw [Lib.count_miss (index_nocolon hs)]
  rfl
theorem partsOf_cons {p r : List UInt8} (hp : 58 ∉ p) : partsOf (p ++ 58 :: r) = p :: partsOf r := by
  unfold partsOf Lib.split
  rw [Lib.count_hit (by simp) (index_colon hp), Nat.add_comm 1]
  rw [Lib.splitK, if_neg (by rw [index_colon hp]; simp), index_colon hp]
  have h1 : (p ++ 58 :: r).take ((p.length : Int).toNat + 0) = p := by simp
  have h2 : (p ++ 58 :: r).drop ((p.length : Int).toNat + ([58] : List UInt8).length) = r := by
    simp only [Int.toNat_natCast, List.length_cons, List.length_nil, Nat.zero_add]
    exact drop_sep p r
  have h3 : (p ++ 58 :: r).drop (p.length + ([58] : List UInt8).length) = r := h2
  rw [h1, h2, h3]
/-- Cut at its last colon. -/
theorem partsOf_last {q : List UInt8} (hq : 58 ∉ q) : ∀ (n : Nat) (p : List UInt8), p.length ≤ n → partsOf (p ++ 58 :: q) = partsOf p ++ [q]
  | n, p, hn => by
    rcases part1_or p with h | ⟨s, h⟩
    · have hp : 58 ∉ p := h ▸ part1_no p
      rw [partsOf_cons hp, partsOf_one hq, partsOf_one hp]
      rfl
    · have hl : p.length = (part1 p).length + (s.length + 1) := by
        have := congrArg List.length h
        simpa using this
      cases n with
      | zero => omega
      | succ n =>
        rw [h, List.append_assoc, List.cons_append, partsOf_cons (part1_no p), partsOf_cons (part1_no p), partsOf_last hq n s (by omega)]
        rfl
/-- Can it be a part of a name? -/
def partByte (c : UInt8) : Bool := decide (65 ≤ c ∧ c ≤ 90) || decide (97 ≤ c ∧ c ≤ 122) || decide (48 ≤ c ∧ c ≤ 57) || c == 45
def partOk (p : List UInt8) : Bool := decide (1 ≤ p.length ∧ p.length ≤ 16) && (match p with | c :: _ => decide (65 ≤ c ∧ c ≤ 90) | [] => false) && p.all partByte
/-- Is it the name of an account? -/
def goodA (s : List UInt8) : Bool := decide (s.length ≤ 102) && decide ((partsOf s).length ≤ 6) && (partsOf s).all partOk
theorem goodA_above {s p : List UInt8} (hs : goodA s = true) (h : above s = some p) : goodA p = true := by
  obtain ⟨q, rfl, hq⟩ := above_some.1 h
  unfold goodA at *
  rw [partsOf_last hq p.length p (Nat.le_refl _)] at hs
  simp only [Bool.and_eq_true, decide_eq_true_eq, List.length_append, List.length_cons, List.length_nil, List.all_append] at *
  exact ⟨⟨by omega, by omega⟩, hs.2.1⟩
theorem goodA_ne {s : List UInt8} (hs : goodA s = true) : s ≠ [] := by
  rintro rfl
  revert hs
  decide
end Go.Proofs.YtejmndfdmikfaaaDoor.Kit
