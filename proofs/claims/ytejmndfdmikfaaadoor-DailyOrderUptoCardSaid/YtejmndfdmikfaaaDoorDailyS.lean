/- Daily's plain law: what At, Between and State tell; rows in memory. -/
import Derived.Test.YtejmndfdmikfaaaDoorDailyN
import Derived.Test.YtejmndfdmikfaaaDoorFlat
import Derived.Test.YtejmndfdmikfaaaDoorSort
namespace Go.Proofs.YtejmndfdmikfaaaDoor.Kit
open Go Go.RowKit

/-! ### How many days lie up to one -/
def upto {α : Type} (g : List (Int × α)) (d : Int) : Nat := g.countP fun x => decide (x.1 ≤ d)
theorem upto_place {α : Type} (g : List (Int × α)) (d : Int) : upto g d = place g (d + 1) := by
  unfold upto place
  refine List.countP_congr fun x _ => ?_
  simp only [decide_eq_true_eq]
  omega
theorem upto_take {α : Type} {g : List (Int × α)} (h : RiseD g) (d : Int) : (∀ x ∈ g.take (upto g d), x.1 ≤ d) ∧ (∀ x ∈ g.drop (upto g d), d < x.1) := by
  rw [upto_place]
  obtain ⟨h1, h2⟩ := place_take h (d + 1)
  exact ⟨fun x hx => by have := h1 x hx; omega, fun x hx => by have := h2 x hx; omega⟩
theorem upto_le {α : Type} (g : List (Int × α)) (d : Int) : upto g d ≤ g.length := List.countP_le_length
theorem bal_take {es : List (Int × Int)} (h : RiseD es) (d : Int) : bal es d = ((es.take (upto es d)).map (·.2)).sum := by
  obtain ⟨h1, h2⟩ := upto_take h d
  have e : bal es d = bal (es.take (upto es d)) d + bal (es.drop (upto es d)) d := by rw [← bal_app, List.take_append_drop]
  rw [e, bal_none (l := es.drop (upto es d)) fun r hr k => by have := h2 r hr; omega]
  unfold bal
  rw [List.filter_eq_self.2 fun r hr => by simpa using h1 r hr]
  omega
theorem upto_days (l : List (Int × Int)) (d : Int) : upto (days l) d = upto (canon l) d := by
  rw [days_eq]
  unfold upto
  rw [List.countP_map]
  rfl
/-- What At reads. -/
theorem at_none {l : List (Int × Int)} {d : Int} (h : upto (days l) d = 0) : bal l d = 0 := by
  rw [← bal_canon, bal_take (canon_rise l), ← upto_days, h]
  rfl
theorem at_some {l : List (Int × Int)} {d : Int} {i : Nat} (h : upto (days l) d = i + 1) {x : Int × Int × Int} (hx : (days l)[i]? = some x) : bal l d = x.2.2 := by
  have hc := days_get l i hx
  have h3 := (days_mem (List.mem_of_getElem? hx)).2.2
  rw [h3, ← bal_canon l d, bal_take (canon_rise l), ← upto_days, h, ← bal_canon l x.1]
  exact (bal_rise (canon_rise l) hc).symm
/-- The days from one to another. -/
def betw (l : List (Int × Int)) (a b : Int) : List (Int × Int × Int) := (days l).filter fun x => decide (a ≤ x.1) && decide (x.1 ≤ b)
theorem betw_nil {l : List (Int × Int)} {a b : Int} (h : upto (days l) b ≤ place (days l) a) : betw l a b = [] := by
  unfold betw
  refine List.filter_eq_nil_iff.2 fun x hx hp => ?_
  simp only [Bool.and_eq_true, decide_eq_true_eq] at hp
  obtain ⟨h1, h2⟩ := place_take (days_rise l) a
  obtain ⟨h3, h4⟩ := upto_take (days_rise l) b
  obtain ⟨k, hk⟩ := List.getElem?_of_mem hx
  by_cases hka : k < place (days l) a
  · have := h1 x (List.mem_of_getElem? (i := k) (by rw [List.getElem?_take, if_pos hka]; exact hk))
    omega
  · have := h4 x (List.mem_of_getElem? (i := k - upto (days l) b) (by rw [List.getElem?_drop, show upto (days l) b + (k - upto (days l) b) = k by omega]; exact hk))
    omega
theorem betw_mid {l : List (Int × Int)} {a b : Int} (h : place (days l) a ≤ upto (days l) b) : betw l a b = ((days l).drop (place (days l) a)).take (upto (days l) b - place (days l) a) := by
  obtain ⟨h1, h2⟩ := place_take (days_rise l) a
  obtain ⟨h3, h4⟩ := upto_take (days_rise l) b
  unfold betw
  have e : days l = (days l).take (place (days l) a) ++ (((days l).drop (place (days l) a)).take (upto (days l) b - place (days l) a) ++ (days l).drop (upto (days l) b)) := by
    conv => lhs; rw [← List.take_append_drop (place (days l) a) (days l)]
    congr 1
    conv => lhs; rw [← List.take_append_drop (upto (days l) b - place (days l) a) ((days l).drop (place (days l) a))]
    rw [List.drop_drop, show place (days l) a + (upto (days l) b - place (days l) a) = upto (days l) b by omega]
  conv => lhs; rw [e]
  rw [List.filter_append, List.filter_append, List.filter_eq_nil_iff.2, List.filter_eq_self.2, List.filter_eq_nil_iff.2, List.nil_append, List.append_nil]
  · intro x hx hp
    simp only [Bool.and_eq_true, decide_eq_true_eq] at hp
    have := h4 x hx
    omega
  · intro x hx
    have e1 := h2 x (List.mem_of_mem_take hx)
    have e2 : x ∈ (days l).take (upto (days l) b) := by
      rw [← List.drop_take] at hx
      exact List.mem_of_mem_drop hx
    have := h3 x e2
    simp only [Bool.and_eq_true, decide_eq_true_eq]
    omega
  · intro x hx hp
    simp only [Bool.and_eq_true, decide_eq_true_eq] at hp
    have := h1 x hx
    omega

/-! ### Rows of days -/
structure Dr where
  acct : List UInt8
  day : Int
  chg : Int
  bal : Int
deriving DecidableEq
def Dr.cells (p : Dr) : List Value := [.string (bstr p.acct), .int .i64 p.day, .int .i64 p.chg, .int .i64 p.bal]
theorem Dr.len (p : Dr) : p.cells.length = 4 := rfl
theorem Dr.one (ps : List Dr) : ∀ u ∈ ps.flatMap Dr.cells, u.oneCell' = true := by
  intro u hu
  obtain ⟨p, _, hp⟩ := List.mem_flatMap.1 hu
  simp only [Dr.cells, List.mem_cons, List.not_mem_nil, or_false] at hp
  rcases hp with h | h | h | h <;> subst h <;> rfl
abbrev drOf (n : List UInt8) (x : Int × Int × Int) : Dr := ⟨n, x.1, x.2.1, x.2.2⟩
structure DrAt (w : World) (b off : Nat) (p : Dr) : Prop where
  c0 : w.cell? ⟨b, off, none⟩ = some (.string (bstr p.acct))
  c1 : w.cell? ⟨b, off + 1, none⟩ = some (.int .i64 p.day)
  c2 : w.cell? ⟨b, off + 2, none⟩ = some (.int .i64 p.chg)
  c3 : w.cell? ⟨b, off + 3, none⟩ = some (.int .i64 p.bal)
abbrev RdDr (w : World) (A : Option Addr) (ps : List Dr) : Prop := RdC w A (ps.flatMap Dr.cells)
theorem RdDr.at_ {w : World} {A : Option Addr} {ps : List Dr} (h : RdDr w A ps) {i : Nat} {p : Dr} (hp : ps[i]? = some p) : ∃ b off, A = some ⟨b, off, none⟩ ∧ DrAt w b (off + i * 4) p := by
  obtain ⟨b, off, rfl, hc⟩ := RdC.elem Dr.len h (by decide) hp
  exact ⟨b, off, rfl, hc 0 _ rfl, hc 1 _ rfl, hc 2 _ rfl, hc 3 _ rfl⟩

/-! ### All days -/
def stateD (N : List (List UInt8)) (O : DO) : List Dr := (sortN N).flatMap fun n => (days (O n)).map (drOf n)
/-- The names at which something stands are among these. -/
def CovD (N : List (List UInt8)) (O : DO) : Prop := N.Nodup ∧ ∀ n, days (O n) ≠ [] → n ∈ N
theorem sortN_lt {N : List (List UInt8)} (h : N.Nodup) : (sortN N).Pairwise (· < ·) := by
  have hs := sortN_sorted N
  have hn := (sortN_perm N).nodup_iff.2 h
  refine (List.pairwise_and_iff.2 ⟨hs, hn⟩).imp fun {a b} h => ?_
  exact Classical.byContradiction fun hn => h.2 (List.le_antisymm h.1 (List.not_lt.1 hn))
theorem flat_filter {α β : Type} (f : α → List β) (p : α → Bool) (h : ∀ x, p x = false → f x = []) : ∀ l : List α, l.flatMap f = (l.filter p).flatMap f
  | [] => rfl
  | x :: l => by
    rw [List.flatMap_cons, flat_filter f p h l, List.filter_cons]
    cases hp : p x with
    | true => rw [if_pos rfl, List.flatMap_cons]
    | false => rw [h x hp]; rfl
theorem state_same {N M : List (List UInt8)} {O P : DO} (hN : CovD N O) (hM : CovD M P) (h : SameD O P) : stateD N O = stateD M P := by
  unfold stateD
  have e1 := flat_filter (fun n => (days (O n)).map (drOf n)) (fun n => !(days (O n)).isEmpty) (fun n hn => by
    have : days (O n) = [] := by simpa using hn
    rw [this]; rfl) (sortN N)
  have e2 := flat_filter (fun n => (days (P n)).map (drOf n)) (fun n => !(days (P n)).isEmpty) (fun n hn => by
    have : days (P n) = [] := by simpa using hn
    rw [this]; rfl) (sortN M)
  rw [e1, e2]
  have hf : ∀ n, days (O n) = days (P n) := fun n => h.days n
  have hk : (sortN N).filter (fun n => !(days (O n)).isEmpty) = (sortN M).filter (fun n => !(days (P n)).isEmpty) := by
    have p1 := List.Pairwise.sublist (List.filter_sublist (p := fun n => !(days (O n)).isEmpty)) (sortN_lt hN.1)
    have p2 := List.Pairwise.sublist (List.filter_sublist (p := fun n => !(days (P n)).isEmpty)) (sortN_lt hM.1)
    have nd : ∀ {l : List (List UInt8)}, l.Pairwise (· < ·) → l.Nodup := fun hl => List.Pairwise.imp (fun {a b} hab => by rintro rfl; exact absurd hab (nm_irrefl a)) hl
    refine List.Perm.eq_of_pairwise (le := fun a b : List UInt8 => a < b) (fun a b _ _ h k => absurd (nm_lt_trans h k) (nm_irrefl a)) p1 p2 ((List.perm_ext_iff_of_nodup (nd p1) (nd p2)).2 fun n => ?_)
    rw [List.mem_filter, List.mem_filter, (sortN_perm N).mem_iff, (sortN_perm M).mem_iff, hf n]
    constructor
    · rintro ⟨_, h2⟩
      exact ⟨hM.2 n (by simpa using h2), h2⟩
    · rintro ⟨_, h2⟩
      refine ⟨hN.2 n ?_, h2⟩
      rw [hf n]
      simpa using h2
  rw [hk]
  congr 1
  funext n
  rw [hf n]
theorem state_nil {O : DO} (h : ∀ n, days (O n) = []) (N : List (List UInt8)) : stateD N O = [] := by
  unfold stateD
  rw [List.flatMap_eq_nil_iff]
  intro n _
  rw [h n]
  rfl
end Go.Proofs.YtejmndfdmikfaaaDoor.Kit
