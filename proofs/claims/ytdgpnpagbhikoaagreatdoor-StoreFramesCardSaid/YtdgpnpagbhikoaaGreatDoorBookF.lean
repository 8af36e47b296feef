/- daybookkeep: a book's pages of bytes. -/
import Derived.Test.YtdgpnpagbhikoaaGreatDoorBookE
namespace Go.Proofs.YtdgpnpagbhikoaaGreatDoor.Kit
open Go Go.RowKit

/-- A page: the list, the longer one made of it, what it showed. -/
structure Pg where
  L : Option Addr
  n : Nat
  c : Nat
  G : Option Addr
  gn : Nat
  gc : Nat
  U : Option Addr
  un : Nat
  uc : Nat
  id : Nat
  done : Bool
def Pg.vals (p : Pg) : List Value := [.slice p.L p.n p.c, .slice p.G p.gn p.gc, .slice p.U p.un p.uc, .int .i64 (p.id : Int), .bool p.done]
/-- The blocks that a page's lists lie in. -/
def Pg.Fp (p : Pg) (k : Nat) : Prop := Bk p.L k ∨ Bk p.G k ∨ Bk p.U k

theorem flat_get (ps : List Pg) : ∀ (i j : Nat) (p : Pg), ps[i]? = some p → j < 5 → (ps.flatMap Pg.vals)[i * 5 + j]? = p.vals[j]? := by
  induction ps with
  | nil => intro i j p h; simp at h
  | cons q ps ih =>
    intro i j p h hj
    rw [List.flatMap_cons]
    cases i with
    | zero =>
      simp only [List.getElem?_cons_zero, Option.some.injEq] at h
      subst h
      rw [Nat.zero_mul, Nat.zero_add, List.getElem?_append_left (by simpa [Pg.vals] using hj)]
    | succ i =>
      rw [List.getElem?_cons_succ] at h
      rw [List.getElem?_append_right (by simp [Pg.vals]; omega), ← ih i j p h hj]
      congr 1
      simp [Pg.vals]
      omega
theorem flat_set (ps : List Pg) : ∀ (i j : Nat) (p p' : Pg) (v : Value), ps[i]? = some p → j < 5 → p'.vals = p.vals.set j v → (ps.flatMap Pg.vals).set (i * 5 + j) v = (ps.set i p').flatMap Pg.vals := by
  induction ps with
  | nil => intro i j p p' v h; simp at h
  | cons q ps ih =>
    intro i j p p' v h hj he
    cases i with
    | zero =>
      simp only [List.getElem?_cons_zero, Option.some.injEq] at h
      subst h
      rw [List.set_cons_zero, List.flatMap_cons, List.flatMap_cons, he, Nat.zero_mul, Nat.zero_add, List.set_append_left _ _ (by simpa [Pg.vals] using hj)]
    | succ i =>
      rw [List.getElem?_cons_succ] at h
      rw [List.set_cons_succ, List.flatMap_cons, List.flatMap_cons, ← ih i j p p' v h hj he, List.set_append_right _ _ (by simp [Pg.vals]; omega)]
      congr 2
      simp [Pg.vals]
      omega
theorem pg_length (ps : List Pg) : (ps.flatMap Pg.vals).length = ps.length * 5 := by
  induction ps with
  | nil => rfl
  | cons p ps ih => rw [List.flatMap_cons, List.length_append, ih, List.length_cons]; simp [Pg.vals]; omega

/-- Kept untouched. -/
def Kept (w : World) (p : Pg) : Prop := p.done = false ∧ p.G = none ∧ p.gn = 0 ∧ p.gc = 0 ∧ p.id ≤ 800000 ∧ p.n ≤ 1099511627776 ∧ ∃ l : List UInt8, p.n = l.length ∧ p.un = l.length ∧ Own w 5 1 p.L p.c p.n (bcs l) ∧ RdB w p.U l
/-- Written full. -/
def Full (w : World) (p : Pg) : Prop := p.done = true ∧ p.G = none ∧ p.gn = 0 ∧ p.gc = 0 ∧ p.id ≤ 800000 ∧ p.n ≤ 1099511627776 ∧ Own w 5 1 p.L p.c p.n (bcs (marksB p.id p.n))
/-- Written full, and appended to. -/
def Grown (w : World) (p : Pg) : Prop := p.done = true ∧ p.gn = p.n + 64 ∧ p.id ≤ 800000 ∧ p.n ≤ 1099511627776 ∧ RdB w p.L (marksB p.id p.n) ∧ RdB w p.G (marksB p.id p.n ++ marksB (p.id + 100000) 64)
theorem Kept.kp {w w' : World} {S : Nat → Prop} {p : Pg} (h : Kept w p) (hk : Kp S w w') (hS : ∀ k, p.Fp k → ¬ S k) : Kept w' p := by
  obtain ⟨h1, h2, h3, h4, h5, h6, l, h7, h8, h9, h10⟩ := h
  exact ⟨h1, h2, h3, h4, h5, h6, l, h7, h8, h9.kp hk (fun k hb => hS k (.inl hb)), h10.kp hk (fun k hb => hS k (.inr (.inr hb)))⟩
theorem Full.kp {w w' : World} {S : Nat → Prop} {p : Pg} (h : Full w p) (hk : Kp S w w') (hS : ∀ k, p.Fp k → ¬ S k) : Full w' p := by
  obtain ⟨h1, h2, h3, h4, h5, h6, h9⟩ := h
  exact ⟨h1, h2, h3, h4, h5, h6, h9.kp hk (fun k hb => hS k (.inl hb))⟩
theorem Grown.kp {w w' : World} {S : Nat → Prop} {p : Pg} (h : Grown w p) (hk : Kp S w w') (hS : ∀ k, p.Fp k → ¬ S k) : Grown w' p := by
  obtain ⟨h1, h2, h3, h4, h5, h6⟩ := h
  exact ⟨h1, h2, h3, h4, h5.kp hk (fun k hb => hS k (.inl hb)), h6.kp hk (fun k hb => hS k (.inr (.inl hb)))⟩
/-- A kind of page that nobody else's writing changes. -/
def Stable (P : World → Pg → Prop) : Prop := ∀ {w w' : World} {S : Nat → Prop} {p : Pg}, P w p → Kp S w w' → (∀ k, p.Fp k → ¬ S k) → P w' p
theorem Stable.or {P Q : World → Pg → Prop} (hP : Stable P) (hQ : Stable Q) : Stable (fun w p => P w p ∨ Q w p) := by
  intro w w' S p h hk hS
  exact h.imp (fun h => hP h hk hS) (fun h => hQ h hk hS)

/-- The pages of bytes in a row of their own, each of its kind, no two of them in one block, and none in the book's own. -/
def Pages (P : Nat → World → Pg → Prop) (w : World) (g : Nat) (A : Option Addr) (c : Nat) (ps : List Pg) : Prop :=
  Own w 93 5 A c ps.length (ps.flatMap Pg.vals) ∧ ¬ Bk A g ∧ (∀ (i : Nat) (p : Pg), ps[i]? = some p → P i w p ∧ ¬ p.Fp g ∧ ∀ k, p.Fp k → k < w.heap.size ∧ ¬ Bk A k) ∧
    ∀ (i j : Nat) (p q : Pg), ps[i]? = some p → ps[j]? = some q → i ≠ j → ∀ k, p.Fp k → ¬ q.Fp k
theorem Pages.kp {P : Nat → World → Pg → Prop} {w w' : World} {g c : Nat} {A : Option Addr} {ps : List Pg} {S : Nat → Prop} (h : Pages P w g A c ps) (hP : ∀ i, Stable (P i)) (hk : Kp S w w') (hA : ∀ k, Bk A k → ¬ S k) (hS : ∀ p ∈ ps, ∀ k, p.Fp k → ¬ S k) : Pages P w' g A c ps := by
  obtain ⟨h1, h2, h3, h4⟩ := h
  refine ⟨h1.kp hk hA, h2, fun i p hp => ?_, h4⟩
  obtain ⟨k1, k2, k3⟩ := h3 i p hp
  exact ⟨hP i k1 hk (hS p (List.mem_of_getElem? hp)), k2, fun k hf => ⟨Nat.lt_of_lt_of_le (k3 k hf).1 hk.size, (k3 k hf).2⟩⟩
theorem Pages.new {P : Nat → World → Pg → Prop} {w w' : World} {g c : Nat} {A : Option Addr} {ps : List Pg} (h : Pages P w g A c ps) (hP : ∀ i, Stable (P i)) (hk : New w w') : Pages P w' g A c ps :=
  h.kp hP hk (fun _ _ => id) (fun _ _ _ _ => id)
/-- One page turned: its cell in the row set, its own blocks alone written. -/
theorem Pages.turn {P P' : Nat → World → Pg → Prop} {w w' : World} {g c i j hA : Nat} {ps : List Pg} {p p' : Pg} {v : Value} {cur : Array Value} (h : Pages P w g (some ⟨hA, 0, none⟩) c ps) (hP : ∀ i, Stable (P i)) (hi : ps[i]? = some p) (hj : j < 5) (hv : p'.vals = p.vals.set j v)
    (hcur : w.heap[hA]? = some (.cells cur 93 (0, 0))) (hh : w'.heap[hA]? = some (.cells (cur.setIfInBounds (i * 5 + j) v) 93 (0, 0)))
    (hk : Kp (fun k => k = hA ∨ Bk p.L k) w w') (hPP : ∀ k q, k ≠ i → P k w' q → P' k w' q) (hp' : P' i w' p') (hf : ∀ k, p'.Fp k → p.Fp k ∨ w.heap.size ≤ k) (hlt : ∀ k, p'.Fp k → k < w'.heap.size) (hg : g < w.heap.size) : Pages P' w' g (some ⟨hA, 0, none⟩) c (ps.set i p') := by
  obtain ⟨h1, h2, h3, h4⟩ := h
  have hAl : hA < w.heap.size := (Array.getElem?_eq_some_iff.1 hcur).1
  have hil : i < ps.length := (List.getElem?_eq_some_iff.1 hi).1
  have hne : ∀ k q, ps[k]? = some q → k ≠ i → ∀ x, q.Fp x → ¬ (x = hA ∨ Bk p.L x) := by
    intro k q hq hki x hx
    rintro (rfl | hb)
    · exact ((h3 k q hq).2.2 x hx).2 (Bk.some_.2 rfl)
    · exact h4 k i q p hq hi hki x hx (.inl hb)
  refine ⟨?_, h2, fun k q hq => ?_, fun a b q r hq hr hab k hk1 hk2 => ?_⟩
  · rw [List.length_set, ← flat_set ps i j p p' v hi hj hv]
    refine ⟨by rw [List.length_set]; exact h1.1, ?_⟩
    rcases h1.2 with ⟨h, _⟩ | ⟨g', cur', e', hg', c1, c2, c3, c4⟩
    · cases h
    · cases e'
      rw [hcur] at hg'
      cases hg'
      refine .inr ⟨hA, _, rfl, hh, c1, c2, by rw [Array.size_setIfInBounds]; exact c3, ?_⟩
      rw [Array.toList_setIfInBounds, List.take_set, c4]
  · by_cases hki : k = i
    · subst hki
      rw [List.getElem?_set_self hil] at hq
      cases hq
      refine ⟨hp', fun hf' => ?_, fun x hx => ⟨hlt x hx, fun hb => ?_⟩⟩
      · rcases hf g hf' with hf' | hf'
        · exact (h3 k p hi).2.1 hf'
        · omega
      · have hxA : hA = x := Bk.some_.1 hb
        rcases hf x hx with hf' | hf'
        · exact ((h3 k p hi).2.2 x hf').2 hb
        · omega
    · rw [List.getElem?_set_ne (fun e => hki e.symm)] at hq
      obtain ⟨k1, k2, k3⟩ := h3 k q hq
      exact ⟨hPP k q hki (hP k k1 hk (hne k q hq hki)), k2, fun x hx => ⟨Nat.lt_of_lt_of_le (k3 x hx).1 hk.size, (k3 x hx).2⟩⟩
  · by_cases ha : a = i
    · subst ha
      rw [List.getElem?_set_self hil] at hq
      rw [List.getElem?_set_ne hab] at hr
      cases hq
      rcases hf k hk1 with hf' | hf'
      · exact h4 a b p r hi hr hab k hf' hk2
      · have := ((h3 b r hr).2.2 k hk2).1
        omega
    · rw [List.getElem?_set_ne (fun e => ha e.symm)] at hq
      by_cases hb : b = i
      · subst hb
        rw [List.getElem?_set_self hil] at hr
        cases hr
        rcases hf k hk2 with hf' | hf'
        · exact h4 a b q p hq hi hab k hk1 hf'
        · have := ((h3 a q hq).2.2 k hk1).1
          omega
      · rw [List.getElem?_set_ne (fun e => hb e.symm)] at hr
        exact h4 a b q r hq hr hab k hk1 hk2
end Go.Proofs.YtdgpnpagbhikoaaGreatDoor.Kit
