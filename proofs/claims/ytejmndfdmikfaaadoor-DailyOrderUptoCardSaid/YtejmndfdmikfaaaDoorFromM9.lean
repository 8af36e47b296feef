/- Daily's plain law: which lists of days tell a view. -/
import Derived.Test.YtejmndfdmikfaaaDoorApply9
namespace Go.Proofs.YtejmndfdmikfaaaDoor.Kit

/-- The balance ahead of a row. -/
def wasOf (prev : Option Dr) (r : Dr) : Int := match prev with
  | some p => if p.acct = r.acct then p.bal else 0
  | none => 0
/-- May this row stand behind that one? -/
def okR (prev : Option Dr) (r : Dr) : Prop := goodD r.acct = true ∧ isDayB r.day = true ∧ r.chg ≠ 0 ∧ amtD r.chg ∧ amtD r.bal ∧ (∀ p, prev = some p → p.acct < r.acct ∨ (p.acct = r.acct ∧ p.day < r.day)) ∧ wasOf prev r + r.chg = r.bal
def prevOf (rs : List Dr) (i : Nat) : Option Dr := if i = 0 then none else rs[i - 1]?
def okF (rs : List Dr) : Prop := ∀ (i : Nat) r, rs[i]? = some r → okR (prevOf rs i) r
def ofF (rs : List Dr) (n : List UInt8) : List (Int × Int) := (rs.filter fun r => r.acct == n).map fun r => (r.day, r.chg)
def entF (rs : List Dr) (n : List UInt8) : List (Int × Int × Int) := (rs.filter fun r => r.acct == n).map fun r => (r.day, r.chg, r.bal)
theorem ofF_snoc (rs : List Dr) (r : Dr) (n : List UInt8) : ofF (rs ++ [r]) n = if n = r.acct then ofF rs n ++ [(r.day, r.chg)] else ofF rs n := by
  unfold ofF
  rw [List.filter_append]
  by_cases h : n = r.acct
  · subst h; simp
  · rw [if_neg h]
    have : (r.acct == n) = false := by simpa using fun e : r.acct = n => h e.symm
    simp [this]
theorem entF_snoc (rs : List Dr) (r : Dr) (n : List UInt8) : entF (rs ++ [r]) n = if n = r.acct then entF rs n ++ [(r.day, r.chg, r.bal)] else entF rs n := by
  unfold entF
  rw [List.filter_append]
  by_cases h : n = r.acct
  · subst h; simp
  · rw [if_neg h]
    have : (r.acct == n) = false := by simpa using fun e : r.acct = n => h e.symm
    simp [this]
theorem bal_all {l : List (Int × Int)} {d : Int} (h : ∀ x ∈ l, x.1 ≤ d) : bal l d = (l.map (·.2)).sum := by
  unfold bal
  rw [List.filter_eq_self.2 fun r hr => by simpa using h r hr]
theorem canon_lt {l : List (Int × Int)} {d : Int} (h : ∀ x ∈ l, x.1 < d) : ∀ e ∈ canon l, e.1 < d := by
  intro e he
  obtain ⟨h1, h2⟩ := mem_canon.1 he
  have ht : ∃ r ∈ l, r.1 = e.1 := Classical.byContradiction fun hn => h2 (h1.trans (chg_none fun r hr k => hn ⟨r, hr, k⟩))
  obtain ⟨r, hr, hre⟩ := ht
  have := h r hr
  omega
theorem canon_snoc {l : List (Int × Int)} {d c : Int} (h : ∀ x ∈ l, x.1 < d) (hc : c ≠ 0) : canon (l ++ [(d, c)]) = canon l ++ [(d, c)] := by
  refine (canon_rise _).same ?_ fun e => ?_
  · refine List.pairwise_append.2 ⟨canon_rise l, by simp, fun x hx y hy => ?_⟩
    rw [List.mem_singleton.1 hy]
    exact canon_lt h x hx
  · have h0 : chg l d = 0 := chg_none fun r hr k => by have := h r hr; omega
    rw [List.mem_append, List.mem_singleton, mem_canon, mem_canon, chg_app, chg_cons, chg_nil]
    by_cases he : d = e.1
    · rw [if_pos he, ← he, h0]
      constructor
      · rintro ⟨h1, _⟩
        exact .inr (Prod.ext he.symm (by show e.2 = c; omega))
      · rintro (⟨h1, h2⟩ | h1)
        · exact absurd h1 h2
        · rw [h1]
          exact ⟨by omega, hc⟩
    · rw [if_neg he]
      constructor
      · rintro ⟨h1, h2⟩
        exact .inl ⟨by omega, h2⟩
      · rintro (⟨h1, h2⟩ | h1)
        · exact ⟨by omega, h2⟩
        · rw [h1] at he
          exact absurd rfl he
theorem sum_canon {l : List (Int × Int)} {d : Int} (h : ∀ x ∈ l, x.1 < d) : ((canon l).map (·.2)).sum = (l.map (·.2)).sum := by
  rw [← bal_all (d := d) fun x hx => Int.le_of_lt (canon_lt h x hx), ← bal_all (d := d) fun x hx => Int.le_of_lt (h x hx), bal_canon]
theorem days_snoc {l : List (Int × Int)} {d c : Int} (h : ∀ x ∈ l, x.1 < d) (hc : c ≠ 0) : days (l ++ [(d, c)]) = days l ++ [(d, c, (l.map (·.2)).sum + c)] := by
  unfold days
  rw [canon_snoc h hc, runs_snoc, sum_canon h, Int.zero_add]
theorem fit_snoc {l : List (Int × Int)} {d c : Int} (h : ∀ x ∈ l, x.1 < d) (hl : FitD l) (hc : amtD c) (hb : amtD ((l.map (·.2)).sum + c)) : FitD (l ++ [(d, c)]) := by
  intro e
  rw [chg_app, bal_app, chg_cons, bal_cons, chg_nil, bal_nil]
  obtain ⟨h1, h2⟩ := hl e
  unfold amtD at *
  constructor
  · by_cases he : d = e
    · have h0 : chg l e = 0 := chg_none fun r hr k => by have := h r hr; omega
      simp only [he, if_true, h0]
      omega
    · simp only [he, if_false]
      omega
  · by_cases he : d ≤ e
    · rw [bal_all fun x hx => by have := h x hx; omega]
      simp only [he, if_true]
      omega
    · simp only [he, if_false]
      omega
/-- What is known of the first k rows. -/
structure FI (rs : List Dr) (k : Nat) : Prop where
  ok : ∀ (i : Nat) r, i < k → rs[i]? = some r → okR (prevOf rs i) r
  ent : ∀ n, days (ofF (rs.take k) n) = entF (rs.take k) n
  fit : ∀ n, FitD (ofF (rs.take k) n)
  last : ∀ p, prevOf rs k = some p → ((ofF (rs.take k) p.acct).map (·.2)).sum = p.bal ∧ ∀ r ∈ rs.take k, r.acct < p.acct ∨ (r.acct = p.acct ∧ r.day ≤ p.day)
theorem FI.zero (rs : List Dr) : FI rs 0 := ⟨fun i r h => absurd h (Nat.not_lt_zero _), fun n => rfl, fun n => fit_none, fun p h => by unfold prevOf at h; simp at h⟩
theorem prevOf_succ {rs : List Dr} {k : Nat} : prevOf rs (k + 1) = rs[k]? := by unfold prevOf; simp
theorem mem_ofF {rs : List Dr} {n : List UInt8} {x : Int × Int} (h : x ∈ ofF rs n) : ∃ r ∈ rs, r.acct = n ∧ x = (r.day, r.chg) := by
  obtain ⟨r, hr, rfl⟩ := List.mem_map.1 h
  obtain ⟨h1, h2⟩ := List.mem_filter.1 hr
  exact ⟨r, h1, by simpa using h2, rfl⟩
theorem FI.was {rs : List Dr} {k : Nat} (h : FI rs k) {r : Dr} (hr : rs[k]? = some r) (ho : okR (prevOf rs k) r) : (∀ x ∈ ofF (rs.take k) r.acct, x.1 < r.day) ∧ ((ofF (rs.take k) r.acct).map (·.2)).sum = wasOf (prevOf rs k) r := by
  cases hp : prevOf rs k with
  | none =>
    have hk : k = 0 := by
      unfold prevOf at hp
      split at hp
      · assumption
      · have h1 := List.getElem?_eq_none_iff.1 hp
        have h2 := (List.getElem?_eq_some_iff.1 hr).1
        omega
    subst hk
    exact ⟨fun x hx => (by cases hx), rfl⟩
  | some p =>
    obtain ⟨h1, h2⟩ := h.last p hp
    have ho2 := ho.2.2.2.2.2.1 p hp
    have hw : wasOf (some p) r = if p.acct = r.acct then p.bal else 0 := rfl
    rw [hw]
    rcases ho2 with h3 | ⟨h3, h4⟩
    · have hne : ¬ p.acct = r.acct := fun e => nm_irrefl _ (e ▸ h3)
      have hnil : ofF (rs.take k) r.acct = [] := by
        unfold ofF
        rw [List.filter_eq_nil_iff.2 fun q hq e => ?_]
        · rfl
        · have e2 : q.acct = r.acct := by simpa using e
          rcases h2 q hq with h5 | ⟨h5, _⟩
          · rw [e2] at h5
            exact nm_irrefl _ (nm_lt_trans h3 h5)
          · exact hne (h5.symm.trans e2)
      rw [hnil, if_neg hne]
      exact ⟨fun x hx => (by cases hx), rfl⟩
    · rw [if_pos h3, ← h3]
      refine ⟨fun x hx => ?_, h1⟩
      obtain ⟨q, hq, e1, rfl⟩ := mem_ofF hx
      rcases h2 q hq with h5 | ⟨_, h5⟩
      · rw [e1] at h5
        exact absurd h5 (nm_irrefl _)
      · show q.day < r.day
        omega
theorem FI.step {rs : List Dr} {k : Nat} (h : FI rs k) {r : Dr} (hr : rs[k]? = some r) (ho : okR (prevOf rs k) r) : FI rs (k + 1) := by
  obtain ⟨hd, hs⟩ := h.was hr ho
  have ht : rs.take (k + 1) = rs.take k ++ [r] := take_get hr
  refine ⟨fun i q hi hq => ?_, fun n => ?_, fun n => ?_, fun p hp => ?_⟩
  · rcases Nat.lt_succ_iff_lt_or_eq.1 hi with h1 | rfl
    · exact h.ok i q h1 hq
    · rw [hr] at hq
      cases hq
      exact ho
  · rw [ht, ofF_snoc, entF_snoc]
    split
    · rename_i e
      subst e
      rw [days_snoc hd ho.2.2.1, h.ent, hs, ho.2.2.2.2.2.2]
    · exact h.ent n
  · rw [ht, ofF_snoc]
    split
    · rename_i e
      subst e
      exact fit_snoc hd (h.fit _) ho.2.2.2.1 (by rw [hs, ho.2.2.2.2.2.2]; exact ho.2.2.2.2.1)
    · exact h.fit n
  · rw [prevOf_succ, hr] at hp
    cases hp
    rw [ht, ofF_snoc, if_pos rfl, List.map_append, List.sum_append, hs]
    refine ⟨?_, fun q hq => ?_⟩
    · have := ho.2.2.2.2.2.2
      simp only [List.map_cons, List.map_nil, List.sum_cons, List.sum_nil]
      omega
    · rcases List.mem_append.1 hq with hq | hq
      · cases hpp : prevOf rs k with
        | none =>
          have hk : k = 0 := by
            unfold prevOf at hpp
            split at hpp
            · assumption
            · have h1 := List.getElem?_eq_none_iff.1 hpp
              have h2 := (List.getElem?_eq_some_iff.1 hr).1
              omega
          subst hk
          cases hq
        | some p =>
          have h1 := (h.last p hpp).2 q hq
          rcases ho.2.2.2.2.2.1 p hpp with h3 | ⟨h3, h4⟩
          · rcases h1 with h5 | ⟨h5, _⟩
            · exact .inl (nm_lt_trans h5 h3)
            · exact .inl (h5 ▸ h3)
          · rcases h1 with h5 | ⟨h5, h6⟩
            · exact .inl (h3 ▸ h5)
            · exact .inr ⟨h5.trans h3, by omega⟩
      · rw [List.mem_singleton.1 hq]
        exact .inr ⟨rfl, Int.le_refl _⟩

/-! ### What State tells is such a list -/
def okC : Option Dr → List Dr → Prop
  | _, [] => True
  | p, r :: rs => okR p r ∧ okC (some r) rs
theorem okC_at : ∀ {rs : List Dr} {p : Option Dr}, okC p rs → ∀ (i : Nat) r, rs[i]? = some r → okR (if i = 0 then p else rs[i - 1]?) r
  | [], _, _, i, r, h => by simp at h
  | q :: rs, p, ⟨h1, h2⟩, 0, r, h => by
    simp only [List.getElem?_cons_zero, Option.some.injEq] at h
    subst h
    exact h1
  | q :: rs, p, ⟨h1, h2⟩, i + 1, r, h => by
    rw [List.getElem?_cons_succ] at h
    have := okC_at h2 i r h
    cases i with
    | zero => simpa using this
    | succ i => simpa using this
theorem okF_of {rs : List Dr} (h : okC none rs) : okF rs := fun i r hr => by
  have := okC_at h i r hr
  unfold prevOf
  exact this
/-- The row ahead of rows that follow. -/
def lastOf (p : Option Dr) (rs : List Dr) : Option Dr := match rs.getLast? with
  | some r => some r
  | none => p
theorem okC_app : ∀ {xs ys : List Dr} {p : Option Dr}, okC p xs → okC (lastOf p xs) ys → okC p (xs ++ ys)
  | [], ys, p, _, h => h
  | x :: xs, ys, p, ⟨h1, h2⟩, h => by
    refine ⟨h1, okC_app h2 ?_⟩
    cases xs with
    | nil => exact h
    | cons y xs =>
      unfold lastOf at h ⊢
      rw [List.getLast?_cons_cons] at h
      cases hl : (y :: xs).getLast? with
      | none => rw [hl] at h; simp at hl
      | some z => rw [hl] at h; exact h
theorem okC_runs {n : List UInt8} (hg : goodD n = true) : ∀ (es : List (Int × Int)) (b : Int) (p : Option Dr), RiseD es → (∀ e ∈ es, isDayB e.1 = true ∧ e.2 ≠ 0 ∧ amtD e.2) → (∀ x ∈ runs b es, amtD x.2.2) →
    (∀ q, p = some q → (q.acct < n ∧ b = 0) ∨ (q.acct = n ∧ q.bal = b ∧ ∀ e ∈ es, q.day < e.1)) → (p = none → b = 0) → okC p ((runs b es).map (drOf n))
  | [], b, p, _, _, _, _, _ => trivial
  | e :: es, b, p, hr, he, hb, hp, hn => by
    obtain ⟨h1, h2, h3⟩ := he e (List.mem_cons_self ..)
    refine ⟨⟨hg, h1, h2, h3, hb _ (List.mem_cons_self ..), fun q hq => ?_, ?_⟩, okC_runs hg es (b + e.2) _ hr.tail (fun x hx => he x (List.mem_cons_of_mem _ hx)) (fun x hx => hb x (List.mem_cons_of_mem _ hx)) (fun q hq => ?_) (fun h => by cases h)⟩
    · rcases hp q hq with ⟨h4, _⟩ | ⟨h4, _, h5⟩
      · exact .inl h4
      · exact .inr ⟨h4, h5 e (List.mem_cons_self ..)⟩
    · show wasOf p ⟨n, e.1, e.2, b + e.2⟩ + e.2 = b + e.2
      have : wasOf p ⟨n, e.1, e.2, b + e.2⟩ = b := by
        cases p with
        | none => exact (hn rfl).symm
        | some q =>
          show (if q.acct = n then q.bal else 0) = b
          rcases hp q rfl with ⟨h4, h5⟩ | ⟨h4, h5, _⟩
          · rw [if_neg fun e => nm_irrefl _ (e ▸ h4), h5]
          · rw [if_pos h4, h5]
      rw [this]
    · cases hq
      exact .inr ⟨rfl, rfl, fun x hx => hr.head x hx⟩
theorem okC_days {O : DO} (hfit : ∀ n, FitD (O n)) (hgood : ∀ n, days (O n) ≠ [] → goodD n = true) (hday : ∀ n, ∀ x ∈ days (O n), isDayB x.1 = true) :
    ∀ (S : List (List UInt8)) (p : Option Dr), S.Pairwise (· < ·) → (∀ q, p = some q → ∀ n ∈ S, q.acct < n) → okC p (S.flatMap fun n => (days (O n)).map (drOf n))
  | [], p, _, _ => trivial
  | n :: S, p, hS, hp => by
    rw [List.flatMap_cons]
    obtain ⟨hS1, hS2⟩ := List.pairwise_cons.1 hS
    have hin : ∀ e ∈ canon (O n), isDayB e.1 = true ∧ e.2 ≠ 0 ∧ amtD e.2 := fun e he => by
      obtain ⟨h1, h2⟩ := mem_canon.1 he
      exact ⟨hday n (e.1, e.2, bal (O n) e.1) (by rw [days_eq]; exact List.mem_map.2 ⟨e, he, rfl⟩), h2, by rw [h1]; exact (hfit n e.1).1⟩
    refine okC_app ?_ (okC_days hfit hgood hday S _ hS2 fun q hq m hm => ?_)
    · by_cases hd : days (O n) = []
      · rw [hd]; trivial
      · refine okC_runs (hgood n hd) (canon (O n)) 0 p (canon_rise _) hin (fun x hx => ?_) (fun q hq => .inl ⟨hp q hq n (List.mem_cons_self ..), rfl⟩) fun _ => rfl
        have h1 : x ∈ days (O n) := hx
        rw [(days_mem h1).2.2]
        exact (hfit n x.1).2
    · unfold lastOf at hq
      split at hq
      · rename_i r hr
        cases hq
        obtain ⟨x, _, rfl⟩ := List.mem_map.1 (List.mem_of_getLast? hr)
        exact hS1 m hm
      · exact hp q hq m (List.mem_cons_of_mem _ hm)
theorem okF_state {O : DO} {N : List (List UInt8)} (hN : N.Nodup) (hfit : ∀ n, FitD (O n)) (hgood : ∀ n, days (O n) ≠ [] → goodD n = true) (hday : ∀ n, ∀ x ∈ days (O n), isDayB x.1 = true) : okF (stateD N O) :=
  okF_of (okC_days hfit hgood hday _ none (sortN_lt hN) fun q hq => by cases hq)
/-- From of State tells the same. -/
theorem ofF_state {O : DO} {N : List (List UInt8)} (hN : CovD N O) (n : List UInt8) : ofF (stateD N O) n = canon (O n) := by
  unfold stateD ofF
  have key : ∀ S : List (List UInt8), S.Nodup → ((S.flatMap fun m => (days (O m)).map (drOf m)).filter fun r => r.acct == n) = if n ∈ S then (days (O n)).map (drOf n) else [] := by
    intro S
    induction S with
    | nil => intro _; rfl
    | cons m S ih =>
      intro hS
      rw [List.nodup_cons] at hS
      rw [List.flatMap_cons, List.filter_append, ih hS.2]
      by_cases h : m = n
      · subst h
        rw [if_neg hS.1, if_pos (List.mem_cons_self ..), List.append_nil]
        exact List.filter_eq_self.2 fun r hr => by
          obtain ⟨x, _, rfl⟩ := List.mem_map.1 hr
          simp
      · have e1 : ((days (O m)).map (drOf m)).filter (fun r => r.acct == n) = [] := by
          refine List.filter_eq_nil_iff.2 fun r hr => ?_
          obtain ⟨x, _, rfl⟩ := List.mem_map.1 hr
          simpa using h
        have e2 : n ∈ m :: S ↔ n ∈ S := by
          rw [List.mem_cons]
          exact ⟨fun h2 => h2.elim (fun e => absurd e.symm h) id, .inr⟩
        rw [e1, List.nil_append]
        simp only [e2]
  rw [key _ ((sortN_perm N).nodup_iff.2 hN.1)]
  by_cases h : n ∈ sortN N
  · rw [if_pos h, List.map_map]
    have e : ((fun r : Dr => (r.day, r.chg)) ∘ drOf n) = fun x => (x.1, x.2.1) := rfl
    rw [e, days_eq, List.map_map]
    exact List.map_id _
  · rw [if_neg h]
    have hd : days (O n) = [] := Classical.byContradiction fun hk => h ((sortN_perm N).mem_iff.2 (hN.2 n hk))
    have := days_length (O n)
    rw [hd] at this
    exact (List.eq_nil_of_length_eq_zero this.symm).symm
end Go.Proofs.YtejmndfdmikfaaaDoor.Kit
