/- Daily's plain law: rows by day, their changes and the balances at their ends. No program in sight. -/
import Derived.Test.YtejmndfdmikfaaaDoorSumsM
namespace Go.Proofs.YtejmndfdmikfaaaDoor.Kit

/-! ### Rows of one account: days and amounts -/

/-- What one day changes. -/
def chg (l : List (Int × Int)) (d : Int) : Int := ((l.filter fun r => r.1 == d).map (·.2)).sum
/-- The balance at a day's end. -/
def bal (l : List (Int × Int)) (d : Int) : Int := ((l.filter fun r => decide (r.1 ≤ d)).map (·.2)).sum
theorem chg_nil (d : Int) : chg [] d = 0 := rfl
theorem bal_nil (d : Int) : bal [] d = 0 := rfl
theorem chg_cons (r : Int × Int) (l : List (Int × Int)) (d : Int) : chg (r :: l) d = (if r.1 = d then r.2 else 0) + chg l d := by
  unfold chg
  rw [List.filter_cons]
  by_cases h : r.1 = d <;> simp [h]
theorem bal_cons (r : Int × Int) (l : List (Int × Int)) (d : Int) : bal (r :: l) d = (if r.1 ≤ d then r.2 else 0) + bal l d := by
  unfold bal
  rw [List.filter_cons]
  by_cases h : r.1 ≤ d <;> simp [h]
theorem chg_app (a b : List (Int × Int)) (d : Int) : chg (a ++ b) d = chg a d + chg b d := by
  unfold chg
  rw [List.filter_append, List.map_append, List.sum_append]
theorem bal_app (a b : List (Int × Int)) (d : Int) : bal (a ++ b) d = bal a d + bal b d := by
  unfold bal
  rw [List.filter_append, List.map_append, List.sum_append]
theorem chg_perm {a b : List (Int × Int)} (h : a.Perm b) (d : Int) : chg a d = chg b d := by
  induction h with
  | nil => rfl
  | cons x _ ih => rw [chg_cons, chg_cons, ih]
  | swap x y l => rw [chg_cons, chg_cons, chg_cons, chg_cons]; omega
  | trans _ _ h1 h2 => exact h1.trans h2
theorem chg_none {l : List (Int × Int)} {d : Int} (h : ∀ r ∈ l, r.1 ≠ d) : chg l d = 0 := by
  unfold chg
  rw [List.filter_eq_nil_iff.2 fun r hr => by simpa using h r hr]
  rfl
theorem bal_none {l : List (Int × Int)} {d : Int} (h : ∀ r ∈ l, ¬ r.1 ≤ d) : bal l d = 0 := by
  unfold bal
  rw [List.filter_eq_nil_iff.2 fun r hr => by simpa using h r hr]
  rfl
/-- Without one day's rows. -/
theorem chg_less (l : List (Int × Int)) (e d : Int) : chg (l.filter fun r => r.1 != e) d = if d = e then 0 else chg l d := by
  induction l with
  | nil => simp [chg_nil]
  | cons r l ih =>
    rw [List.filter_cons]
    by_cases h : r.1 = e
    · rw [if_neg (by simpa using h), ih, chg_cons]
      by_cases hd : d = e
      · rw [if_pos hd, if_pos hd]
      · rw [if_neg hd, if_neg hd, if_neg (fun k => hd (k.symm.trans h)), Int.zero_add]
    · rw [if_pos (by simpa using h), chg_cons, ih, chg_cons]
      by_cases hd : d = e
      · rw [if_pos hd, if_pos hd, if_neg (fun k => h (k.trans hd))]; rfl
      · rw [if_neg hd, if_neg hd]
theorem bal_less (l : List (Int × Int)) (e d : Int) : bal l d = bal (l.filter fun r => r.1 != e) d + if e ≤ d then chg l e else 0 := by
  induction l with
  | nil => simp [chg_nil, bal_nil]
  | cons r l ih =>
    rw [bal_cons, ih, chg_cons]
    by_cases h : r.1 = e
    · rw [List.filter_cons_of_neg (by simpa using h), if_pos h, h]
      by_cases hd : e ≤ d
      · rw [if_pos hd, if_pos hd, if_pos hd]; omega
      · rw [if_neg hd, if_neg hd, if_neg hd]; omega
    · rw [List.filter_cons_of_pos (by simpa using h), if_neg h, bal_cons, Int.zero_add]
      omega
theorem bal_zero : ∀ (k : Nat) (l : List (Int × Int)), l.length ≤ k → (∀ d, chg l d = 0) → ∀ d, bal l d = 0
  | _, [], _, _, d => bal_nil d
  | 0, r :: l, hk, _, _ => by simp at hk
  | k + 1, r :: l, hk, h, d => by
    rw [bal_less (r :: l) r.1 d, h r.1, bal_zero k ((r :: l).filter fun x => x.1 != r.1) ?_ ?_ d]
    · split <;> rfl
    · rw [List.filter_cons_of_neg (by simp)]
      have := List.length_filter_le (fun x : Int × Int => x.1 != r.1) l
      rw [List.length_cons] at hk
      omega
    · intro e
      rw [chg_less, h e]
      split <;> rfl
def negD (l : List (Int × Int)) : List (Int × Int) := l.map fun r => (r.1, -r.2)
theorem chg_neg (l : List (Int × Int)) (d : Int) : chg (negD l) d = - chg l d := by
  induction l with
  | nil => rfl
  | cons r l ih =>
    show chg ((r.1, -r.2) :: negD l) d = _
    rw [chg_cons, chg_cons, ih]
    split <;> omega
theorem bal_neg (l : List (Int × Int)) (d : Int) : bal (negD l) d = - bal l d := by
  induction l with
  | nil => rfl
  | cons r l ih =>
    show bal ((r.1, -r.2) :: negD l) d = _
    rw [bal_cons, bal_cons, ih]
    split <;> omega
/-- The balances are the changes'. -/
theorem bal_congr {a b : List (Int × Int)} (h : ∀ d, chg a d = chg b d) (d : Int) : bal a d = bal b d := by
  have := bal_zero (a ++ negD b).length (a ++ negD b) (Nat.le_refl _) (fun e => by rw [chg_app, chg_neg, h e]; omega) d
  rw [bal_app, bal_neg] at this
  omega

/-! ### Rising days -/
def RiseD {α : Type} (g : List (Int × α)) : Prop := g.Pairwise fun a b => a.1 < b.1
theorem RiseD.nil {α : Type} : RiseD ([] : List (Int × α)) := List.Pairwise.nil
theorem RiseD.tail {α : Type} {x : Int × α} {g : List (Int × α)} (h : RiseD (x :: g)) : RiseD g := (List.pairwise_cons.1 h).2
theorem RiseD.head {α : Type} {x : Int × α} {g : List (Int × α)} (h : RiseD (x :: g)) : ∀ y ∈ g, x.1 < y.1 := (List.pairwise_cons.1 h).1
theorem RiseD.sums {g : List (Int × List Int)} (h : RiseD g) : RiseD (g.map fun x => (x.1, x.2.sum)) := List.pairwise_map.2 h
theorem RiseD.inj {α : Type} {g : List (Int × α)} (h : RiseD g) {x y : Int × α} (hx : x ∈ g) (hy : y ∈ g) (e : x.1 = y.1) : x = y := by
  induction g with
  | nil => cases hx
  | cons z g ih =>
    rcases List.mem_cons.1 hx with rfl | hx' <;> rcases List.mem_cons.1 hy with rfl | hy'
    · rfl
    · have := h.head y hy'; omega
    · have := h.head x hx'; omega
    · exact ih h.tail hx' hy'
theorem RiseD.same {g h : List (Int × Int)} (hg : RiseD g) (hh : RiseD h) (e : ∀ x, x ∈ g ↔ x ∈ h) : g = h := by
  have nd : ∀ {l : List (Int × Int)}, RiseD l → l.Nodup := fun hl => List.Pairwise.imp (fun {a b} hab => by rintro rfl; exact absurd hab (Int.lt_irrefl _)) hl
  exact List.Perm.eq_of_pairwise (le := fun a b : Int × Int => a.1 < b.1) (fun _ _ _ _ h k => absurd (Int.lt_trans h k) (Int.lt_irrefl _)) hg hh ((List.perm_ext_iff_of_nodup (nd hg) (nd hh)).2 e)

/-! ### The place of a day -/
/-- How many days lie ahead of it. -/
def place {α : Type} (g : List (Int × α)) (d : Int) : Nat := g.countP fun x => decide (x.1 < d)
theorem place_le {α : Type} (g : List (Int × α)) (d : Int) : place g d ≤ g.length := List.countP_le_length
theorem place_take {α : Type} : ∀ {g : List (Int × α)}, RiseD g → ∀ d, (∀ x ∈ g.take (place g d), x.1 < d) ∧ (∀ x ∈ g.drop (place g d), d ≤ x.1)
  | [], _, d => ⟨fun x hx => by simp at hx, fun x hx => by simp at hx⟩
  | y :: g, h, d => by
    obtain ⟨h1, h2⟩ := place_take h.tail d
    unfold place at *
    rw [List.countP_cons]
    by_cases hy : y.1 < d
    · rw [if_pos (by simpa using hy), List.take_succ_cons, List.drop_succ_cons]
      refine ⟨fun x hx => ?_, h2⟩
      rcases List.mem_cons.1 hx with rfl | hx
      · exact hy
      · exact h1 x hx
    · have h0 : g.countP (fun x => decide (x.1 < d)) = 0 := List.countP_eq_zero.2 fun x hx => by have := h.head x hx; simp; omega
      rw [if_neg (by simpa using hy), h0]
      refine ⟨fun x hx => by simp at hx, fun x hx => ?_⟩
      rw [Nat.zero_add, List.drop_zero] at hx
      rcases List.mem_cons.1 hx with rfl | hx
      · omega
      · have := h.head x hx; omega
/-- Whether the day is there, at its place. -/
theorem place_there {α : Type} {g : List (Int × α)} (h : RiseD g) {d : Int} {x : Int × α} (hx : x ∈ g) (e : x.1 = d) : g[place g d]? = some x := by
  obtain ⟨h1, h2⟩ := place_take h d
  have hm : x ∈ g.drop (place g d) := by
    rw [← List.take_append_drop (place g d) g] at hx
    rcases List.mem_append.1 hx with hx | hx
    · have := h1 x hx; omega
    · exact hx
  cases hd : g.drop (place g d) with
  | nil => rw [hd] at hm; cases hm
  | cons y r =>
    have hy : g[place g d]? = some y := by
      have := List.getElem?_drop (xs := g) (i := place g d) (j := 0)
      rw [hd, Nat.add_zero] at this
      exact this.symm
    have hr : RiseD (y :: r) := hd ▸ List.Pairwise.sublist (List.drop_sublist _ _) h
    rw [hd] at hm
    rcases List.mem_cons.1 hm with rfl | hm
    · exact hy
    · have q1 := hr.head x hm
      have q2 := h2 y (by rw [hd]; exact List.mem_cons_self ..)
      omega

/-! ### Groups: the amounts of each day -/
/-- The day's group, made if there is none. -/
def atG (g : List (Int × List Int)) (d : Int) : List (Int × List Int) :=
  if (g[place g d]?).map (·.1) = some d then g else g.take (place g d) ++ (d, []) :: g.drop (place g d)
theorem atG_at (g : List (Int × List Int)) (d : Int) : ∃ l, (atG g d)[place g d]? = some (d, l) := by
  unfold atG
  split
  · rename_i h
    cases e : g[place g d]? with
    | none => rw [e] at h; cases h
    | some x =>
      rw [e] at h
      obtain ⟨a, b⟩ := x
      obtain rfl : a = d := by simpa using h
      exact ⟨b, rfl⟩
  · refine ⟨[], ?_⟩
    rw [List.getElem?_append_right (by rw [List.length_take]; omega), List.length_take, Nat.min_eq_left (place_le g d), Nat.sub_self]
    rfl
theorem atG_mem {g : List (Int × List Int)} {d : Int} (x : Int × List Int) : x ∈ atG g d → x ∈ g ∨ x = (d, []) := by
  unfold atG
  split
  · exact fun h => .inl h
  · intro h
    rcases List.mem_append.1 h with h | h
    · exact .inl (List.mem_of_mem_take h)
    · rcases List.mem_cons.1 h with h | h
      · exact .inr h
      · exact .inl (List.mem_of_mem_drop h)
theorem atG_sub {g : List (Int × List Int)} {d : Int} (x : Int × List Int) : x ∈ g → x ∈ atG g d := by
  unfold atG
  split
  · exact id
  · intro h
    rw [← List.take_append_drop (place g d) g] at h
    rcases List.mem_append.1 h with h | h
    · exact List.mem_append.2 (.inl h)
    · exact List.mem_append.2 (.inr (List.mem_cons.2 (.inr h)))
theorem atG_rise {g : List (Int × List Int)} (h : RiseD g) (d : Int) : RiseD (atG g d) := by
  obtain ⟨h1, h2⟩ := place_take h d
  unfold atG
  split
  · exact h
  · rename_i hn
    have h3 : ∀ x ∈ g.drop (place g d), d < x.1 := by
      intro x hx
      have := h2 x hx
      by_cases e : x.1 = d
      · exact absurd (by rw [place_there h (List.mem_of_mem_drop hx) e]; simp [e]) hn
      · omega
    refine List.pairwise_append.2 ⟨List.Pairwise.sublist (List.take_sublist _ _) h, List.pairwise_cons.2 ⟨fun x hx => h3 x hx, List.Pairwise.sublist (List.drop_sublist _ _) h⟩, fun x hx y hy => ?_⟩
    have := h1 x hx
    rcases List.mem_cons.1 hy with rfl | hy
    · exact this
    · have := h3 y hy; omega
theorem atG_length (g : List (Int × List Int)) (d : Int) : (atG g d).length ≤ g.length + 1 := by
  unfold atG
  split
  · omega
  · rw [List.length_append, List.length_cons, List.length_take, List.length_drop]
    omega
/-- A group's amounts replaced. -/
def setG (g : List (Int × List Int)) (i : Nat) (l : List Int) : List (Int × List Int) := g.modify i fun x => (x.1, l)
/-- A row more. -/
def addG (g : List (Int × List Int)) (r : Int × Int) : List (Int × List Int) := (atG g r.1).modify (place g r.1) fun x => (x.1, x.2 ++ [r.2])
/-- The groups of rows. -/
def grp (l : List (Int × Int)) : List (Int × List Int) := l.foldl addG []
theorem grp_snoc (l : List (Int × Int)) (r : Int × Int) : grp (l ++ [r]) = addG (grp l) r := by
  unfold grp
  rw [List.foldl_append]
  rfl
/-- Groups that tell rows. -/
structure IsG (g : List (Int × List Int)) (l : List (Int × Int)) : Prop where
  rise : RiseD g
  sum : ∀ x ∈ g, x.2.sum = chg l x.1
  there : ∀ r ∈ l, ∃ x ∈ g, x.1 = r.1
  of : ∀ x ∈ g, ∃ r ∈ l, r.1 = x.1
theorem rise_modify {g : List (Int × List Int)} (h : RiseD g) (i : Nat) (f : Int × List Int → Int × List Int) (hf : ∀ x, (f x).1 = x.1) : RiseD (g.modify i f) := by
  have e : (g.modify i f).map (·.1) = g.map (·.1) := by
    apply List.ext_getElem?
    intro j
    rw [List.getElem?_map, List.getElem?_map, List.getElem?_modify]
    cases g[j]? with
    | none => rfl
    | some x => by_cases hij : i = j <;> simp [hij, hf]
  have h1 : (g.map (·.1)).Pairwise (· < ·) := List.pairwise_map.2 h
  rw [← e] at h1
  exact List.pairwise_map.1 h1
theorem mem_modify {g : List (Int × List Int)} {i : Nat} {f : Int × List Int → Int × List Int} {x : Int × List Int} (h : x ∈ g.modify i f) : ∃ (j : Nat) (y : Int × List Int), g[j]? = some y ∧ x = if i = j then f y else y := by
  obtain ⟨j, hj⟩ := List.getElem?_of_mem h
  rw [List.getElem?_modify] at hj
  cases e : g[j]? with
  | none => rw [e] at hj; cases hj
  | some y =>
    rw [e] at hj
    refine ⟨j, y, e, ?_⟩
    simpa using hj.symm
theorem IsG.add {g : List (Int × List Int)} {l : List (Int × Int)} (h : IsG g l) (r : Int × Int) : IsG (addG g r) (l ++ [r]) := by
  have hr := atG_rise h.rise r.1
  obtain ⟨l0, h0⟩ := atG_at g r.1
  have h0m : (r.1, l0) ∈ atG g r.1 := List.mem_of_getElem? h0
  have hc : ∀ x ∈ atG g r.1, x.2.sum = chg l x.1 := by
    intro x hx
    rcases atG_mem x hx with hm | rfl
    · exact h.sum x hm
    · by_cases hg : ∃ y ∈ g, y.1 = r.1
      · obtain ⟨y, hy, e⟩ := hg
        have := hr.inj hx (atG_sub y hy) e.symm
        rw [this]
        exact h.sum y hy
      · rw [chg_none fun q hq e => by
          obtain ⟨z, hz, ez⟩ := h.there q hq
          exact hg ⟨z, hz, ez.trans e⟩]
        rfl
  have key : ∀ x ∈ addG g r, ∃ y ∈ atG g r.1, x.1 = y.1 ∧ x.2.sum = y.2.sum + if r.1 = y.1 then r.2 else 0 := by
    intro x hx
    obtain ⟨j, y, hy, rfl⟩ := mem_modify hx
    refine ⟨y, List.mem_of_getElem? hy, ?_⟩
    by_cases hij : place g r.1 = j
    · subst hij
      rw [h0] at hy
      obtain rfl := Option.some.inj hy
      rw [if_pos rfl, if_pos rfl]
      refine ⟨rfl, ?_⟩
      simp
    · rw [if_neg hij, if_neg (fun e => ?_)]
      · exact ⟨rfl, by simp⟩
      · have hyy : y = (r.1, l0) := hr.inj (List.mem_of_getElem? hy) h0m e.symm
        rw [hyy] at hy
        have nd : (atG g r.1).Nodup := List.Pairwise.imp (fun {a b} hab => by rintro rfl; exact absurd hab (Int.lt_irrefl _)) hr
        have hj : j < (atG g r.1).length := (List.getElem?_eq_some_iff.1 hy).1
        exact hij (((List.getElem?_inj (List.getElem?_eq_some_iff.1 h0).1 nd).1 (h0.trans hy.symm)))
  have mem2 : ∀ y ∈ atG g r.1, ∃ x ∈ addG g r, x.1 = y.1 := by
    intro y hy
    obtain ⟨j, hj⟩ := List.getElem?_of_mem hy
    have hm : (addG g r)[j]? = some (if place g r.1 = j then (y.1, y.2 ++ [r.2]) else y) := by
      unfold addG
      rw [List.getElem?_modify, hj]
      simp
    exact ⟨_, List.mem_of_getElem? hm, by split <;> rfl⟩
  refine ⟨rise_modify hr _ _ fun _ => rfl, fun x hx => ?_, fun q hq => ?_, fun x hx => ?_⟩
  · obtain ⟨y, hy, e1, e2⟩ := key x hx
    rw [e2, e1, hc y hy, chg_app, chg_cons, chg_nil]
    omega
  · rcases List.mem_append.1 hq with hq | hq
    · obtain ⟨z, hz, ez⟩ := h.there q hq
      obtain ⟨x, hx, ex⟩ := mem2 z (atG_sub z hz)
      exact ⟨x, hx, ex.trans ez⟩
    · obtain rfl := List.mem_singleton.1 hq
      obtain ⟨x, hx, ex⟩ := mem2 _ h0m
      exact ⟨x, hx, ex⟩
  · obtain ⟨y, hy, e1, _⟩ := key x hx
    rcases atG_mem y hy with hm | rfl
    · obtain ⟨q, hq, eq⟩ := h.of y hm
      exact ⟨q, List.mem_append.2 (.inl hq), eq.trans e1.symm⟩
    · exact ⟨r, List.mem_append.2 (.inr (List.mem_singleton.2 rfl)), e1.symm⟩
theorem grp_is : ∀ (l m : List (Int × Int)) (g : List (Int × List Int)), IsG g m → IsG (l.foldl addG g) (m ++ l)
  | [], m, g, h => by rw [List.append_nil]; exact h
  | r :: l, m, g, h => by
    have := grp_is l (m ++ [r]) (addG g r) (h.add r)
    rw [List.append_assoc] at this
    exact this
theorem grp_isG (l : List (Int × Int)) : IsG (grp l) l := grp_is l [] [] ⟨RiseD.nil, fun _ hx => absurd hx List.not_mem_nil, fun _ hx => absurd hx List.not_mem_nil, fun _ hx => absurd hx List.not_mem_nil⟩
theorem addG_length (g : List (Int × List Int)) (r : Int × Int) : (addG g r).length ≤ g.length + 1 := by
  unfold addG
  rw [List.length_modify]
  exact atG_length g r.1
theorem grp_length (l : List (Int × Int)) : (grp l).length ≤ l.length := by
  have : ∀ (l : List (Int × Int)) (g : List (Int × List Int)), (l.foldl addG g).length ≤ g.length + l.length := by
    intro l
    induction l with
    | nil => intro g; exact Nat.le_refl _
    | cons r l ih => intro g; rw [List.foldl_cons, List.length_cons]; have := ih (addG g r); have := addG_length g r; omega
  have := this l []
  unfold grp
  simpa using this

/-! ### The days on which something changed -/
def canon (l : List (Int × Int)) : List (Int × Int) := ((grp l).map fun x => (x.1, x.2.sum)).filter fun e => e.2 != 0
theorem canon_rise (l : List (Int × Int)) : RiseD (canon l) :=
  List.Pairwise.sublist List.filter_sublist (grp_isG l).rise.sums
theorem mem_canon {l : List (Int × Int)} {e : Int × Int} : e ∈ canon l ↔ e.2 = chg l e.1 ∧ e.2 ≠ 0 := by
  unfold canon
  rw [List.mem_filter, List.mem_map]
  constructor
  · rintro ⟨⟨x, hx, rfl⟩, h⟩
    exact ⟨(grp_isG l).sum x hx, by simpa using h⟩
  · rintro ⟨h1, h2⟩
    by_cases ht : ∃ r ∈ l, r.1 = e.1
    · obtain ⟨r, hr, er⟩ := ht
      obtain ⟨x, hx, ex⟩ := (grp_isG l).there r hr
      refine ⟨⟨x, hx, ?_⟩, by simpa using h2⟩
      rw [(grp_isG l).sum x hx, ex, er, ← h1]
    · exact absurd (h1.trans (chg_none fun r hr k => ht ⟨r, hr, k⟩)) h2
theorem canon_congr {a b : List (Int × Int)} (h : ∀ d, chg a d = chg b d) : canon a = canon b :=
  (canon_rise a).same (canon_rise b) fun x => by rw [mem_canon, mem_canon, h]
theorem chg_rise {es : List (Int × Int)} (h : RiseD es) {e : Int × Int} (he : e ∈ es) : chg es e.1 = e.2 := by
  induction es with
  | nil => cases he
  | cons x es ih =>
    rw [chg_cons]
    rcases List.mem_cons.1 he with rfl | he
    · rw [if_pos rfl, chg_none fun r hr k => by have := h.head r hr; omega]
      omega
    · rw [if_neg (by have := h.head e he; omega), ih h.tail he]
      omega
theorem chg_canon (l : List (Int × Int)) (d : Int) : chg (canon l) d = chg l d := by
  by_cases h : chg l d = 0
  · rw [h]
    refine chg_none fun r hr k => ?_
    obtain ⟨h1, h2⟩ := mem_canon.1 hr
    rw [k, h] at h1
    exact h2 h1
  · exact chg_rise (canon_rise l) (e := (d, chg l d)) (mem_canon.2 ⟨rfl, h⟩)
theorem bal_canon (l : List (Int × Int)) (d : Int) : bal (canon l) d = bal l d := bal_congr (chg_canon l) d
theorem canon_app (l m : List (Int × Int)) : canon (canon l ++ m) = canon (l ++ m) := canon_congr fun d => by rw [chg_app, chg_app, chg_canon]
theorem canon_length (l : List (Int × Int)) : (canon l).length ≤ l.length := by
  unfold canon
  have h1 := List.length_filter_le (fun e : Int × Int => e.2 != 0) ((grp l).map fun x => (x.1, x.2.sum))
  have h2 := grp_length l
  rw [List.length_map] at h1
  omega

/-! ### The balances -/
def runs (b : Int) : List (Int × Int) → List (Int × Int × Int)
  | [] => []
  | e :: r => (e.1, e.2, b + e.2) :: runs (b + e.2) r
theorem runs_length (b : Int) (es : List (Int × Int)) : (runs b es).length = es.length := by
  induction es generalizing b with
  | nil => rfl
  | cons e es ih => rw [runs, List.length_cons, List.length_cons, ih]
theorem runs_bal {es : List (Int × Int)} (h : RiseD es) : ∀ b, runs b es = es.map fun e => (e.1, e.2, b + bal es e.1) := by
  induction es with
  | nil => intro b; rfl
  | cons x es ih =>
    intro b
    rw [runs, ih h.tail, List.map_cons, bal_cons, if_pos (Int.le_refl _), bal_none fun r hr k => by have := h.head r hr; omega]
    congr 1
    · rw [Int.add_zero]
    · refine List.map_congr_left fun e he => ?_
      rw [bal_cons, if_pos (by have := h.head e he; omega), Int.add_assoc]
/-- An account's days, as they are told. -/
def days (l : List (Int × Int)) : List (Int × Int × Int) := runs 0 (canon l)
theorem days_eq (l : List (Int × Int)) : days l = (canon l).map fun e => (e.1, e.2, bal l e.1) := by
  unfold days
  rw [runs_bal (canon_rise l)]
  refine List.map_congr_left fun e _ => ?_
  rw [bal_canon, Int.zero_add]
theorem days_congr {a b : List (Int × Int)} (h : ∀ d, chg a d = chg b d) : days a = days b := by
  unfold days
  rw [canon_congr h]

/-! ### What is an amount on every day -/
def amtD (x : Int) : Prop := -9223372036854775807 ≤ x ∧ x ≤ 9223372036854775807
def FitD (l : List (Int × Int)) : Prop := ∀ d, amtD (chg l d) ∧ amtD (bal l d)
theorem FitD.congr {a b : List (Int × Int)} (h : ∀ d, chg a d = chg b d) (hf : FitD a) : FitD b := fun d => by rw [← h d, ← bal_congr h d]; exact hf d
/-- The balance at any day is that at the last day told ahead of it. -/
theorem bal_last {es : List (Int × Int)} (h : RiseD es) (d : Int) : bal es d = 0 ∨ ∃ e ∈ es, bal es d = bal es e.1 := by
  induction es with
  | nil => exact .inl rfl
  | cons x es ih =>
    by_cases hx : x.1 ≤ d
    · refine .inr ?_
      rcases ih h.tail with h0 | ⟨e, he, h1⟩
      · refine ⟨x, List.mem_cons_self .., ?_⟩
        rw [bal_cons, bal_cons, if_pos hx, if_pos (Int.le_refl _), h0, bal_none (l := es) (d := x.1) fun r hr k => by have := h.head r hr; omega]
      · refine ⟨e, List.mem_cons_of_mem _ he, ?_⟩
        rw [bal_cons, bal_cons, if_pos hx, if_pos (by have := h.head e he; omega), h1]
    · refine .inl (bal_none fun r hr k => ?_)
      rcases List.mem_cons.1 hr with rfl | hr
      · exact hx k
      · have := h.head r hr; omega
/-- The groups' sums and balances tell of all days. -/
theorem fit_of_groups {g : List (Int × List Int)} {l : List (Int × Int)} (h : IsG g l) (hs : ∀ x ∈ g, amtD (chg l x.1) ∧ amtD (bal l x.1)) : FitD l := by
  have he : ∀ d, chg (g.map fun x => (x.1, x.2.sum)) d = chg l d := by
    intro d
    by_cases ht : ∃ x ∈ g, x.1 = d
    · obtain ⟨x, hx, rfl⟩ := ht
      rw [chg_rise (es := g.map fun x => (x.1, x.2.sum)) h.rise.sums (e := (x.1, x.2.sum)) (List.mem_map.2 ⟨x, hx, rfl⟩), h.sum x hx]
    · rw [chg_none fun r hr k => by
        obtain ⟨x, hx, rfl⟩ := List.mem_map.1 hr
        exact ht ⟨x, hx, k⟩, chg_none fun r hr k => by
        obtain ⟨x, hx, ex⟩ := h.there r hr
        exact ht ⟨x, hx, ex.trans k⟩]
  have zero : amtD 0 := ⟨by decide, by decide⟩
  intro d
  refine ⟨?_, ?_⟩
  · by_cases ht : ∃ x ∈ g, x.1 = d
    · obtain ⟨x, hx, rfl⟩ := ht
      exact (hs x hx).1
    · rw [chg_none fun r hr k => by
        obtain ⟨x, hx, ex⟩ := h.there r hr
        exact ht ⟨x, hx, ex.trans k⟩]
      exact zero
  · rw [← bal_congr he d]
    rcases bal_last (es := g.map fun x => (x.1, x.2.sum)) h.rise.sums d with h0 | ⟨e, hm, h1⟩
    · rw [h0]; exact zero
    · obtain ⟨x, hx, rfl⟩ := List.mem_map.1 hm
      rw [h1, bal_congr he]
      exact (hs x hx).2
end Go.Proofs.YtejmndfdmikfaaaDoor.Kit
