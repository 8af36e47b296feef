/- Sums by definition: own balances by name, and what stands at and below each. No program in sight. -/
namespace Go.Proofs.YtejmndfdmikfaaaDoor.Kit

/-! ### Sums over names -/
def tot (K : List (List UInt8)) (f : List UInt8 → Int) : Int := (K.map f).sum
theorem tot_nil (f : List UInt8 → Int) : tot [] f = 0 := rfl
theorem tot_cons (k : List UInt8) (K : List (List UInt8)) (f : List UInt8 → Int) : tot (k :: K) f = f k + tot K f := by simp [tot]
theorem tot_app (K L : List (List UInt8)) (f : List UInt8 → Int) : tot (K ++ L) f = tot K f + tot L f := by simp [tot]
theorem tot_congr {K : List (List UInt8)} {f g : List UInt8 → Int} (h : ∀ k ∈ K, f k = g k) : tot K f = tot K g := by
  unfold tot
  rw [List.map_congr_left h]
theorem tot_zero {K : List (List UInt8)} {f : List UInt8 → Int} (h : ∀ k ∈ K, f k = 0) : tot K f = 0 := by
  induction K with
  | nil => rfl
  | cons k K ih => rw [tot_cons, h k (List.mem_cons_self ..), ih (fun x hx => h x (List.mem_cons_of_mem _ hx))]; rfl
theorem tot_add (K : List (List UInt8)) (f g : List UInt8 → Int) : tot K (fun k => f k + g k) = tot K f + tot K g := by
  induction K with
  | nil => rfl
  | cons k K ih => rw [tot_cons, tot_cons, tot_cons, ih]; omega
theorem tot_sub (K : List (List UInt8)) (f g : List UInt8 → Int) : tot K (fun k => f k - g k) = tot K f - tot K g := by
  induction K with
  | nil => rfl
  | cons k K ih => rw [tot_cons, tot_cons, tot_cons, ih]; omega
theorem tot_le {K : List (List UInt8)} {f g : List UInt8 → Int} (h : ∀ k ∈ K, f k ≤ g k) : tot K f ≤ tot K g := by
  induction K with
  | nil => exact Int.le_refl _
  | cons k K ih =>
    have h1 := h k (List.mem_cons_self ..)
    have h2 := ih (fun x hx => h x (List.mem_cons_of_mem _ hx))
    rw [tot_cons, tot_cons]
    omega
theorem tot_perm {K L : List (List UInt8)} (f : List UInt8 → Int) (h : K.Perm L) : tot K f = tot L f := by
  induction h with
  | nil => rfl
  | cons x _ ih => rw [tot_cons, tot_cons, ih]
  | swap x y l => rw [tot_cons, tot_cons, tot_cons, tot_cons]; omega
  | trans _ _ h1 h2 => exact h1.trans h2
theorem tot_filter {K : List (List UInt8)} (f : List UInt8 → Int) (p : List UInt8 → Bool) (h : ∀ k ∈ K, p k = false → f k = 0) : tot (K.filter p) f = tot K f := by
  induction K with
  | nil => rfl
  | cons k K ih =>
    have ih := ih (fun x hx => h x (List.mem_cons_of_mem _ hx))
    rw [tot_cons, List.filter_cons]
    split
    · rw [tot_cons, ih]
    · rw [ih, h k (List.mem_cons_self ..) (by simpa using ‹¬ p k = true›)]
      omega
/-- It does not matter by which names: those at which something stands. -/
theorem tot_any {K L : List (List UInt8)} {f : List UInt8 → Int} (hK : K.Nodup) (hL : L.Nodup) (h : ∀ k, f k ≠ 0 → (k ∈ K ↔ k ∈ L)) : tot K f = tot L f := by
  rw [← tot_filter (K := K) f (fun k => f k != 0) (fun k _ hk => by simpa using hk), ← tot_filter (K := L) f (fun k => f k != 0) (fun k _ hk => by simpa using hk)]
  refine tot_perm f ((List.perm_ext_iff_of_nodup (hK.sublist List.filter_sublist) (hL.sublist List.filter_sublist)).2 fun k => ?_)
  rw [List.mem_filter, List.mem_filter]
  by_cases hf : f k = 0
  · simp [hf]
  · simp only [bne_iff_ne, ne_eq, hf, not_false_eq_true, and_true]
    exact h k hf
/-- Names once each, those of the two lists. -/
def names2 (K L : List (List UInt8)) : List (List UInt8) := K ++ L.filter (fun k => !K.contains k)
theorem names2_nodup {K L : List (List UInt8)} (hK : K.Nodup) (hL : L.Nodup) : (names2 K L).Nodup := by
  unfold names2
  rw [List.nodup_append]
  refine ⟨hK, hL.sublist List.filter_sublist, fun a ha b hb e => ?_⟩
  subst e
  simp [List.mem_filter] at hb
  exact hb.2 ha
theorem mem_names2 {K L : List (List UInt8)} {k : List UInt8} : k ∈ names2 K L ↔ k ∈ K ∨ k ∈ L := by
  unfold names2
  rw [List.mem_append, List.mem_filter]
  by_cases h : k ∈ K <;> simp [h]
/-- Two sums exchanged. -/
theorem tot_swap (K L : List (List UInt8)) (f : List UInt8 → List UInt8 → Int) : tot K (fun k => tot L (fun l => f k l)) = tot L (fun l => tot K (fun k => f k l)) := by
  induction K with
  | nil => rw [tot_nil, tot_zero (fun _ _ => tot_nil _)]
  | cons k K ih =>
    rw [tot_cons, ih, ← tot_add]
    exact tot_congr fun l _ => (tot_cons k K (fun k => f k l)).symm
/-- Just one of them counts. -/
theorem tot_one {L : List (List UInt8)} (hL : L.Nodup) {c : List UInt8} {f : List UInt8 → Int} (h : ∀ l ∈ L, l ≠ c → f l = 0) : tot L f = if c ∈ L then f c else 0 := by
  induction L with
  | nil => simp [tot_nil]
  | cons l L ih =>
    rw [List.nodup_cons] at hL
    have ih := ih hL.2 (fun x hx => h x (List.mem_cons_of_mem _ hx))
    rw [tot_cons, ih]
    by_cases hl : l = c
    · subst hl
      rw [if_neg hL.1, if_pos (List.mem_cons_self ..)]
      omega
    · rw [h l (List.mem_cons_self ..) hl]
      by_cases hc : c ∈ L
      · rw [if_pos hc, if_pos (List.mem_cons_of_mem _ hc)]; omega
      · rw [if_neg hc, if_neg (fun hm => (List.mem_cons.1 hm).elim (fun e => hl e.symm) hc)]; rfl

/-! ### The tree of names -/
/-- k is n or below it. -/
def under (n k : List UInt8) : Bool := k == n || (n ++ [58]).isPrefixOf k
theorem under_iff {n k : List UInt8} : under n k = true ↔ k = n ∨ ∃ r, k = n ++ 58 :: r := by
  unfold under
  rw [Bool.or_eq_true, beq_iff_eq, List.isPrefixOf_iff_prefix]
  constructor
  · rintro (h | ⟨r, h⟩)
    · exact .inl h
    · exact .inr ⟨r, by rw [← h]; simp⟩
  · rintro (h | ⟨r, h⟩)
    · exact .inl h
    · exact .inr ⟨r, by rw [h]; simp⟩
theorem under_self (n : List UInt8) : under n n = true := under_iff.2 (.inl rfl)
/-- Below n, and no name between. -/
def kid (n c : List UInt8) : Bool := (n ++ [58]).isPrefixOf c && !(c.drop (n.length + 1)).contains 58
theorem kid_iff {n c : List UInt8} : kid n c = true ↔ ∃ r, c = n ++ 58 :: r ∧ 58 ∉ r := by
  unfold kid
  rw [Bool.and_eq_true, List.isPrefixOf_iff_prefix]
  constructor
  · rintro ⟨⟨r, h⟩, h2⟩
    refine ⟨r, by rw [← h]; simp, ?_⟩
    have : c.drop (n.length + 1) = r := by rw [← h, show n.length + 1 = (n ++ [58]).length by simp, List.drop_left]
    rw [this] at h2
    simpa using h2
  · rintro ⟨r, rfl, h⟩
    refine ⟨⟨r, by simp⟩, ?_⟩
    have : (n ++ 58 :: r).drop (n.length + 1) = r := by
      rw [show n ++ 58 :: r = (n ++ [58]) ++ r by simp, show n.length + 1 = (n ++ [58]).length by simp, List.drop_left]
    rw [this]
    simpa using h
/-- The first part. -/
def part1 (r : List UInt8) : List UInt8 := r.takeWhile (· != 58)
theorem part1_no (r : List UInt8) : 58 ∉ part1 r := by
  unfold part1
  induction r with
  | nil => simp
  | cons x r ih =>
    rw [List.takeWhile_cons]
    split
    · rename_i h
      rw [List.mem_cons]
      rintro (e | e)
      · subst e; simp at h
      · exact ih e
    · simp
theorem part1_or (r : List UInt8) : r = part1 r ∨ ∃ s, r = part1 r ++ 58 :: s := by
  unfold part1
  induction r with
  | nil => simp
  | cons x r ih =>
    by_cases hx : x = 58
    · subst hx; exact .inr ⟨r, by simp⟩
    · rw [List.takeWhile_cons, if_pos (by simpa using hx)]
      rcases ih with h | ⟨s, h⟩
      · exact .inl (by rw [← h])
      · exact .inr ⟨s, by rw [List.cons_append, ← h]⟩
theorem part1_of {p : List UInt8} (hp : 58 ∉ p) {r : List UInt8} (h : r = p ∨ ∃ s, r = p ++ 58 :: s) : part1 r = p := by
  unfold part1
  rcases h with rfl | ⟨s, rfl⟩
  · have := List.takeWhile_append_of_pos (p := (· != (58 : UInt8))) (l₁ := r) (l₂ := []) (fun x hx => by simp only [bne_iff_ne, ne_eq]; rintro rfl; exact hp hx)
    simpa using this
  · rw [List.takeWhile_append_of_pos (fun x hx => by simp only [bne_iff_ne, ne_eq]; rintro rfl; exact hp hx)]
    simp
/-- Right below n on the way to k. -/
def toward (n k : List UInt8) : List UInt8 := n ++ 58 :: part1 (k.drop (n.length + 1))
theorem toward_kid (n k : List UInt8) : kid n (toward n k) = true := kid_iff.2 ⟨_, rfl, part1_no _⟩
theorem drop_sep (n r : List UInt8) : (n ++ 58 :: r).drop (n.length + 1) = r := by
  rw [show n ++ 58 :: r = (n ++ [58]) ++ r by simp, show n.length + 1 = (n ++ [58]).length by simp, List.drop_left]
theorem kid_under {n c k : List UInt8} (hc : kid n c = true) : under c k = true ↔ k ≠ n ∧ under n k = true ∧ c = toward n k := by
  obtain ⟨p, rfl, hp⟩ := kid_iff.1 hc
  constructor
  · intro h
    obtain ⟨r, hk, hr⟩ : ∃ r, k = n ++ 58 :: r ∧ (r = p ∨ ∃ s, r = p ++ 58 :: s) := by
      rcases under_iff.1 h with rfl | ⟨s, rfl⟩
      · exact ⟨p, rfl, .inl rfl⟩
      · exact ⟨p ++ 58 :: s, by simp, .inr ⟨s, rfl⟩⟩
    subst hk
    refine ⟨fun e => ?_, under_iff.2 (.inr ⟨r, rfl⟩), ?_⟩
    · have := congrArg List.length e
      simp at this
    · unfold toward
      rw [drop_sep, part1_of hp hr]
  · rintro ⟨h1, h2, h3⟩
    rcases under_iff.1 h2 with rfl | ⟨r, rfl⟩
    · exact absurd rfl h1
    · have e : p = part1 r := by
        unfold toward at h3
        rw [drop_sep] at h3
        simpa using h3
      subst e
      refine under_iff.2 ?_
      rcases part1_or r with h | ⟨s, h⟩
      · exact .inl (by rw [← h])
      · exact .inr ⟨s, by rw [List.append_assoc, List.cons_append, ← h]⟩
/-- A root. -/
def root (c : List UInt8) : Bool := !c.contains 58
theorem root_under {c k : List UInt8} (hc : root c = true) : under c k = true ↔ c = part1 k := by
  have hp : 58 ∉ c := by simpa [root] using hc
  rw [under_iff]
  constructor
  · intro h
    exact (part1_of hp h).symm
  · rintro rfl
    exact part1_or k
theorem part1_root (k : List UInt8) : root (part1 k) = true := by
  have := part1_no k
  simpa [root] using this

/-! ### The view -/
/-- What stands at and below a name. -/
def rollup (K : List (List UInt8)) (O : List UInt8 → Int) (n : List UInt8) : Int := tot K fun k => if under n k = true then O k else 0
/-- How many own balances that are not 0 stand at and below a name. -/
def count (K : List (List UInt8)) (O : List UInt8 → Int) (n : List UInt8) : Int := tot K fun k => if under n k = true ∧ O k ≠ 0 then 1 else 0
def debits (K : List (List UInt8)) (O : List UInt8 → Int) : Int := tot K fun k => if 0 < O k then O k else 0
def credits (K : List (List UInt8)) (O : List UInt8 → Int) : Int := tot K fun k => if 0 < O k then 0 else - O k
/-- All at which something stands. -/
def Covers (K : List (List UInt8)) (O : List UInt8 → Int) : Prop := K.Nodup ∧ ∀ k, O k ≠ 0 → k ∈ K
theorem rollup_any {K L : List (List UInt8)} {O : List UInt8 → Int} (hK : Covers K O) (hL : Covers L O) (n : List UInt8) : rollup K O n = rollup L O n :=
  tot_any hK.1 hL.1 fun k h => by
    have : O k ≠ 0 := fun e => h (by simp [e])
    exact ⟨fun _ => hL.2 k this, fun _ => hK.2 k this⟩
theorem count_any {K L : List (List UInt8)} {O : List UInt8 → Int} (hK : Covers K O) (hL : Covers L O) (n : List UInt8) : count K O n = count L O n :=
  tot_any hK.1 hL.1 fun k h => by
    have : O k ≠ 0 := fun e => h (by simp [e])
    exact ⟨fun _ => hL.2 k this, fun _ => hK.2 k this⟩
theorem debits_any {K L : List (List UInt8)} {O : List UInt8 → Int} (hK : Covers K O) (hL : Covers L O) : debits K O = debits L O :=
  tot_any hK.1 hL.1 fun k h => by
    have : O k ≠ 0 := fun e => h (by simp [e])
    exact ⟨fun _ => hL.2 k this, fun _ => hK.2 k this⟩
theorem credits_any {K L : List (List UInt8)} {O : List UInt8 → Int} (hK : Covers K O) (hL : Covers L O) : credits K O = credits L O :=
  tot_any hK.1 hL.1 fun k h => by
    have : O k ≠ 0 := fun e => h (by simp [e])
    exact ⟨fun _ => hL.2 k this, fun _ => hK.2 k this⟩
theorem count_pos {K : List (List UInt8)} {O : List UInt8 → Int} (hK : Covers K O) {n : List UInt8} : count K O n ≠ 0 ↔ ∃ k, O k ≠ 0 ∧ under n k = true := by
  have key : ∀ L : List (List UInt8), 0 ≤ count L O n ∧ (count L O n ≠ 0 ↔ ∃ k ∈ L, O k ≠ 0 ∧ under n k = true) := by
    intro L
    induction L with
    | nil => simp [count, tot_nil]
    | cons l L ih =>
      unfold count at *
      rw [tot_cons]
      by_cases h : under n l = true ∧ O l ≠ 0
      · rw [if_pos h]
        refine ⟨by omega, fun _ => ⟨l, List.mem_cons_self .., h.2, h.1⟩, fun _ => by omega⟩
      · rw [if_neg h]
        refine ⟨by omega, ?_⟩
        rw [Int.zero_add, ih.2]
        constructor
        · rintro ⟨k, h1, h2⟩
          exact ⟨k, List.mem_cons_of_mem _ h1, h2⟩
        · rintro ⟨k, h1, h2⟩
          rcases List.mem_cons.1 h1 with rfl | h1
          · exact absurd ⟨h2.2, h2.1⟩ h
          · exact ⟨k, h1, h2⟩
  rw [(key K).2]
  exact ⟨fun ⟨k, _, h⟩ => ⟨k, h⟩, fun ⟨k, h⟩ => ⟨k, hK.2 k h.1, h⟩⟩
/-- Some of a name's kids, and what stands at them and below. -/
theorem kids_part {K N : List (List UInt8)} {O : List UInt8 → Int} (hK : Covers K O) (hN : N.Nodup) (n : List UInt8) :
    (O n + tot N fun c => if kid n c = true then rollup K O c else 0) = tot K fun k => if k = n ∨ (under n k = true ∧ toward n k ∈ N) then O k else 0 := by
  have h1 : tot N (fun c => if kid n c = true then rollup K O c else 0) = tot N (fun c => tot K (fun k => if kid n c = true ∧ under c k = true then O k else 0)) := by
    refine tot_congr fun c _ => ?_
    by_cases hc : kid n c = true
    · rw [if_pos hc]
      exact tot_congr fun k _ => by simp [hc]
    · rw [if_neg hc, tot_zero (fun k _ => by simp [hc])]
  have h2 : tot N (fun c => tot K (fun k => if kid n c = true ∧ under c k = true then O k else 0)) = tot K (fun k => if k ≠ n ∧ under n k = true ∧ toward n k ∈ N then O k else 0) := by
    rw [tot_swap]
    refine tot_congr fun k _ => ?_
    by_cases h : k ≠ n ∧ under n k = true
    · rw [tot_one (c := toward n k) hN]
      · have hu : under (toward n k) k = true := (kid_under (toward_kid n k)).2 ⟨h.1, h.2, rfl⟩
        by_cases hm : toward n k ∈ N
        · rw [if_pos hm, if_pos ⟨toward_kid n k, hu⟩, if_pos ⟨h.1, h.2, hm⟩]
        · rw [if_neg hm, if_neg (fun e => hm e.2.2)]
      · intro c _ hne
        rw [if_neg]
        rintro ⟨hc, hu⟩
        exact hne ((kid_under hc).1 hu).2.2
    · rw [if_neg (fun e => h ⟨e.1, e.2.1⟩), tot_zero]
      intro c _
      rw [if_neg]
      rintro ⟨hc, hu⟩
      exact h ⟨((kid_under hc).1 hu).1, ((kid_under hc).1 hu).2.1⟩
  have h3 : O n = tot K (fun k => if k = n then O k else 0) := by
    rw [tot_one (c := n) hK.1 (fun l _ hl => by rw [if_neg hl])]
    by_cases ho : O n = 0
    · simp [ho]
    · rw [if_pos (hK.2 n ho), if_pos rfl]
  rw [h1, h2, h3, ← tot_add]
  refine tot_congr fun k _ => ?_
  by_cases hk : k = n
  · subst hk; simp
  · simp [hk]
/-- The tree adds up. -/
theorem rollup_kids {K N : List (List UInt8)} {O : List UInt8 → Int} (hK : Covers K O) (hN : N.Nodup) (hm : ∀ n, n ∈ N ↔ ∃ k, O k ≠ 0 ∧ under n k = true) (n : List UInt8) :
    rollup K O n = O n + tot N fun c => if kid n c = true then rollup K O c else 0 := by
  rw [kids_part hK hN]
  refine tot_congr fun k _ => ?_
  by_cases ho : O k = 0
  · simp [ho]
  by_cases hk : k = n
  · subst hk; simp [under_self]
  by_cases hu : under n k = true
  · have : toward n k ∈ N := (hm _).2 ⟨k, ho, (kid_under (toward_kid n k)).2 ⟨hk, hu, rfl⟩⟩
    simp [hu, this]
  · simp [hu, hk]
theorem roots_part {K N : List (List UInt8)} {O : List UInt8 → Int} (hN : N.Nodup) :
    (tot N fun c => if root c = true then rollup K O c else 0) = tot K fun k => if part1 k ∈ N then O k else 0 := by
  have h1 : tot N (fun c => if root c = true then rollup K O c else 0) = tot N (fun c => tot K (fun k => if root c = true ∧ under c k = true then O k else 0)) := by
    refine tot_congr fun c _ => ?_
    by_cases hc : root c = true
    · rw [if_pos hc]
      exact tot_congr fun k _ => by simp [hc]
    · rw [if_neg hc, tot_zero (fun k _ => by simp [hc])]
  rw [h1, tot_swap]
  refine tot_congr fun k _ => ?_
  have hu : under (part1 k) k = true := (root_under (part1_root k)).2 rfl
  rw [tot_one (c := part1 k) hN]
  · rw [if_pos (show root (part1 k) = true ∧ under (part1 k) k = true from ⟨part1_root k, hu⟩)]
  · intro c _ hne
    rw [if_neg]
    rintro ⟨hc, hu⟩
    exact hne ((root_under hc).1 hu)
theorem rollup_roots {K N : List (List UInt8)} {O : List UInt8 → Int} (hN : N.Nodup) (hm : ∀ n, n ∈ N ↔ ∃ k, O k ≠ 0 ∧ under n k = true) :
    (tot N fun c => if root c = true then rollup K O c else 0) = tot K O := by
  rw [roots_part hN]
  refine tot_congr fun k _ => ?_
  by_cases ho : O k = 0
  · simp [ho]
  · rw [if_pos ((hm _).2 ⟨k, ho, (root_under (part1_root k)).2 rfl⟩)]
theorem sides_diff (K : List (List UInt8)) (O : List UInt8 → Int) : debits K O - credits K O = tot K O := by
  unfold debits credits
  rw [← tot_sub]
  exact tot_congr fun k _ => by split <;> omega
/-! ### What acts make of it -/
def setO (O : List UInt8 → Int) (n : List UInt8) (a : Int) : List UInt8 → Int := fun k => if k = n then a else O k
theorem setO_self (O : List UInt8 → Int) (n : List UInt8) (a : Int) : setO O n a n = a := if_pos rfl
theorem setO_ne {O : List UInt8 → Int} {n k : List UInt8} (a : Int) (h : k ≠ n) : setO O n a k = O k := if_neg h
theorem Covers.set {K : List (List UInt8)} {O : List UInt8 → Int} (h : Covers K O) (n : List UInt8) (a : Int) : Covers (names2 K [n]) (setO O n a) :=
  ⟨names2_nodup h.1 (by simp), fun k hk => mem_names2.2 (by
    by_cases e : k = n
    · exact .inr (by simp [e])
    · rw [setO_ne a e] at hk; exact .inl (h.2 k hk))⟩
theorem Covers.wide {K L : List (List UInt8)} {O : List UInt8 → Int} (h : Covers K O) (hL : L.Nodup) : Covers (names2 K L) O := ⟨names2_nodup h.1 hL, fun k hk => mem_names2.2 (.inl (h.2 k hk))⟩
/-- One balance set: a sum over all changes by the one. -/
theorem tot_set {K L : List (List UInt8)} {O : List UInt8 → Int} {n : List UInt8} {a : Int} (g : List UInt8 → Int → Int) (hg : ∀ k, g k 0 = 0) (hK : Covers K O) (hL : Covers L (setO O n a)) :
    tot L (fun k => g k (setO O n a k)) = tot K (fun k => g k (O k)) - g n (O n) + g n a := by
  have h1 : tot L (fun k => g k (setO O n a k)) = tot (names2 K [n]) (fun k => g k (setO O n a k)) :=
    tot_any hL.1 (hK.set n a).1 fun k hk => by
      have : setO O n a k ≠ 0 := fun e => hk (by rw [e]; exact hg k)
      exact ⟨fun _ => (hK.set n a).2 k this, fun _ => hL.2 k this⟩
  have hW := hK.wide (L := [n]) (by simp)
  have h2 : tot K (fun k => g k (O k)) = tot (names2 K [n]) (fun k => g k (O k)) :=
    tot_any hK.1 hW.1 fun k hk => by
      have : O k ≠ 0 := fun e => hk (by rw [e]; exact hg k)
      exact ⟨fun _ => hW.2 k this, fun _ => hK.2 k this⟩
  have h3 : tot (names2 K [n]) (fun k => g k (setO O n a k) - g k (O k)) = g n a - g n (O n) := by
    rw [tot_one (c := n) hW.1 (fun l _ hl => by rw [setO_ne a hl]; omega), if_pos (mem_names2.2 (.inr (by simp))), setO_self]
  rw [tot_sub] at h3
  rw [h1, h2]
  omega
theorem rollup_set {K L : List (List UInt8)} {O : List UInt8 → Int} {n : List UInt8} {a : Int} (hK : Covers K O) (hL : Covers L (setO O n a)) (m : List UInt8) :
    rollup L (setO O n a) m = rollup K O m + if under m n = true then a - O n else 0 := by
  have := tot_set (fun k v => if under m k = true then v else 0) (fun k => by simp) hK hL
  unfold rollup
  rw [this]
  split <;> omega
theorem count_set {K L : List (List UInt8)} {O : List UInt8 → Int} {n : List UInt8} {a : Int} (hK : Covers K O) (hL : Covers L (setO O n a)) (m : List UInt8) :
    count L (setO O n a) m = count K O m + if under m n = true then (if a ≠ 0 then 1 else 0) - (if O n ≠ 0 then 1 else 0) else 0 := by
  have := tot_set (fun k v => if under m k = true ∧ v ≠ 0 then 1 else 0) (fun k => by simp) hK hL
  unfold count
  rw [this]
  by_cases h : under m n = true <;> simp [h] <;> omega
/-- Rows: names and amounts. -/
def rowsAt (rows : List (List UInt8 × Int)) (n : List UInt8) : Int := ((rows.filter (fun r => r.1 == n)).map (·.2)).sum
def plusO (O D : List UInt8 → Int) : List UInt8 → Int := fun k => O k + D k
theorem rowsAt_nil (n : List UInt8) : rowsAt [] n = 0 := rfl
theorem rowsAt_cons (r : List UInt8 × Int) (rows : List (List UInt8 × Int)) (n : List UInt8) : rowsAt (r :: rows) n = (if r.1 = n then r.2 else 0) + rowsAt rows n := by
  unfold rowsAt
  rw [List.filter_cons]
  by_cases h : r.1 = n <;> simp [h]
theorem rowsAt_app (a b : List (List UInt8 × Int)) (n : List UInt8) : rowsAt (a ++ b) n = rowsAt a n + rowsAt b n := by
  unfold rowsAt; simp
theorem rowsAt_perm {a b : List (List UInt8 × Int)} (h : a.Perm b) (n : List UInt8) : rowsAt a n = rowsAt b n := by
  induction h with
  | nil => rfl
  | cons x _ ih => rw [rowsAt_cons, rowsAt_cons, ih]
  | swap x y l => rw [rowsAt_cons, rowsAt_cons, rowsAt_cons, rowsAt_cons]; omega
  | trans _ _ h1 h2 => exact h1.trans h2
theorem rowsAt_neg (a : List (List UInt8 × Int)) (n : List UInt8) : rowsAt (a.map (fun r => (r.1, -r.2))) n = - rowsAt a n := by
  induction a with
  | nil => rfl
  | cons r a ih => rw [List.map_cons, rowsAt_cons, rowsAt_cons, ih]; dsimp only; split <;> omega
theorem rowsAt_none {a : List (List UInt8 × Int)} {n : List UInt8} (h : ∀ r ∈ a, r.1 ≠ n) : rowsAt a n = 0 := by
  induction a with
  | nil => rfl
  | cons r a ih => rw [rowsAt_cons, if_neg (h r (List.mem_cons_self ..)), ih (fun x hx => h x (List.mem_cons_of_mem _ hx))]; rfl
/-- The rows' names, once each. -/
def rowNames : List (List UInt8 × Int) → List (List UInt8)
  | [] => []
  | r :: l => names2 [r.1] (rowNames l)
theorem rowNames_nodup : ∀ l : List (List UInt8 × Int), (rowNames l).Nodup
  | [] => List.nodup_nil
  | r :: l => names2_nodup (by simp) (rowNames_nodup l)
theorem mem_rowNames {l : List (List UInt8 × Int)} {n : List UInt8} : n ∈ rowNames l ↔ ∃ r ∈ l, r.1 = n := by
  induction l with
  | nil => simp [rowNames]
  | cons r l ih =>
    rw [rowNames, mem_names2, ih]
    simp [eq_comm]
theorem Covers.plus {K : List (List UInt8)} {O : List UInt8 → Int} (h : Covers K O) (rows : List (List UInt8 × Int)) : Covers (names2 K (rowNames rows)) (plusO O (rowsAt rows)) :=
  ⟨names2_nodup h.1 (rowNames_nodup _), fun k hk => mem_names2.2 (by
    by_cases ho : O k = 0
    · refine .inr (mem_rowNames.2 (Classical.byContradiction fun hn => hk ?_))
      unfold plusO
      rw [ho, rowsAt_none (fun r hr e => hn ⟨r, hr, e⟩)]
      rfl
    · exact .inl (h.2 k ho))⟩
theorem Covers.rows (rows : List (List UInt8 × Int)) : Covers (rowNames rows) (rowsAt rows) :=
  ⟨rowNames_nodup _, fun _ hk => mem_rowNames.2 (Classical.byContradiction fun hn => hk (rowsAt_none (fun r hr e => hn ⟨r, hr, e⟩)))⟩
/-- All rows' sum is the sum over the names. -/
theorem tot_rows {K : List (List UInt8)} (rows : List (List UInt8 × Int)) (h : Covers K (rowsAt rows)) : tot K (rowsAt rows) = (rows.map (·.2)).sum := by
  have key : ∀ (rows : List (List UInt8 × Int)) (K : List (List UInt8)), K.Nodup → (∀ r ∈ rows, r.1 ∈ K) → tot K (rowsAt rows) = (rows.map (·.2)).sum := by
    intro rows K hK
    induction rows with
    | nil => intro _; exact tot_zero fun _ _ => rfl
    | cons r rows ih =>
      intro hm
      rw [tot_congr (fun k _ => rowsAt_cons r rows k), tot_add, ih (fun x hx => hm x (List.mem_cons_of_mem _ hx)), tot_one (c := r.1) hK (fun l _ hl => by rw [if_neg (fun e => hl e.symm)]), if_pos (hm r (List.mem_cons_self ..)), if_pos rfl]
      simp
  have hR := Covers.rows rows
  rw [tot_any h.1 hR.1 (fun k hk => ⟨fun _ => hR.2 k hk, fun _ => h.2 k hk⟩)]
  exact key rows _ hR.1 fun r hr => mem_rowNames.2 ⟨r, hr, rfl⟩
/-- No amount is too big. -/
def top : Int := 9223372036854775807
def Fits (K : List (List UInt8)) (O : List UInt8 → Int) : Prop := (∀ k, -top ≤ O k ∧ O k ≤ top) ∧ debits K O ≤ top ∧ credits K O ≤ top
/-- Whatever part of the balances is added up. -/
theorem part_fits {K : List (List UInt8)} {O : List UInt8 → Int} (h : Fits K O) (p : List UInt8 → Prop) [DecidablePred p] : -top ≤ (tot K fun k => if p k then O k else 0) ∧ (tot K fun k => if p k then O k else 0) ≤ top := by
  have h1 : (tot K fun k => if p k then O k else 0) ≤ debits K O := tot_le fun k _ => by split <;> split <;> omega
  have h2 : - (tot K fun k => if p k then O k else 0) ≤ credits K O := by
    have : - (tot K fun k => if p k then O k else 0) = tot K (fun k => 0 - if p k then O k else 0) := by
      rw [tot_sub, tot_zero (f := fun _ => 0) (fun _ _ => rfl)]; omega
    rw [this]
    exact tot_le fun k _ => by split <;> split <;> omega
  have := h.2
  omega
theorem rollup_fits {K : List (List UInt8)} {O : List UInt8 → Int} (h : Fits K O) (n : List UInt8) : -top ≤ rollup K O n ∧ rollup K O n ≤ top := part_fits h _
theorem Fits.any {K L : List (List UInt8)} {O : List UInt8 → Int} (h : Fits K O) (hK : Covers K O) (hL : Covers L O) : Fits L O := ⟨h.1, by rw [← debits_any hK hL]; exact h.2.1, by rw [← credits_any hK hL]; exact h.2.2⟩
/-- Taken back. -/
theorem plusO_back (O : List UInt8 → Int) (rows : List (List UInt8 × Int)) : plusO (plusO O (rowsAt rows)) (rowsAt (rows.map (fun r => (r.1, -r.2)))) = O := by
  funext k
  unfold plusO
  rw [rowsAt_neg]
  omega
/-- Rows elsewhere do not change what stands at and below a name. -/
theorem rollup_elsewhere {K L : List (List UInt8)} {O : List UInt8 → Int} {rows : List (List UInt8 × Int)} {n : List UInt8} (hK : Covers K O) (hL : Covers L (plusO O (rowsAt rows))) (h : ∀ r ∈ rows, under n r.1 = false) : rollup L (plusO O (rowsAt rows)) n = rollup K O n := by
  have hW := hK.plus rows
  rw [rollup_any hL hW, rollup_any hK (hK.wide (rowNames_nodup rows))]
  refine tot_congr fun k _ => ?_
  by_cases hk : under n k = true
  · rw [if_pos hk, if_pos hk]
    unfold plusO
    rw [rowsAt_none (fun r hr e => by have := h r hr; rw [e, hk] at this; cases this)]
    omega
  · rw [if_neg hk, if_neg hk]
/-! ### From a name up to its root -/
/-- What stands ahead of the last colon. -/
def above : List UInt8 → Option (List UInt8)
  | [] => none
  | x :: s => match above s with
    | some p => some (x :: p)
    | none => if x = 58 then some [] else none
theorem above_none {s : List UInt8} : above s = none ↔ 58 ∉ s := by
  induction s with
  | nil => simp [above]
  | cons x s ih =>
    rw [above]
    cases h : above s with
    | some p =>
      have : 58 ∈ s := Classical.byContradiction fun hn => by rw [ih.2 hn] at h; cases h
      simp [this]
    | none =>
      have h1 := ih.1 h
      by_cases hx : x = 58
      · subst hx; simp
      · simp [hx, h1, eq_comm]
theorem above_some {s p : List UInt8} : above s = some p ↔ ∃ q, s = p ++ 58 :: q ∧ 58 ∉ q := by
  induction s generalizing p with
  | nil => simp [above]
  | cons x s ih =>
    rw [above]
    cases h : above s with
    | some p' =>
      obtain ⟨q', hq, hn⟩ := ih.1 h
      constructor
      · intro e
        cases e
        exact ⟨q', by rw [hq]; rfl, hn⟩
      · rintro ⟨q, e, hq2⟩
        cases p with
        | nil =>
          simp only [List.nil_append, List.cons.injEq] at e
          exact absurd (by rw [← e.2, hq]; simp) hq2
        | cons y p =>
          simp only [List.cons_append, List.cons.injEq] at e
          have h2 := ih.2 ⟨q, e.2, hq2⟩
          rw [h] at h2
          rw [e.1, Option.some.inj h2]
    | none =>
      have h1 := above_none.1 h
      by_cases hx : x = 58
      · subst hx
        rw [if_pos rfl]
        constructor
        · intro e; cases e; exact ⟨s, rfl, h1⟩
        · rintro ⟨q, e, hq⟩
          cases p with
          | nil => rfl
          | cons y p => simp only [List.cons_append, List.cons.injEq] at e; exact absurd (by rw [e.2]; simp) h1
      · rw [if_neg hx]
        constructor
        · intro e; cases e
        · rintro ⟨q, e, hq⟩
          cases p with
          | nil => simp only [List.nil_append, List.cons.injEq] at e; exact absurd e.1 hx
          | cons y p => simp only [List.cons_append, List.cons.injEq] at e; exact absurd (by rw [e.2]; simp) h1
theorem above_lt {s p : List UInt8} (h : above s = some p) : p.length < s.length := by
  obtain ⟨q, rfl, _⟩ := above_some.1 h
  simp
/-- A name and all above it. -/
def ups (s : List UInt8) : List (List UInt8) := s :: match _h : above s with
  | some p => ups p
  | none => []
termination_by s.length
decreasing_by exact above_lt (by assumption)
theorem ups_root {s : List UInt8} (h : above s = none) : ups s = [s] := by
  rw [ups]; split
  · rename_i h'; rw [h] at h'; cases h'
  · rfl
theorem ups_step {s p : List UInt8} (h : above s = some p) : ups s = s :: ups p := by
  rw [ups]; split
  · rename_i h'; rw [h] at h'; cases h'; rfl
  · rename_i h'; rw [h] at h'; cases h'
theorem under_above {n s p : List UInt8} (h : above s = some p) : under n s = true ↔ n = s ∨ under n p = true := by
  obtain ⟨q, rfl, hq⟩ := above_some.1 h
  rw [under_iff, under_iff]
  constructor
  · rintro (e | ⟨r, e⟩)
    · exact .inl e.symm
    · refine .inr ?_
      rcases List.append_eq_append_iff.1 e with ⟨a, h1, h2⟩ | ⟨a, h1, h2⟩
      · cases a with
        | nil => exact .inl (by simpa using h1.symm)
        | cons y a =>
          simp only [List.cons_append, List.cons.injEq] at h2
          exact absurd (by rw [h2.2]; simp) hq
      · cases a with
        | nil => exact .inl (by simpa using h1)
        | cons y a =>
          simp only [List.cons_append, List.cons.injEq] at h2
          exact .inr ⟨a, by rw [h1, ← h2.1]⟩
  · rintro (rfl | e | ⟨r, rfl⟩)
    · exact .inl rfl
    · subst e; exact .inr ⟨q, rfl⟩
    · exact .inr ⟨r ++ 58 :: q, by simp⟩
theorem under_root {n s : List UInt8} (h : above s = none) : under n s = true ↔ n = s := by
  have := above_none.1 h
  rw [under_iff]
  constructor
  · rintro (e | ⟨r, rfl⟩)
    · exact e.symm
    · exact absurd (by simp) this
  · rintro rfl; exact .inl rfl
theorem mem_ups {n : List UInt8} : ∀ (l : Nat) (s : List UInt8), s.length ≤ l → (n ∈ ups s ↔ under n s = true)
  | l, s, hl => by
    cases h : above s with
    | none => rw [ups_root h, under_root h]; simp
    | some p =>
      have hlt := above_lt h
      cases l with
      | zero => omega
      | succ l => rw [ups_step h, under_above h, List.mem_cons, mem_ups l p (by omega)]
/-- Each of them changed once: as far as the walk has come. -/
theorem under_before {n s p : List UInt8} (h : above s = some p) (hn : under n p = true) : n ≠ s := by
  rintro rfl
  have h1 := above_lt h
  rcases under_iff.1 hn with e | ⟨r, e⟩
  · rw [e] at h1; omega
  · rw [e] at h1; simp at h1; omega
/-! ### Lists that rise -/
theorem rise_nodup {l : List (List UInt8)} (h : l.Pairwise (· < ·)) : l.Nodup := by
  refine List.Pairwise.imp (fun {a b} hab => ?_) h
  rintro rfl
  exact List.lt_irrefl _ hab
theorem rise_same {l m : List (List UInt8)} (hl : l.Pairwise (· < ·)) (hm : m.Pairwise (· < ·)) (h : ∀ n, n ∈ l ↔ n ∈ m) : l = m :=
  List.Perm.eq_of_pairwise (le := fun a b => a < b) (fun _ _ _ _ h k => absurd (List.lt_trans h k) (List.lt_irrefl _)) hl hm ((List.perm_ext_iff_of_nodup (rise_nodup hl) (rise_nodup hm)).2 h)
/-- The names that are told. -/
def Told (N : List (List UInt8)) (O : List UInt8 → Int) : Prop := N.Pairwise (· < ·) ∧ ∀ n, n ∈ N ↔ ∃ k, O k ≠ 0 ∧ under n k = true
/-- The names that bear a balance of their own. -/
def Owned (T : List (List UInt8)) (O : List UInt8 → Int) : Prop := T.Pairwise (· < ·) ∧ ∀ n, n ∈ T ↔ O n ≠ 0
theorem Told.same {N M : List (List UInt8)} {O : List UInt8 → Int} (h : Told N O) (k : Told M O) : N = M := rise_same h.1 k.1 fun n => by rw [h.2, k.2]
theorem Owned.of {N T : List (List UInt8)} {O : List UInt8 → Int} (h : Told N O) (k : Owned T O) : T = N.filter (fun n => O n != 0) :=
  rise_same k.1 (h.1.sublist List.filter_sublist) fun n => by
    rw [k.2, List.mem_filter, h.2]
    constructor
    · intro hn; exact ⟨⟨n, hn, under_self n⟩, by simpa using hn⟩
    · rintro ⟨_, hn⟩; simpa using hn
theorem Told.covers {N : List (List UInt8)} {O : List UInt8 → Int} (h : Told N O) : Covers N O := ⟨rise_nodup h.1, fun k hk => (h.2 k).2 ⟨k, hk, under_self k⟩⟩
theorem Told.none {N : List (List UInt8)} {O : List UInt8 → Int} (h : Told N O) (h0 : ∀ k, O k = 0) : N = [] := by
  cases N with
  | nil => rfl
  | cons n N =>
    obtain ⟨k, hk, _⟩ := (h.2 n).1 (List.mem_cons_self ..)
    exact absurd (h0 k) hk
/-- The balances told as rows. -/
theorem rowsAt_list {T : List (List UInt8)} (hT : T.Nodup) (O : List UInt8 → Int) (k : List UInt8) : rowsAt (T.map fun n => (n, O n)) k = if k ∈ T then O k else 0 := by
  induction T with
  | nil => simp [rowsAt_nil]
  | cons n T ih =>
    rw [List.nodup_cons] at hT
    rw [List.map_cons, rowsAt_cons, ih hT.2]
    by_cases h : n = k
    · subst h
      simp [hT.1]
    · have h' : ¬ k = n := fun e => h e.symm
      simp [h, h']
theorem Owned.rows {T : List (List UInt8)} {O : List UInt8 → Int} (h : Owned T O) : rowsAt (T.map fun n => (n, O n)) = O := by
  funext k
  rw [rowsAt_list (rise_nodup h.1)]
  split
  · rfl
  · rename_i hk
    exact (Classical.byContradiction fun hn => hk ((h.2 k).2 (fun e => hn e.symm)))
theorem plusO_zero (D : List UInt8 → Int) : plusO (fun _ => 0) D = D := by
  funext k; exact Int.zero_add _
theorem plusO_app (O : List UInt8 → Int) (a b : List (List UInt8 × Int)) : plusO (plusO O (rowsAt a)) (rowsAt b) = plusO O (rowsAt (a ++ b)) := by
  funext k; unfold plusO; rw [rowsAt_app]; omega
theorem rowsAt_perm' {a b : List (List UInt8 × Int)} (h : a.Perm b) : rowsAt a = rowsAt b := funext (rowsAt_perm h)
end Go.Proofs.YtejmndfdmikfaaaDoor.Kit
