/- Daily's plain law, on: told's rounds; rows of accounts. No program in sight. -/
import Derived.Test.YtejmndfdmikfaaaDoorDailyM
namespace Go.Proofs.YtejmndfdmikfaaaDoor.Kit

/-! ### told, round by round -/
theorem runs_snoc (b : Int) (es : List (Int × Int)) (e : Int × Int) : runs b (es ++ [e]) = runs b es ++ [(e.1, e.2, b + (es.map (·.2)).sum + e.2)] := by
  induction es generalizing b with
  | nil => simp [runs]
  | cons x es ih =>
    rw [List.cons_append, runs, ih, runs, List.cons_append, List.map_cons, List.sum_cons]
    have e2 : b + x.2 + (es.map (·.2)).sum + e.2 = b + (x.2 + (es.map (·.2)).sum) + e.2 := by omega
    rw [e2]
/-- The balance behind k groups, and what is laid down. -/
def balG (g : List (Int × List Int)) (k : Nat) : Int := ((g.take k).map fun x => x.2.sum).sum
def outG (g : List (Int × List Int)) (k : Nat) : List (Int × Int × Int) := runs 0 (((g.take k).map fun x => (x.1, x.2.sum)).filter fun e => e.2 != 0)
theorem outG_zero (g : List (Int × List Int)) : outG g 0 = [] := rfl
theorem balG_zero (g : List (Int × List Int)) : balG g 0 = 0 := rfl
theorem take_get {α : Type} {g : List α} {k : Nat} {x : α} (h : g[k]? = some x) : g.take (k + 1) = g.take k ++ [x] := by rw [List.take_add_one, h]; rfl
theorem sum_filter (es : List (Int × Int)) : ((es.filter fun e => e.2 != 0).map (·.2)).sum = (es.map (·.2)).sum := by
  induction es with
  | nil => rfl
  | cons x es ih =>
    rw [List.filter_cons]
    by_cases h : x.2 = 0
    · rw [if_neg (by simpa using h), ih, List.map_cons, List.sum_cons, h, Int.zero_add]
    · rw [if_pos (by simpa using h), List.map_cons, List.sum_cons, ih, List.map_cons, List.sum_cons]
theorem balG_succ {g : List (Int × List Int)} {k : Nat} {x : Int × List Int} (h : g[k]? = some x) : balG g (k + 1) = balG g k + x.2.sum := by
  unfold balG
  rw [take_get h, List.map_append, List.sum_append]
  simp
theorem outG_succ {g : List (Int × List Int)} {k : Nat} {x : Int × List Int} (h : g[k]? = some x) : outG g (k + 1) = outG g k ++ if x.2.sum = 0 then [] else [(x.1, x.2.sum, balG g k + x.2.sum)] := by
  unfold outG
  rw [take_get h, List.map_append, List.filter_append]
  by_cases h0 : x.2.sum = 0
  · rw [if_pos h0]
    simp [h0]
  · rw [if_neg h0]
    have e : ([x].map fun x => (x.1, x.2.sum)).filter (fun e => e.2 != 0) = [(x.1, x.2.sum)] := by simp [h0]
    rw [e, runs_snoc, sum_filter, List.map_map]
    unfold balG
    rw [Int.zero_add]
    rfl
theorem outG_length (g : List (Int × List Int)) (k : Nat) : (outG g k).length ≤ k := by
  unfold outG
  rw [runs_length]
  have h1 := List.length_filter_le (fun e : Int × Int => e.2 != 0) ((g.take k).map fun x => (x.1, x.2.sum))
  rw [List.length_map, List.length_take] at h1
  omega
theorem outG_all (l : List (Int × Int)) : outG (grp l) (grp l).length = days l := by
  unfold outG days canon
  rw [List.take_length]
theorem bal_rise {es : List (Int × Int)} (h : RiseD es) {k : Nat} {e : Int × Int} (he : es[k]? = some e) : bal es e.1 = ((es.take (k + 1)).map (·.2)).sum := by
  induction es generalizing k with
  | nil => simp at he
  | cons x es ih =>
    rw [bal_cons]
    cases k with
    | zero =>
      simp only [List.getElem?_cons_zero, Option.some.injEq] at he
      subst he
      rw [if_pos (Int.le_refl _), bal_none fun r hr k => by have := h.head r hr; omega]
      simp
    | succ k =>
      rw [List.getElem?_cons_succ] at he
      rw [if_pos (by have := h.head e (List.mem_of_getElem? he); omega), ih h.tail he, List.take_succ_cons, List.map_cons, List.sum_cons]
theorem IsG.chg {g : List (Int × List Int)} {l : List (Int × Int)} (h : IsG g l) (d : Int) : Kit.chg (g.map fun x => (x.1, x.2.sum)) d = Kit.chg l d := by
  by_cases ht : ∃ x ∈ g, x.1 = d
  · obtain ⟨x, hx, rfl⟩ := ht
    rw [chg_rise (es := g.map fun x => (x.1, x.2.sum)) h.rise.sums (e := (x.1, x.2.sum)) (List.mem_map.2 ⟨x, hx, rfl⟩), h.sum x hx]
  · rw [chg_none fun r hr k => by
      obtain ⟨x, hx, rfl⟩ := List.mem_map.1 hr
      exact ht ⟨x, hx, k⟩, chg_none fun r hr k => by
      obtain ⟨x, hx, ex⟩ := h.there r hr
      exact ht ⟨x, hx, ex.trans k⟩]
theorem balG_at {g : List (Int × List Int)} {l : List (Int × Int)} (h : IsG g l) {k : Nat} {x : Int × List Int} (hx : g[k]? = some x) : balG g (k + 1) = bal l x.1 := by
  have h1 : bal (g.map fun x => (x.1, x.2.sum)) x.1 = bal l x.1 := bal_congr h.chg x.1
  have h2 := bal_rise (es := g.map fun x => (x.1, x.2.sum)) h.rise.sums (k := k) (e := (x.1, x.2.sum)) (by rw [List.getElem?_map, hx]; rfl)
  rw [← h1]
  show _ = bal _ x.1
  rw [h2]
  unfold balG
  rw [← List.map_take, List.map_map]
  rfl
theorem fit_groups {g : List (Int × List Int)} {l : List (Int × Int)} (h : IsG g l) (hs : ∀ (k : Nat) x, g[k]? = some x → amtD x.2.sum ∧ amtD (balG g (k + 1))) : FitD l :=
  fit_of_groups h fun x hx => by
    obtain ⟨k, hk⟩ := List.getElem?_of_mem hx
    obtain ⟨h1, h2⟩ := hs k x hk
    rw [h.sum x hx] at h1
    rw [balG_at h hk] at h2
    exact ⟨h1, h2⟩
theorem fit_at {g : List (Int × List Int)} {l : List (Int × Int)} (h : IsG g l) (hf : FitD l) {k : Nat} {x : Int × List Int} (hx : g[k]? = some x) : amtD x.2.sum ∧ amtD (balG g (k + 1)) := by
  rw [h.sum x (List.mem_of_getElem? hx), balG_at h hx]
  exact hf x.1

/-! ### The groups that are made of days told and of rows -/
theorem atG_last {g : List (Int × List Int)} {d : Int} (h : ∀ x ∈ g, x.1 < d) : atG g d = g ++ [(d, [])] ∧ place g d = g.length := by
  have hp : place g d = g.length := List.countP_eq_length.2 fun x hx => by simpa using h x hx
  refine ⟨?_, hp⟩
  unfold atG
  rw [hp]
  simp
theorem addG_last {g : List (Int × List Int)} {r : Int × Int} (h : ∀ x ∈ g, x.1 < r.1) : addG g r = g ++ [(r.1, [r.2])] := by
  obtain ⟨h1, h2⟩ := atG_last h
  unfold addG
  rw [h1, h2]
  apply List.ext_getElem?
  intro i
  rw [List.getElem?_modify]
  rcases Nat.lt_trichotomy i g.length with hi | rfl | hi
  · rw [List.getElem?_append_left hi, List.getElem?_append_left hi]
    cases g[i]? with
    | none => rfl
    | some x =>
      have hne : ¬ g.length = i := by omega
      simp [hne]
  · rw [List.getElem?_append_right (Nat.le_refl _), List.getElem?_append_right (Nat.le_refl _)]
    simp
  · rw [List.getElem?_append_right (by omega), List.getElem?_append_right (by omega)]
    have : i - g.length = (i - g.length - 1) + 1 := by omega
    rw [this]
    simp
/-- The groups of rising days. -/
theorem grp_rise : ∀ (es : List (Int × Int)), RiseD es → grp es = es.map fun e => (e.1, [e.2]) := by
  have key : ∀ (es : List (Int × Int)) (g : List (Int × List Int)), RiseD es → (∀ x ∈ g, ∀ e ∈ es, x.1 < e.1) → es.foldl addG g = g ++ es.map fun e => (e.1, [e.2]) := by
    intro es
    induction es with
    | nil => intro g _ _; simp
    | cons e es ih =>
      intro g hr hg
      rw [List.foldl_cons, addG_last (fun x hx => hg x hx e (List.mem_cons_self ..)), ih _ hr.tail ?_, List.append_assoc]
      · rfl
      · intro x hx y hy
        rcases List.mem_append.1 hx with hx | hx
        · exact hg x hx y (List.mem_cons_of_mem _ hy)
        · obtain rfl := List.mem_singleton.1 hx
          exact hr.head y hy
  intro es h
  have := key es [] h (fun x hx => by cases hx)
  unfold grp
  simpa using this
theorem canon_take_rise (l : List (Int × Int)) (k : Nat) : RiseD ((canon l).take k) := List.Pairwise.sublist (List.take_sublist _ _) (canon_rise l)
theorem days_get (l : List (Int × Int)) (k : Nat) {x : Int × Int × Int} (h : (days l)[k]? = some x) : (canon l)[k]? = some (x.1, x.2.1) := by
  rw [days_eq, List.getElem?_map] at h
  obtain ⟨e, he, rfl⟩ := Option.map_eq_some_iff.1 h
  exact he
theorem days_length (l : List (Int × Int)) : (days l).length = (canon l).length := by unfold days; rw [runs_length]
theorem days_canon (l : List (Int × Int)) : days (canon l) = days l := days_congr fun d => chg_canon l d
theorem days_app (l m : List (Int × Int)) : days (canon l ++ m) = days (l ++ m) := days_congr fun d => by rw [chg_app, chg_app, chg_canon]
theorem fit_app (l m : List (Int × Int)) : FitD (canon l ++ m) ↔ FitD (l ++ m) :=
  ⟨fun h => h.congr fun d => by rw [chg_app, chg_app, chg_canon], fun h => h.congr fun d => by rw [chg_app, chg_app, chg_canon]⟩
theorem days_mem {l : List (Int × Int)} {x : Int × Int × Int} (h : x ∈ days l) : x.2.1 = chg l x.1 ∧ x.2.1 ≠ 0 ∧ x.2.2 = bal l x.1 := by
  rw [days_eq] at h
  obtain ⟨e, he, rfl⟩ := List.mem_map.1 h
  obtain ⟨h1, h2⟩ := mem_canon.1 he
  exact ⟨h1, h2, rfl⟩
theorem days_rise (l : List (Int × Int)) : RiseD (days l) := by
  rw [days_eq]
  exact List.pairwise_map.2 (canon_rise l)
theorem days_at {l : List (Int × Int)} {d : Int} (h : chg l d ≠ 0) : (d, chg l d, bal l d) ∈ days l := by
  rw [days_eq]
  exact List.mem_map.2 ⟨(d, chg l d), mem_canon.2 ⟨rfl, h⟩, rfl⟩
/-- A day on which something changed was told. -/
theorem days_told {l : List (Int × Int)} {x : Int × Int × Int} (h : x ∈ days l) : ∃ r ∈ l, r.1 = x.1 := by
  obtain ⟨h1, h2, _⟩ := days_mem h
  exact Classical.byContradiction fun hn => h2 (h1.trans (chg_none fun r hr k => hn ⟨r, hr, k⟩))

/-! ### Rows of accounts -/
/-- An account, a day, an amount. -/
abbrev DR := List UInt8 × Int × Int
abbrev DO := List UInt8 → List (Int × Int)
def ofD (R : List DR) (n : List UInt8) : List (Int × Int) := (R.filter fun r => r.1 == n).map (·.2)
def plusD (O : DO) (R : List DR) : DO := fun n => O n ++ ofD R n
theorem ofD_nil (n : List UInt8) : ofD [] n = [] := rfl
theorem ofD_app (R S : List DR) (n : List UInt8) : ofD (R ++ S) n = ofD R n ++ ofD S n := by unfold ofD; rw [List.filter_append, List.map_append]
theorem ofD_snoc (R : List DR) (r : DR) (n : List UInt8) : ofD (R ++ [r]) n = if r.1 = n then ofD R n ++ [r.2] else ofD R n := by
  rw [ofD_app]
  by_cases h : r.1 = n
  · rw [if_pos h]; simp [ofD, h]
  · rw [if_neg h]; simp [ofD, h]
theorem ofD_perm {R S : List DR} (h : R.Perm S) (n : List UInt8) : (ofD R n).Perm (ofD S n) := (h.filter _).map _
theorem ofD_length (R : List DR) (n : List UInt8) : (ofD R n).length ≤ R.length := by unfold ofD; rw [List.length_map]; exact List.length_filter_le _ _
theorem plusD_nil (O : DO) : plusD O [] = O := by funext n; unfold plusD; rw [ofD_nil, List.append_nil]
theorem plusD_app (O : DO) (R S : List DR) : plusD (plusD O R) S = plusD O (R ++ S) := by funext n; unfold plusD; rw [ofD_app, List.append_assoc]
def namesD (R : List DR) : List (List UInt8) := R.map (·.1)
theorem ofD_not {R : List DR} {n : List UInt8} (h : n ∉ namesD R) : ofD R n = [] := by
  unfold ofD
  rw [List.filter_eq_nil_iff.2 fun r hr e => h (List.mem_map.2 ⟨r, hr, by simpa using e⟩)]
  rfl
theorem plusD_not {O : DO} {R : List DR} {n : List UInt8} (h : n ∉ namesD R) : plusD O R n = O n := by unfold plusD; rw [ofD_not h, List.append_nil]
theorem mem_ofD {R : List DR} {n : List UInt8} {x : Int × Int} (h : x ∈ ofD R n) : (n, x) ∈ R := by
  unfold ofD at h
  obtain ⟨r, hr, rfl⟩ := List.mem_map.1 h
  obtain ⟨h1, h2⟩ := List.mem_filter.1 hr
  obtain ⟨a, b⟩ := r
  obtain rfl : a = n := by simpa using h2
  exact h1
def negR (R : List DR) : List DR := R.map fun r => (r.1, r.2.1, -r.2.2)
theorem ofD_neg (R : List DR) (n : List UInt8) : ofD (negR R) n = negD (ofD R n) := by
  unfold ofD negR negD
  rw [List.filter_map, List.map_map, List.map_map]
  rfl
/-- The same changes. -/
def SameD (O P : DO) : Prop := ∀ n d, chg (O n) d = chg (P n) d
theorem SameD.refl (O : DO) : SameD O O := fun _ _ => rfl
theorem SameD.symm {O P : DO} (h : SameD O P) : SameD P O := fun n d => (h n d).symm
theorem SameD.days {O P : DO} (h : SameD O P) (n : List UInt8) : Kit.days (O n) = Kit.days (P n) := days_congr (h n)
theorem SameD.bal {O P : DO} (h : SameD O P) (n : List UInt8) (d : Int) : Kit.bal (O n) d = Kit.bal (P n) d := bal_congr (h n) d
theorem sameD_perm {O : DO} {R S : List DR} (h : R.Perm S) : SameD (plusD O R) (plusD O S) := fun n d => by
  unfold plusD
  rw [chg_app, chg_app, chg_perm (ofD_perm h n)]
theorem sameD_back (O : DO) (R : List DR) : SameD (plusD (plusD O R) (negR R)) O := fun n d => by
  unfold plusD
  rw [chg_app, chg_app, ofD_neg, chg_neg]
  omega
theorem sameD_canon (O : DO) : SameD (fun n => canon (O n)) O := fun n d => chg_canon (O n) d
end Go.Proofs.YtejmndfdmikfaaaDoor.Kit
