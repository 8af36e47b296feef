/- The maps that Apply makes, as lists of pairs: what is added up, what is next. No walk. -/
import Derived.Test.YtejmndfdmikfaaaDoorTally
import Derived.Test.YtejmndfdmikfaaaDoorSumsV
namespace Go.Proofs.YtejmndfdmikfaaaDoor.Kit
open Go Go.RowKit

/-- The number x in two words. -/
def wideV (x : Int) : Value := .agg #[.int .i64 (x / 18446744073709551616), .int .u64 (x % 18446744073709551616)]
abbrev Prs := List (List UInt8 × Value)

/-- The names of the rows so far, each with its balance behind them. -/
def IsW (l : Prs) (O : List UInt8 → Int) (rows : List (List UInt8 × Int)) : Prop :=
  (l.map (·.1)).Nodup ∧ ∀ k, at? l k = if k ∈ rowNames rows then some (wideV (plusO O (rowsAt rows) k)) else none
theorem IsW.nil (O : List UInt8 → Int) : IsW [] O [] := ⟨List.nodup_nil, fun k => by simp [rowNames, at?]⟩
theorem mem_rowNames_snoc {rows : List (List UInt8 × Int)} {r : List UInt8 × Int} {k : List UInt8} : k ∈ rowNames (rows ++ [r]) ↔ k ∈ rowNames rows ∨ k = r.1 := by
  rw [mem_rowNames, mem_rowNames]
  constructor
  · rintro ⟨x, hx, e⟩
    rcases List.mem_append.1 hx with hx | hx
    · exact .inl ⟨x, hx, e⟩
    · obtain rfl := List.mem_singleton.1 hx
      exact .inr e.symm
  · rintro (⟨x, hx, e⟩ | e)
    · exact ⟨x, List.mem_append_left _ hx, e⟩
    · exact ⟨r, by simp, e.symm⟩
theorem IsW.step {l : Prs} {O : List UInt8 → Int} {rows : List (List UInt8 × Int)} (h : IsW l O rows) (r : List UInt8 × Int) :
    IsW (put l r.1 (wideV (plusO O (rowsAt rows) r.1 + r.2))) O (rows ++ [r]) := by
  refine ⟨put_keys l r.1 _ h.1, fun k => ?_⟩
  rw [at_put, h.2]
  by_cases hk : k = r.1
  · subst hk
    rw [if_pos rfl, if_pos (mem_rowNames_snoc.2 (.inr rfl))]
    unfold plusO
    rw [rowsAt_snoc, if_pos rfl, Int.add_assoc]
  · rw [if_neg hk]
    have e : plusO O (rowsAt (rows ++ [r])) k = plusO O (rowsAt rows) k := by
      unfold plusO
      rw [rowsAt_snoc, if_neg (fun e => hk e.symm), Int.add_zero]
    rw [e]
    by_cases hm : k ∈ rowNames rows
    · rw [if_pos hm, if_pos (mem_rowNames_snoc.2 (.inl hm))]
    · rw [if_neg hm, if_neg (fun h => (mem_rowNames_snoc.1 h).elim hm hk)]
theorem IsW.there {l : Prs} {O : List UInt8 → Int} {rows : List (List UInt8 × Int)} (h : IsW l O rows) {k : List UInt8} (hk : k ∈ rowNames rows) : at? l k = some (wideV (plusO O (rowsAt rows) k)) := by rw [h.2, if_pos hk]
theorem IsW.not {l : Prs} {O : List UInt8 → Int} {rows : List (List UInt8 × Int)} (h : IsW l O rows) {k : List UInt8} (hk : k ∉ rowNames rows) : at? l k = none := by rw [h.2, if_neg hk]
theorem plusO_not {O : List UInt8 → Int} {rows : List (List UInt8 × Int)} {k : List UInt8} (hk : k ∉ rowNames rows) : plusO O (rowsAt rows) k = O k := by
  unfold plusO
  rw [rowsAt_none (fun r hr e => hk (mem_rowNames.2 ⟨r, hr, e⟩)), Int.add_zero]
theorem IsW.mem {l : Prs} {O : List UInt8 → Int} {rows : List (List UInt8 × Int)} (h : IsW l O rows) {x : List UInt8 × Value} (hx : x ∈ l) : x.1 ∈ rowNames rows ∧ x.2 = wideV (plusO O (rowsAt rows) x.1) := by
  have h1 := at_mem h.1 hx
  rw [h.2] at h1
  split at h1
  · exact ⟨‹_›, (Option.some.inj h1).symm⟩
  · cases h1
theorem IsW.key {l : Prs} {O : List UInt8 → Int} {rows : List (List UInt8 × Int)} (h : IsW l O rows) {k : List UInt8} (hk : k ∈ rowNames rows) : k ∈ l.map (·.1) := by
  have h1 := h.there hk
  unfold at? at h1
  cases hf : l.find? (fun x => x.1 == k) with
  | none => rw [hf] at h1; cases h1
  | some x =>
    have hm := List.mem_of_find?_eq_some hf
    have he := List.find?_some hf
    exact List.mem_map.2 ⟨x, hm, by simpa using he⟩

/-- The next balances: those of the names in Q new ones, the others old; what is 0 may stand there. -/
def IsN (l : Prs) (O O' : List UInt8 → Int) (Q : List (List UInt8)) : Prop :=
  (l.map (·.1)).Nodup ∧ ∀ k, at? l k = if k ∈ Q then some (.int .i64 (O' k)) else ent (O k)
theorem IsN.start {l : Prs} {O : List UInt8 → Int} (h : IsT l O) (O' : List UInt8 → Int) : IsN l O O' [] := ⟨h.1, fun k => by rw [h.2]; simp⟩
theorem IsN.step {l : Prs} {O O' : List UInt8 → Int} {Q : List (List UInt8)} (h : IsN l O O' Q) (n : List UInt8) : IsN (put l n (.int .i64 (O' n))) O O' (Q ++ [n]) := by
  refine ⟨put_keys l n _ h.1, fun k => ?_⟩
  rw [at_put, h.2]
  by_cases hk : k = n
  · subst hk; simp
  · simp [hk]
theorem IsN.there {l : Prs} {O O' : List UInt8 → Int} {Q : List (List UInt8)} (h : IsN l O O' Q) {n : List UInt8} (hn : n ∈ Q) : at? l n = some (.int .i64 (O' n)) := by rw [h.2, if_pos hn]
/-- All that stands there is the new balances. -/
theorem IsN.vals {l : Prs} {O O' : List UInt8 → Int} {Q : List (List UInt8)} (h : IsN l O O' Q) (hQ : ∀ k, k ∉ Q → O' k = O k) : l = (l.map (·.1)).map (fun k => (k, Value.int .i64 (O' k))) := by
  rw [List.map_map]
  refine ((List.map_congr_left (g := id) fun x hx => ?_).trans (List.map_id l)).symm
  have h1 := at_mem h.1 hx
  rw [h.2] at h1
  simp only [Function.comp, id]
  split at h1
  · rw [Option.some.inj h1]
  · unfold ent at h1
    split at h1
    · cases h1
    · rw [hQ _ ‹_›, Option.some.inj h1]
theorem at_some_key {l : Prs} {k : List UInt8} {v : Value} (h1 : at? l k = some v) : k ∈ l.map (·.1) := by
  unfold at? at h1
  cases hf : l.find? (fun x => x.1 == k) with
  | none => rw [hf] at h1; cases h1
  | some x =>
    have hm := List.mem_of_find?_eq_some hf
    have he := List.find?_some hf
    exact List.mem_map.2 ⟨x, hm, by simpa using he⟩
theorem IsN.covers {l : Prs} {O O' : List UInt8 → Int} {Q : List (List UInt8)} (h : IsN l O O' Q) (hQ : ∀ k, k ∉ Q → O' k = O k) : Covers (l.map (·.1)) O' := by
  refine ⟨h.1, fun k hk => ?_⟩
  by_cases hq : k ∈ Q
  · exact at_some_key (h.there hq)
  · refine at_some_key (v := .int .i64 (O k)) ?_
    rw [h.2, if_neg hq]
    exact if_neg (by rw [← hQ k hq]; exact hk)
/-- A new key comes to the end. -/
theorem put_new {l : Prs} {k : List UInt8} (v : Value) (h : k ∉ l.map (·.1)) : put l k v = l ++ [(k, v)] := by
  unfold put
  rw [if_neg]
  intro ha
  obtain ⟨x, hx, e⟩ := List.any_eq_true.1 ha
  exact h (List.mem_map.2 ⟨x, hx, by simpa using e⟩)
theorem ent_get (x : Int) : (ent x).getD (.int .i64 0) = .int .i64 x := by
  unfold ent
  split
  · subst_vars; rfl
  · rfl
theorem IsT.get {l : Prs} {F : List UInt8 → Int} (h : IsT l F) (k : List UInt8) : (at? l k).getD (.int .i64 0) = .int .i64 (F k) := by rw [h.2, ent_get]
theorem IsT.perm {l m : Prs} {F : List UInt8 → Int} (h : IsT l F) (hp : m.Perm l) : IsT m F := by
  have hn : (m.map (·.1)).Nodup := (hp.map _).nodup_iff.2 h.1
  refine ⟨hn, fun k => ?_⟩
  rw [← h.2]
  cases hl : at? l k with
  | some v =>
    have : (k, v) ∈ l := by
      unfold at? at hl
      cases hf : l.find? (fun x => x.1 == k) with
      | none => rw [hf] at hl; cases hl
      | some x =>
        have hm := List.mem_of_find?_eq_some hf
        have he := List.find?_some hf
        rw [hf] at hl
        have e1 : x.1 = k := by simpa using he
        have e2 : x.2 = v := Option.some.inj hl
        rw [← e1, ← e2]
        exact hm
    exact at_mem hn (hp.mem_iff.2 this)
  | none =>
    cases hm : at? m k with
    | none => rfl
    | some v =>
      obtain ⟨x, hx, rfl⟩ := List.mem_map.1 (at_some_key hm)
      have := at_mem h.1 (hp.mem_iff.1 hx)
      rw [hl] at this
      cases this
theorem IsT.congr {l : Prs} {F G : List UInt8 → Int} (h : IsT l F) (e : F = G) : IsT l G := e ▸ h
end Go.Proofs.YtejmndfdmikfaaaDoor.Kit
