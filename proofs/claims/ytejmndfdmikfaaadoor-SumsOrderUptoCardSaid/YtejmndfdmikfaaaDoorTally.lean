/- Maps of numbers in memory: what is 0 is not kept. -/
import Derived.Test.YtejmndfdmikfaaaDoorMap
import Derived.Test.YtejmndfdmikfaaaDoorSumsM
namespace Go.Proofs.YtejmndfdmikfaaaDoor.Kit
open Go Go.RowKit Go.MapKept

theorem at_put (l : List (List UInt8 × Value)) (k : List UInt8) (v : Value) (j : List UInt8) : at? (put l k v) j = if j = k then some v else at? l j := by
  unfold at? put
  split
  · rename_i hany
    induction l with
    | nil => simp at hany
    | cons x l ih =>
      rw [List.map_cons, List.find?_cons, List.find?_cons]
      by_cases hx : x.1 = k
      · rw [if_pos hx]
        by_cases hj : j = k
        · subst hj; simp
        · have e1 : (k == j) = false := by simpa using fun e => hj e.symm
          have e2 : (x.1 == j) = false := by rw [hx]; exact e1
          simp only [e1, e2, if_neg hj]
          by_cases ha : (l.any fun x => x.1 == k) = true
          · have := ih ha
            rw [if_neg hj] at this
            exact this
          · have hn : ∀ y ∈ l, y.1 ≠ k := fun y hy e => ha (List.any_eq_true.2 ⟨y, hy, by simpa using e⟩)
            have e : l.map (fun x => if x.1 = k then (k, v) else x) = l := (List.map_congr_left (g := id) (fun y hy => if_neg (hn y hy))).trans (List.map_id l)
            rw [e]
      · rw [if_neg hx]
        have ha : (l.any fun x => x.1 == k) = true := by simpa [hx] using hany
        by_cases hxj : x.1 = j
        · have hj : ¬ j = k := fun e => hx (hxj.trans e)
          simp [hxj, hj]
        · have e2 : (x.1 == j) = false := by simpa using hxj
          simp only [e2]
          exact ih ha
  · rename_i hany
    have hn : ∀ y ∈ l, y.1 ≠ k := fun y hy e => hany (List.any_eq_true.2 ⟨y, hy, by simpa using e⟩)
    rw [List.find?_append]
    by_cases hj : j = k
    · subst hj
      have : l.find? (fun x => x.1 == j) = none := List.find?_eq_none.2 fun y hy => by simpa using hn y hy
      simp [this]
    · have e1 : (k == j) = false := by simpa using fun e => hj e.symm
      simp [hj, e1]
theorem at_del (l : List (List UInt8 × Value)) (k j : List UInt8) : at? (del l k) j = if j = k then none else at? l j := by
  unfold at? del
  induction l with
  | nil => simp
  | cons x l ih =>
    rw [List.filter_cons]
    by_cases hx : x.1 = k
    · have e0 : (x.1 != k) = false := by simpa using hx
      simp only [e0, Bool.false_eq_true, if_false]
      rw [ih]
      by_cases hj : j = k
      · simp [hj]
      · have e2 : (x.1 == j) = false := by rw [hx]; simpa using fun e => hj e.symm
        simp [hj, e2]
    · have e0 : (x.1 != k) = true := by simpa using hx
      simp only [e0, if_true]
      rw [List.find?_cons, List.find?_cons]
      by_cases hxj : x.1 = j
      · have hj : ¬ j = k := fun e => hx (hxj.trans e)
        simp [hxj, hj]
      · have e2 : (x.1 == j) = false := by simpa using hxj
        simp only [e2]
        exact ih
/-- What a map holds of a number. -/
def ent (x : Int) : Option Value := if x = 0 then none else some (.int .i64 x)
/-- The pairs are the numbers that are not 0. -/
def IsT (l : List (List UInt8 × Value)) (F : List UInt8 → Int) : Prop := (l.map (·.1)).Nodup ∧ ∀ k, at? l k = ent (F k)
theorem IsT.none : IsT [] (fun _ => 0) := ⟨List.nodup_nil, fun _ => rfl⟩
theorem del_keys (l : List (List UInt8 × Value)) (k : List UInt8) (h : (l.map (·.1)).Nodup) : ((del l k).map (·.1)).Nodup := h.sublist (List.filter_sublist.map _)
theorem IsT.put {l : List (List UInt8 × Value)} {F : List UInt8 → Int} (h : IsT l F) (k : List UInt8) {x : Int} (hx : x ≠ 0) : IsT (put l k (.int .i64 x)) (setO F k x) := by
  refine ⟨put_keys l k _ h.1, fun j => ?_⟩
  rw [at_put]
  unfold setO
  split
  · exact (if_neg hx).symm
  · exact h.2 j
theorem IsT.del {l : List (List UInt8 × Value)} {F : List UInt8 → Int} (h : IsT l F) (k : List UInt8) (v : Value) : IsT (del (Kit.put l k v) k) (setO F k 0) := by
  refine ⟨del_keys _ k (put_keys l k _ h.1), fun j => ?_⟩
  rw [at_del, at_put]
  unfold setO
  split
  · rfl
  · exact h.2 j
theorem at_mem {l : List (List UInt8 × Value)} (hn : (l.map (·.1)).Nodup) {x : List UInt8 × Value} (hx : x ∈ l) : at? l x.1 = some x.2 := by
  obtain ⟨j, hj⟩ := List.mem_iff_getElem?.1 hx
  unfold at?
  rw [find_at hn hj]
  rfl
theorem IsT.mem {l : List (List UInt8 × Value)} {F : List UInt8 → Int} (h : IsT l F) {x : List UInt8 × Value} (hx : x ∈ l) : F x.1 ≠ 0 ∧ x.2 = .int .i64 (F x.1) := by
  have h1 := at_mem h.1 hx
  rw [h.2] at h1
  unfold ent at h1
  split at h1
  · cases h1
  · rename_i h0
    exact ⟨h0, (Option.some.inj h1).symm⟩
theorem IsT.key {l : List (List UInt8 × Value)} {F : List UInt8 → Int} (h : IsT l F) {k : List UInt8} : k ∈ l.map (·.1) ↔ F k ≠ 0 := by
  constructor
  · intro hk
    obtain ⟨x, hx, rfl⟩ := List.mem_map.1 hk
    exact (h.mem hx).1
  · intro hk
    have h1 := h.2 k
    unfold ent at h1
    rw [if_neg hk] at h1
    unfold at? at h1
    cases hf : l.find? (fun x => x.1 == k) with
    | none => rw [hf] at h1; cases h1
    | some x =>
      have hm := List.mem_of_find?_eq_some hf
      have he := List.find?_some hf
      exact List.mem_map.2 ⟨x, hm, by simpa using he⟩
theorem IsT.covers {l : List (List UInt8 × Value)} {F : List UInt8 → Int} (h : IsT l F) : Covers (l.map (·.1)) F := ⟨h.1, fun _ hk => h.key.2 hk⟩
end Go.Proofs.YtejmndfdmikfaaaDoor.Kit
