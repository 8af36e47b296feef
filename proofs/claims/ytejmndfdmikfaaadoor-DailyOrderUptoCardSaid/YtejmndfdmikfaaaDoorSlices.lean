/- Slices that a call or a view owns, each in a block of its own: in a map's values; behind days. -/
import Derived.Test.YtejmndfdmikfaaaDoorFlat
import Derived.Test.YtejmndfdmikfaaaDoorMapOps
namespace Go.Proofs.YtejmndfdmikfaaaDoor.Kit
open Go Go.RowKit

/-- A slice: where it lies, its capacity, what it shows. -/
structure Sl (α : Type) where
  A : Option Addr
  c : Nat
  l : List α
def Sl.val {α : Type} (x : Sl α) : Value := .slice x.A x.l.length x.c
def Sl.none_ {α : Type} : Sl α := ⟨none, 0, []⟩
/-- The blocks of an address: one or none. -/
def bks (A : Option Addr) : List Nat := (A.map Addr.block).toList
theorem mem_bks {A : Option Addr} {k : Nat} : k ∈ bks A ↔ Bk A k := by
  cases A with
  | none => simp [bks, Bk]
  | some a => simp [bks, Bk, eq_comm]
theorem bks_nodup (A : Option Addr) : (bks A).Nodup := by cases A <;> simp [bks]
/-- All blocks of the slices in a list. -/
def blks {α : Type} (xs : List (Sl α)) : List Nat := xs.flatMap fun x => bks x.A
theorem mem_blks {α : Type} {xs : List (Sl α)} {k : Nat} : k ∈ blks xs ↔ ∃ x ∈ xs, Bk x.A k := by simp [blks, mem_bks]
theorem blks_app {α : Type} (xs ys : List (Sl α)) : blks (xs ++ ys) = blks xs ++ blks ys := by simp [blks]
theorem blks_one {α : Type} (x : Sl α) : blks [x] = bks x.A := by simp [blks]
theorem blks_cons {α : Type} (x : Sl α) (xs : List (Sl α)) : blks (x :: xs) = bks x.A ++ blks xs := by simp [blks]

section
variable {α : Type} {w w' : World} {m : Nat} {e : TypeId} {k : Nat} {f : α → List Value}
/-- The slice owns what it shows. -/
def OwnS (w : World) (e : TypeId) (k : Nat) (f : α → List Value) (x : Sl α) : Prop := Own w e k x.A x.c x.l.length (x.l.flatMap f)
theorem OwnS.none_ (w : World) (e : TypeId) (k : Nat) (f : α → List Value) : OwnS w e k f Sl.none_ := Own.nil _ _ _

/-! ### Maps of slices -/
abbrev Ms (α : Type) := List (List UInt8 × Sl α)
def Ms.prs (ms : Ms α) : List (List UInt8 × Value) := ms.map fun x => (x.1, x.2.val)
def Ms.sls (ms : Ms α) : List (Sl α) := ms.map (·.2)
def Ms.keys (ms : Ms α) : List (List UInt8) := ms.map (·.1)
def Ms.at_ (ms : Ms α) (n : List UInt8) : Sl α := ((ms.find? fun x => x.1 == n).map (·.2)).getD Sl.none_
def Ms.set (ms : Ms α) (n : List UInt8) (x : Sl α) : Ms α := if (ms.any fun y => y.1 == n) = true then ms.map (fun y => if y.1 = n then (n, x) else y) else ms ++ [(n, x)]
/-- Block m is a map of slices, each in a block of its own. -/
structure MapS (w : World) (m : Nat) (e : TypeId) (k : Nat) (f : α → List Value) (ms : Ms α) : Prop where
  map : SMap w m ms.prs
  own : ∀ x ∈ ms, OwnS w e k f x.2
  apart : (blks ms.sls).Nodup
theorem Ms.keys_prs (ms : Ms α) : ms.prs.map (·.1) = ms.keys := by simp [Ms.prs, Ms.keys]
theorem MapS.nodup {ms : Ms α} (h : MapS w m e k f ms) : ms.keys.Nodup := by
  obtain ⟨es, clock, _, h2⟩ := h.map
  have := h2.2.2.2
  rwa [Ms.keys_prs] at this
theorem MapS.made (w : World) (e : TypeId) (k : Nat) (f : α → List Value) : MapS (w.alloc (.map #[] 0)) w.heap.size e k f [] := ⟨SMap.made w, fun _ h => (by cases h), List.nodup_nil⟩
theorem MapS.lt {ms : Ms α} (h : MapS w m e k f ms) : m < w.heap.size := h.map.lt
theorem MapS.blk_lt {ms : Ms α} (h : MapS w m e k f ms) : ∀ b ∈ blks ms.sls, b < w.heap.size := by
  intro b hb
  obtain ⟨x, hx, hB⟩ := mem_blks.1 hb
  obtain ⟨y, hy, rfl⟩ := List.mem_map.1 hx
  exact (h.own y hy).lt b hB
theorem Own.is_cells {w : World} {e : TypeId} {sz n c : Nat} {A : Option Addr} {xs : List Value} (h : Own w e sz A c n xs) : ∀ k, Bk A k → ∃ cs t fr, w.heap[k]? = some (.cells cs t fr) := by
  intro k hk
  rcases h.2 with ⟨rfl, _⟩ | ⟨g, cur, rfl, hg, _⟩
  · exact absurd hk Bk.none_
  · obtain rfl : g = k := Bk.some_.1 hk
    exact ⟨_, _, _, hg⟩
theorem MapS.not_own {ms : Ms α} (h : MapS w m e k f ms) : m ∉ blks ms.sls := by
  intro hb
  obtain ⟨x, hx, hB⟩ := mem_blks.1 hb
  obtain ⟨y, hy, rfl⟩ := List.mem_map.1 hx
  obtain ⟨cs, t, fr, hc⟩ := (h.own y hy).is_cells m hB
  obtain ⟨es, clock, h1, _⟩ := h.map
  rw [h1] at hc
  cases hc
theorem MapS.keep {ms : Ms α} (h : MapS w m e k f ms) (hm : w'.heap[m]? = w.heap[m]?) (hb : ∀ b ∈ blks ms.sls, w'.heap[b]? = w.heap[b]?) : MapS w' m e k f ms :=
  ⟨h.map.keep hm, fun x hx => (h.own x hx).keep fun b hB => hb b (mem_blks.2 ⟨x.2, List.mem_map_of_mem (f := (·.2)) hx, hB⟩), h.apart⟩
theorem MapS.kp {S : Nat → Prop} {ms : Ms α} (h : MapS w m e k f ms) (hk : Kp S w w') (hm : ¬ S m) (hb : ∀ b ∈ blks ms.sls, ¬ S b) : MapS w' m e k f ms :=
  h.keep (hk.block _ h.lt hm) fun b hB => hk.block _ (h.blk_lt b hB) (hb b hB)
theorem MapS.new {ms : Ms α} (h : MapS w m e k f ms) (hk : New w w') : MapS w' m e k f ms := h.kp hk id fun _ _ => id
theorem Ms.find_prs (ms : Ms α) (n : List UInt8) : at? ms.prs n = (ms.find? fun x => x.1 == n).map (fun x => x.2.val) := by
  unfold at? Ms.prs
  rw [List.find?_map, Option.map_map]
  rfl
theorem Ms.at_prs (ms : Ms α) (n : List UInt8) : (at? ms.prs n).getD (.slice none 0 0) = (ms.at_ n).val := by
  rw [Ms.find_prs]
  unfold Ms.at_
  cases ms.find? fun x => x.1 == n <;> rfl
theorem Ms.at_mem {ms : Ms α} (hn : ms.keys.Nodup) {x : List UInt8 × Sl α} (hx : x ∈ ms) : ms.at_ x.1 = x.2 := by
  unfold Ms.at_
  have : (ms.find? fun y => y.1 == x.1) = some x := by
    induction ms with
    | nil => cases hx
    | cons y ms ih =>
      unfold Ms.keys at hn
      rw [List.map_cons, List.nodup_cons] at hn
      rw [List.find?_cons]
      rcases List.mem_cons.1 hx with rfl | hx
      · simp
      · have hne : (y.1 == x.1) = false := by
          rw [beq_eq_false_iff_ne]
          exact fun e => hn.1 (e ▸ List.mem_map_of_mem (f := (·.1)) hx)
        rw [hne]
        exact ih hn.2 hx
  rw [this]
  rfl
theorem Ms.at_not {ms : Ms α} {n : List UInt8} (hn : n ∉ ms.keys) : ms.at_ n = Sl.none_ := by
  unfold Ms.at_
  rw [List.find?_eq_none.2 fun x hx e => hn (List.mem_map.2 ⟨x, hx, by simpa using e⟩)]
  rfl
/-- What stands at a name: there, or the slice of nothing. -/
theorem Ms.at_or (ms : Ms α) (n : List UInt8) : (n, ms.at_ n) ∈ ms ∨ (n ∉ ms.keys ∧ ms.at_ n = Sl.none_) := by
  by_cases h : n ∈ ms.keys
  · left
    unfold Ms.at_
    cases hf : ms.find? fun x => x.1 == n with
    | none =>
      obtain ⟨x, hx, rfl⟩ := List.mem_map.1 h
      have := List.find?_eq_none.1 hf x hx
      simp at this
    | some x =>
      have h1 := List.find?_some hf
      have h2 := List.mem_of_find?_eq_some hf
      obtain ⟨a, b⟩ := x
      obtain rfl : a = n := by simpa using h1
      exact h2
  · exact .inr ⟨h, Ms.at_not h⟩
theorem MapS.own_at {ms : Ms α} (h : MapS w m e k f ms) (n : List UInt8) : OwnS w e k f (ms.at_ n) := by
  rcases ms.at_or n with h1 | ⟨_, h1⟩
  · exact h.own _ h1
  · rw [h1]; exact OwnS.none_ _ _ _ _
theorem Ms.at_bk {ms : Ms α} {n : List UInt8} {b : Nat} (h : Bk (ms.at_ n).A b) : b ∈ blks ms.sls := by
  rcases ms.at_or n with h1 | ⟨_, h1⟩
  · exact mem_blks.2 ⟨_, List.mem_map_of_mem (f := (·.2)) h1, h⟩
  · rw [h1] at h
    exact absurd h Bk.none_
theorem Ms.set_prs (ms : Ms α) (n : List UInt8) (x : Sl α) : (ms.set n x).prs = put ms.prs n x.val := by
  unfold Ms.set Ms.prs put
  have e : (ms.any fun y => y.1 == n) = ((ms.map fun x => (x.1, x.2.val)).any fun y => y.1 == n) := by rw [List.any_map]; rfl
  rw [e]
  split
  · rw [List.map_map, List.map_map]
    refine List.map_congr_left fun y _ => ?_
    simp only [Function.comp]
    split <;> rfl
  · rw [List.map_append]; rfl
theorem Ms.set_keys (ms : Ms α) (n : List UInt8) (x : Sl α) : (ms.set n x).keys = if n ∈ ms.keys then ms.keys else ms.keys ++ [n] := by
  unfold Ms.set Ms.keys
  by_cases h : n ∈ ms.map (·.1)
  · rw [if_pos h, if_pos]
    · rw [List.map_map]
      refine List.map_congr_left fun y _ => ?_
      simp only [Function.comp]
      split
      · rename_i e; exact e.symm
      · rfl
    · obtain ⟨y, hy, rfl⟩ := List.mem_map.1 h
      exact List.any_eq_true.2 ⟨y, hy, by simp⟩
  · rw [if_neg h, if_neg]
    · rw [List.map_append]; rfl
    · intro ha
      obtain ⟨y, hy, e⟩ := List.any_eq_true.1 ha
      exact h (List.mem_map.2 ⟨y, hy, by simpa using e⟩)
theorem Ms.set_new {ms : Ms α} {n : List UInt8} (h : n ∉ ms.keys) (x : Sl α) : ms.set n x = ms ++ [(n, x)] := by
  unfold Ms.set
  rw [if_neg]
  intro ha
  obtain ⟨y, hy, e⟩ := List.any_eq_true.1 ha
  exact h (List.mem_map.2 ⟨y, hy, by simpa using e⟩)
theorem Ms.mem_set {ms : Ms α} {n : List UInt8} {x : Sl α} {y : List UInt8 × Sl α} (h : y ∈ ms.set n x) : (y ∈ ms ∧ y.1 ≠ n) ∨ y = (n, x) := by
  unfold Ms.set at h
  split at h
  · obtain ⟨z, hz, rfl⟩ := List.mem_map.1 h
    by_cases e : z.1 = n
    · rw [if_pos e]; exact .inr rfl
    · rw [if_neg e]; exact .inl ⟨hz, e⟩
  · rename_i hn
    rcases List.mem_append.1 h with h | h
    · refine .inl ⟨h, fun e => hn (List.any_eq_true.2 ⟨y, h, by simpa using e⟩)⟩
    · exact .inr (List.mem_singleton.1 h)
theorem Ms.set_at {ms : Ms α} (n : List UInt8) (x : Sl α) (j : List UInt8) : (ms.set n x).at_ j = if j = n then x else ms.at_ j := by
  unfold Ms.set Ms.at_
  split
  · rename_i h
    induction ms with
    | nil => simp at h
    | cons y ms ih =>
      rw [List.map_cons, List.find?_cons, List.find?_cons]
      by_cases e : y.1 = n
      · rw [if_pos e]
        by_cases hj : j = n
        · subst hj; simp
        · have h1 : (n == j) = false := by simpa using fun h : n = j => hj h.symm
          have h2 : (y.1 == j) = false := by rw [e]; exact h1
          rw [if_neg hj]
          simp only [h1, h2]
          by_cases ha : (ms.any fun y => y.1 == n) = true
          · have := ih ha
            rw [if_neg hj] at this
            exact this
          · have hm : ms.map (fun y => if y.1 = n then (n, x) else y) = ms := by
              refine (List.map_congr_left (g := id) fun z hz => ?_).trans (List.map_id _)
              rw [if_neg fun e => ha (List.any_eq_true.2 ⟨z, hz, by simpa using e⟩)]
              rfl
            rw [hm]
      · rw [if_neg e]
        rw [List.any_cons] at h
        have h' : (ms.any fun y => y.1 == n) = true := by
          have : (y.1 == n) = false := by simpa using e
          rw [this, Bool.false_or] at h
          exact h
        by_cases hj : y.1 = j
        · have hjn : ¬ j = n := fun k => e (hj.trans k)
          simp [hj, hjn]
        · have h1 : (y.1 == j) = false := by simpa using hj
          simp only [h1]
          exact ih h'
  · rename_i h
    rw [List.find?_append]
    by_cases hj : j = n
    · subst hj
      have : (ms.find? fun y => y.1 == j) = none := List.find?_eq_none.2 fun y hy e => h (List.any_eq_true.2 ⟨y, hy, e⟩)
      rw [this]
      simp
    · have h1 : (n == j) = false := by simpa using fun h : n = j => hj h.symm
      rw [if_neg hj]
      simp [h1]
theorem nodup_set {ms : Ms α} (hk : ms.keys.Nodup) (ha : (blks ms.sls).Nodup) {n : List UInt8} {x : Sl α} (hx : ∀ b, Bk x.A b → Bk (ms.at_ n).A b ∨ b ∉ blks ms.sls) : (blks (ms.set n x).sls).Nodup := by
  by_cases hn : n ∈ ms.keys
  · obtain ⟨y, hy, rfl⟩ := List.mem_map.1 hn
    obtain ⟨l1, l2, rfl⟩ := List.append_of_mem hy
    have hat := Ms.at_mem hk hy
    rw [hat] at hx
    unfold Ms.keys at hk
    rw [List.map_append, List.map_cons, List.nodup_append] at hk
    obtain ⟨hk1, hk2, hk3⟩ := hk
    rw [List.nodup_cons] at hk2
    have hs : (Ms.set (l1 ++ y :: l2) y.1 x) = l1 ++ (y.1, x) :: l2 := by
      unfold Ms.set
      rw [if_pos (List.any_eq_true.2 ⟨y, hy, by simp⟩), List.map_append, List.map_cons, if_pos rfl]
      have m1 : l1.map (fun z => if z.1 = y.1 then (y.1, x) else z) = l1 := by
        refine (List.map_congr_left (g := id) fun z hz => ?_).trans (List.map_id _)
        rw [if_neg fun e => hk3 z.1 (List.mem_map_of_mem (f := (·.1)) hz) y.1 (List.mem_cons_self ..) e]
        rfl
      have m2 : l2.map (fun z => if z.1 = y.1 then (y.1, x) else z) = l2 := by
        refine (List.map_congr_left (g := id) fun z hz => ?_).trans (List.map_id _)
        rw [if_neg fun e : z.1 = y.1 => hk2.1 (List.mem_map.2 ⟨z, hz, e⟩)]
        rfl
      rw [m1, m2]
    rw [hs]
    unfold Ms.sls at *
    rw [List.map_append, List.map_cons, blks_app, blks_cons] at ha hx ⊢
    rw [List.nodup_append, List.nodup_append] at ha ⊢
    obtain ⟨a1, ⟨a2, a3, a4⟩, a5⟩ := ha
    refine ⟨a1, ⟨bks_nodup _, a3, fun b hb c hc e => ?_⟩, fun b hb c hc e => ?_⟩
    · subst e
      rcases hx b (mem_bks.1 hb) with h | h
      · exact a4 b (mem_bks.2 h) b hc rfl
      · exact h (List.mem_append_right _ (List.mem_append_right _ hc))
    · subst e
      rcases List.mem_append.1 hc with hc | hc
      · rcases hx b (mem_bks.1 hc) with h | h
        · exact a5 b hb b (List.mem_append_left _ (mem_bks.2 h)) rfl
        · exact h (List.mem_append_left _ hb)
      · exact a5 b hb b (List.mem_append_right _ hc) rfl
  · have hat := Ms.at_not hn
    rw [hat] at hx
    rw [Ms.set_new hn]
    unfold Ms.sls at *
    rw [List.map_append, blks_app, List.nodup_append]
    refine ⟨ha, by simpa [blks_one] using bks_nodup x.A, fun b hb c hc e => ?_⟩
    subst e
    simp only [List.map_cons, List.map_nil, blks_one] at hc
    rcases hx b (mem_bks.1 hc) with h | h
    · exact absurd h Bk.none_
    · exact h hb
/-- Another slice at a name. -/
theorem MapS.set {ms : Ms α} (h : MapS w m e k f ms) (n : List UInt8) (x : Sl α) (hm : SMap w' m (put ms.prs n x.val)) (hx : OwnS w' e k f x) (hA : ∀ b, Bk x.A b → Bk (ms.at_ n).A b ∨ b ∉ blks ms.sls)
    (hb : ∀ y ∈ ms, y.1 ≠ n → ∀ b, Bk y.2.A b → w'.heap[b]? = w.heap[b]?) : MapS w' m e k f (ms.set n x) := by
  refine ⟨by rw [Ms.set_prs]; exact hm, fun y hy => ?_, nodup_set h.nodup h.apart hA⟩
  rcases Ms.mem_set hy with ⟨h1, h2⟩ | rfl
  · exact (h.own y h1).keep fun b hB => hb y h1 h2 b hB
  · exact hx
/-- No other name's slice lies in this one's block. -/
theorem MapS.other {ms : Ms α} (h : MapS w m e k f ms) {n : List UInt8} {y : List UInt8 × Sl α} (hy : y ∈ ms) (hne : y.1 ≠ n) {b : Nat} (h1 : Bk (ms.at_ n).A b) : ¬ Bk y.2.A b := by
  intro h2
  rcases ms.at_or n with h3 | ⟨_, h3⟩
  · have hnd := h.apart
    obtain ⟨l1, l2, e⟩ := List.append_of_mem hy
    have hmem : (n, ms.at_ n) ∈ l1 ∨ (n, ms.at_ n) ∈ l2 := by
      rw [e] at h3
      rcases List.mem_append.1 h3 with h3 | h3
      · exact .inl (e ▸ h3)
      · rcases List.mem_cons.1 h3 with h3 | h3
        · exact absurd (congrArg Prod.fst h3).symm hne
        · exact .inr (e ▸ h3)
    have hs : ms.sls = l1.map (·.2) ++ y.2 :: l2.map (·.2) := by rw [e]; simp [Ms.sls]
    rw [hs, blks_app, blks_cons, List.nodup_append, List.nodup_append] at hnd
    obtain ⟨a1, ⟨a2, a3, a4⟩, a5⟩ := hnd
    rcases hmem with hm | hm
    · exact a5 b (mem_blks.2 ⟨_, List.mem_map_of_mem (f := (·.2)) hm, h1⟩) b (List.mem_append_left _ (mem_bks.2 h2)) rfl
    · exact a4 b (mem_bks.2 h2) b (mem_blks.2 ⟨_, List.mem_map_of_mem (f := (·.2)) hm, h1⟩) rfl
  · rw [h3] at h1
    exact absurd h1 Bk.none_
end
end Go.Proofs.YtejmndfdmikfaaaDoor.Kit
