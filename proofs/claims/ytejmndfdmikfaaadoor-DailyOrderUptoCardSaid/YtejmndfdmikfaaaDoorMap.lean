/- Maps keyed by strings, as lists of pairs: looked up in, written, deleted from, walked over in whatever order. -/
import Derived.MapKept
import Derived.Maps.RangeRun
import Derived.Test.YtejmndfdmikfaaaDoorOwn
import Derived.Test.YtejmndfdmikfaaaDoorStr
namespace Go.Proofs.YtejmndfdmikfaaaDoor.Kit
open Go Go.RowKit Go.MapKept
open Go.ChangeMaps (setBlock)

/-- A key's value. -/
abbrev sv (k : List UInt8) : Value := .string (bstr k)
theorem sv_inj {k l : List UInt8} : sv k = sv l ↔ k = l := by
  constructor
  · intro h
    exact bstr_inj.1 (Value.string.inj h)
  · rintro rfl; rfl

/-- The entries read as the pairs. -/
def EsAre (es : Array MapEntry) (clock : Nat) (l : List (List UInt8 × Value)) : Prop :=
  es.toList.map (fun e => (e.key, e.val)) = l.map (fun x => (sv x.1, x.2)) ∧ (∀ e ∈ es.toList, e.born < clock) ∧ (es.toList.map (·.born)).Nodup ∧ (l.map (·.1)).Nodup
/-- Block b is a map of these pairs. -/
def SMap (w : World) (b : Nat) (l : List (List UInt8 × Value)) : Prop := ∃ es clock, w.heap[b]? = some (.map es clock) ∧ EsAre es clock l
/-- What stands at a key. -/
def at? (l : List (List UInt8 × Value)) (k : List UInt8) : Option Value := (l.find? (fun x => x.1 == k)).map (·.2)
/-- Another value at a key. -/
def put (l : List (List UInt8 × Value)) (k : List UInt8) (v : Value) : List (List UInt8 × Value) :=
  if (l.any fun x => x.1 == k) = true then l.map (fun x => if x.1 = k then (k, v) else x) else l ++ [(k, v)]
def del (l : List (List UInt8 × Value)) (k : List UInt8) : List (List UInt8 × Value) := l.filter (fun x => x.1 != k)

theorem SMap.keep {w w' : World} {b : Nat} {l : List (List UInt8 × Value)} (h : SMap w b l) (hb : w'.heap[b]? = w.heap[b]?) : SMap w' b l := by
  obtain ⟨es, clock, h1, h2⟩ := h
  exact ⟨es, clock, hb.trans h1, h2⟩
theorem SMap.lt {w : World} {b : Nat} {l : List (List UInt8 × Value)} (h : SMap w b l) : b < w.heap.size := by
  obtain ⟨es, clock, h1, _⟩ := h
  exact (Array.getElem?_eq_some_iff.1 h1).1
theorem SMap.made (w : World) : SMap (w.alloc (.map #[] 0)) w.heap.size [] := ⟨#[], 0, heap_alloc_new w _, by simp [EsAre]⟩

theorem EsAre.isKey {es : Array MapEntry} {clock : Nat} {l : List (List UInt8 × Value)} (h : EsAre es clock l) : ∀ x ∈ es.toList, IsKey .string x.key := by
  intro x hx
  have : (x.key, x.val) ∈ l.map (fun x => (sv x.1, x.2)) := h.1 ▸ List.mem_map.2 ⟨x, hx, rfl⟩
  obtain ⟨y, _, hy⟩ := List.mem_map.1 this
  have : x.key = sv y.1 := (congrArg Prod.fst hy).symm
  rw [this]
  trivial
theorem EsAre.length {es : Array MapEntry} {clock : Nat} {l : List (List UInt8 × Value)} (h : EsAre es clock l) : es.size = l.length := by
  have := congrArg List.length h.1
  simpa using this
theorem EsAre.at {es : Array MapEntry} {clock : Nat} {l : List (List UInt8 × Value)} (h : EsAre es clock l) {j : Nat} {e : MapEntry} (he : es.toList[j]? = some e) : ∃ x, l[j]? = some x ∧ e.key = sv x.1 ∧ e.val = x.2 := by
  have h1 : (es.toList.map (fun e => (e.key, e.val)))[j]? = some (e.key, e.val) := by rw [List.getElem?_map, he]; rfl
  rw [h.1, List.getElem?_map] at h1
  cases hl : l[j]? with
  | none => rw [hl] at h1; simp at h1
  | some x =>
    rw [hl] at h1
    simp only [Option.map_some, Option.some.injEq, Prod.mk.injEq] at h1
    exact ⟨x, rfl, h1.1.symm, h1.2.symm⟩
theorem find_at {l : List (List UInt8 × Value)} (hn : (l.map (·.1)).Nodup) {j : Nat} {x : List UInt8 × Value} (h : l[j]? = some x) : l.find? (fun y => y.1 == x.1) = some x := by
  induction l generalizing j with
  | nil => simp at h
  | cons y l ih =>
    rw [List.map_cons, List.nodup_cons] at hn
    cases j with
    | zero =>
      simp only [List.getElem?_cons_zero, Option.some.injEq] at h
      subst h
      simp
    | succ j =>
      rw [List.getElem?_cons_succ] at h
      rw [List.find?_cons]
      have hne : (y.1 == x.1) = false := by
        rw [beq_eq_false_iff_ne]
        intro e
        exact hn.1 (e ▸ List.mem_map.2 ⟨x, List.mem_of_getElem? h, rfl⟩)
      rw [hne]
      exact ih hn.2 h
/-- Where a key is looked for. -/
theorem EsAre.find {es : Array MapEntry} {clock : Nat} {l : List (List UInt8 × Value)} (h : EsAre es clock l) (k : List UInt8) :
    (Instr.findNow .string (sv k) es.toList 0 = some none ∧ (l.find? fun x => x.1 == k) = none) ∨
    ∃ j e v, Instr.findNow .string (sv k) es.toList 0 = some (some (j, v)) ∧ es.toList[j]? = some e ∧ e.key = sv k ∧ e.val = v ∧ l[j]? = some (k, v) := by
  rcases findNow_spec (d := .string) (k := sv k) trivial es.toList 0 h.isKey with ⟨h1, h2⟩ | ⟨j, e, h1, h2, h3⟩
  · left
    refine ⟨h1, ?_⟩
    rw [List.find?_eq_none]
    intro x hx hk
    have hx' : (sv x.1, x.2) ∈ es.toList.map (fun e => (e.key, e.val)) := h.1 ▸ List.mem_map.2 ⟨x, hx, rfl⟩
    obtain ⟨e, he, hv⟩ := List.mem_map.1 hx'
    have : e.key = sv x.1 := congrArg Prod.fst hv
    exact h2 e he (this.trans (by rw [beq_iff_eq] at hk; rw [hk]))
  · right
    obtain ⟨x, hx, hk, hv⟩ := h.at h2
    have : x.1 = k := sv_inj.1 (hk.symm.trans h3)
    subst this
    exact ⟨j, e, x.2, by rw [Nat.zero_add] at h1; rw [h1, hv], h2, h3, hv, hx⟩

section
variable {P : Program} {w : World} {t k e : TypeId} {b : Nat} {l : List (List UInt8 × Value)}

theorem run_look (ht : P.underlying t = some (.map k e)) (hk : P.underlying k = some .string) {z : Value} (hz : (zeroValue e).run P w = .ok z w) (h : SMap w b l) (key : List UInt8) (ok : Bool) :
    (Instr.lookup t (.map (some b)) (sv key) ok).run P w = .ok (if ok then .tuple #[(at? l key).getD z, .bool (at? l key).isSome] else (at? l key).getD z) w := by
  obtain ⟨es, clock, hb, he⟩ := h
  have hg : (getObj b).run P w = .ok (.map es clock) w := MapKept.run_getObj_map hb
  have hc : ∀ em, (Instr.checkKey em 10000 k (sv key)).run P w = .ok () w := fun em => MapKept.run_checkKey hk (k := sv key) trivial em 9999
  rcases he.find key with ⟨h1, h2⟩ | ⟨j, x, v, h1, h2, h3, h4, h5⟩
  · have h0 : at? l key = none := by unfold at?; rw [h2]; rfl
    have hf : (Instr.findKey k (sv key) es.toList).run P w = .ok none w := MapKept.run_findKey hk h1
    simp [Instr.lookup, run_underlying ht, Result.andThen, hg, hc, hf, hz, h0]
  · have h0 : at? l key = some v := by unfold at?; rw [find_at he.2.2.2 h5]; rfl
    have hf : (Instr.findKey k (sv key) es.toList).run P w = .ok (some (j, v)) w := MapKept.run_findKey hk h1
    simp [Instr.lookup, run_underlying ht, Result.andThen, hg, hc, hf, h0]

theorem run_size (ht : P.underlying t = some (.map k e)) (h : SMap w b l) (ty : TypeId) : (Builtin.len_ #[t] ty #[.map (some b)]).run P w = .ok (.int .i64 (l.length : Int)) w := by
  obtain ⟨es, clock, hb, he⟩ := h
  have hg : (getObj b).run P w = .ok (.map es clock) w := MapKept.run_getObj_map hb
  rw [← he.length]
  simp [Builtin.len_, run_underlying ht, Result.andThen, hg, goInt]

theorem setBlock_at {w : World} {b : Nat} {o o' : Obj} (h : w.heap[b]? = some o) : (setBlock w b o').heap[b]? = some o' := by
  simp [setBlock, (Array.getElem?_eq_some_iff.1 h).1]
theorem Kp.setBlock (w : World) (b : Nat) (o : Obj) : Kp (fun k => k = b) w (setBlock w b o) :=
  ⟨rfl, rfl, rfl, by simp [ChangeMaps.setBlock], fun k _ hk => by simp [ChangeMaps.setBlock, Ne.symm hk]⟩

theorem any_of_at {l : List (List UInt8 × Value)} {key : List UInt8} : (l.any fun x => x.1 == key) = (l.find? fun x => x.1 == key).isSome := by
  induction l with
  | nil => rfl
  | cons x l ih =>
    rw [List.any_cons, List.find?_cons]
    cases h : x.1 == key
    · simpa using ih
    · rfl
theorem map_set_key : ∀ {l : List (List UInt8 × Value)}, (l.map (·.1)).Nodup → ∀ {j : Nat} {key : List UInt8} {v u : Value}, l[j]? = some (key, v) → l.map (fun x => if x.1 = key then (key, u) else x) = l.set j (key, u) := by
  intro l
  induction l with
  | nil => intro _ j key v u h; simp at h
  | cons y l ih =>
    intro hn j key v u h
    rw [List.map_cons, List.nodup_cons] at hn
    cases j with
    | zero =>
      simp only [List.getElem?_cons_zero, Option.some.injEq] at h
      subst h
      rw [List.map_cons, if_pos rfl, List.set_cons_zero]
      congr 1
      refine (List.map_congr_left (g := id) fun x hx => ?_).trans (List.map_id l)
      rw [if_neg (fun e => hn.1 (List.mem_map.2 ⟨x, hx, e⟩))]
      rfl
    | succ j =>
      rw [List.getElem?_cons_succ] at h
      rw [List.map_cons, List.set_cons_succ, ih hn.2 h, if_neg (fun e => hn.1 (List.mem_map.2 ⟨_, List.mem_of_getElem? h, e.symm⟩))]
theorem filter_key : ∀ {l : List (List UInt8 × Value)}, (l.map (·.1)).Nodup → ∀ {j : Nat} {key : List UInt8} {v : Value}, l[j]? = some (key, v) → l.filter (fun x => x.1 != key) = l.eraseIdx j := by
  intro l
  induction l with
  | nil => intro _ j key v h; simp at h
  | cons y l ih =>
    intro hn j key v h
    rw [List.map_cons, List.nodup_cons] at hn
    cases j with
    | zero =>
      simp only [List.getElem?_cons_zero, Option.some.injEq] at h
      subst h
      rw [List.filter_cons_of_neg (by simp), List.eraseIdx_cons_zero]
      exact List.filter_eq_self.2 fun x hx => by
        rw [bne_iff_ne]
        exact fun e => hn.1 (List.mem_map.2 ⟨x, hx, e⟩)
    | succ j =>
      rw [List.getElem?_cons_succ] at h
      rw [List.filter_cons_of_pos (by rw [bne_iff_ne]; exact fun e => hn.1 (List.mem_map.2 ⟨_, List.mem_of_getElem? h, e.symm⟩)), List.eraseIdx_cons_succ, ih hn.2 h]
theorem set_self : ∀ (l : List Nat) (j v : Nat), l[j]? = some v → l.set j v = l := by
  intro l
  induction l with
  | nil => intro j v h; simp at h
  | cons y l ih =>
    intro j v h
    cases j with
    | zero => simp only [List.getElem?_cons_zero, Option.some.injEq] at h; subst h; rfl
    | succ j => rw [List.set_cons_succ, ih j v (by simpa using h)]
theorem put_keys (l : List (List UInt8 × Value)) (key : List UInt8) (v : Value) (hn : (l.map (·.1)).Nodup) : ((put l key v).map (·.1)).Nodup := by
  unfold put
  split
  · rw [List.map_map]
    have : ((fun x : List UInt8 × Value => x.1) ∘ fun x => if x.1 = key then (key, v) else x) = fun x => x.1 := by
      funext x
      simp only [Function.comp]
      split <;> simp_all
    rw [this]
    exact hn
  · rename_i h
    rw [List.map_append, List.nodup_append]
    refine ⟨hn, by simp, fun a ha b hb => ?_⟩
    simp only [List.map_cons, List.map_nil, List.mem_singleton] at hb
    subst hb
    rintro rfl
    obtain ⟨x, hx, hk⟩ := List.mem_map.1 ha
    exact h (List.any_eq_true.2 ⟨x, hx, by rw [beq_iff_eq]; exact hk⟩)

/-- A store. -/
theorem run_put (ht : P.underlying t = some (.map k e)) (hk : P.underlying k = some .string) (h : SMap w b l) (key : List UInt8) (v : Value) :
    ∃ w', (Instr.mapUpdate t (.map (some b)) (sv key) v).run P w = .ok () w' ∧ SMap w' b (put l key v) ∧ Kp (fun j => j = b) w w' := by
  obtain ⟨es, clock, hb, he⟩ := h
  have hg : (getObj b).run P w = .ok (.map es clock) w := MapKept.run_getObj_map hb
  have hc : ∀ em, (Instr.checkKey em 10000 k (sv key)).run P w = .ok () w := fun em => MapKept.run_checkKey hk (k := sv key) trivial em 9999
  have hs : ∀ o, (setObj b o).run P w = .ok () (setBlock w b o) := fun o => by simp [setObj, Sem.run, hb, setBlock]
  rcases he.find key with ⟨h1, h2⟩ | ⟨j, x, u, h1, h2, h3, h4, h5⟩
  · have hf : (Instr.findKey k (sv key) es.toList).run P w = .ok none w := MapKept.run_findKey hk h1
    refine ⟨_, by simp [Instr.mapUpdate, run_underlying ht, Result.andThen, hg, hc, hf, hs]; rfl, ⟨_, _, setBlock_at hb, ?_⟩, Kp.setBlock _ _ _⟩
    have hp : put l key v = l ++ [(key, v)] := by unfold put; rw [any_of_at, h2]; rfl
    refine ⟨?_, ?_, ?_, put_keys l key v he.2.2.2⟩
    · rw [hp]
      simp [he.1]
    · intro e' he'
      rw [Array.toList_push, List.mem_append] at he'
      rcases he' with he' | he'
      · have := he.2.1 e' he'
        omega
      · obtain rfl := List.mem_singleton.1 he'
        simp
    · rw [Array.toList_push, List.map_append, List.nodup_append]
      refine ⟨he.2.2.1, by simp, fun a ha c hc => ?_⟩
      obtain ⟨y, hy, rfl⟩ := List.mem_map.1 ha
      have := he.2.1 y hy
      simp at hc
      omega
  · have hf : (Instr.findKey k (sv key) es.toList).run P w = .ok (some (j, u)) w := MapKept.run_findKey hk h1
    have hj : es[j]? = some x := by rw [← Array.getElem?_toList]; exact h2
    have hks : (Instr.keyThatStays (sv key) (sv key)).run P w = .ok (sv key) w := MapKept.run_keyThatStays (d := .string) (k := sv key) trivial
    have hmod : (es.modify j fun e => { e with key := sv key, val := v }).toList = es.toList.set j { x with key := sv key, val := v } := by
      apply List.ext_getElem?
      intro i
      rw [Array.getElem?_toList, Array.getElem?_modify, List.getElem?_set, Array.getElem?_toList]
      have hlt : j < es.size := (Array.getElem?_eq_some_iff.1 hj).1
      by_cases hij : j = i
      · subst hij
        have hx : es[j] = x := (Array.getElem?_eq_some_iff.1 hj).2
        simp [hlt, hx]
      · simp [hij]
    refine ⟨_, by simp [Instr.mapUpdate, run_underlying ht, Result.andThen, hg, hc, hf, hs, hj, h3, hks]; rfl, ⟨_, _, setBlock_at hb, ?_⟩, Kp.setBlock _ _ _⟩
    have hp : put l key v = l.set j (key, v) := by unfold put; rw [any_of_at, find_at he.2.2.2 h5]; exact map_set_key he.2.2.2 h5
    refine ⟨?_, ?_, ?_, put_keys l key v he.2.2.2⟩
    · rw [hp, hmod, List.map_set, List.map_set, he.1]
    · intro e' he'
      rw [hmod] at he'
      rcases List.mem_or_eq_of_mem_set he' with he' | rfl
      · exact he.2.1 e' he'
      · exact he.2.1 x (List.mem_of_getElem? h2)
    · rw [hmod, List.map_set, set_self _ j x.born (by rw [List.getElem?_map, h2]; rfl)]
      exact he.2.2.1

/-- A delete. -/
theorem run_del (ht : P.underlying t = some (.map k e)) (hk : P.underlying k = some .string) (h : SMap w b l) (key : List UInt8) (ty : TypeId) :
    ∃ w', (Builtin.delete_ #[t, k] ty #[.map (some b), sv key]).run P w = .ok (.tuple #[]) w' ∧ SMap w' b (del l key) ∧ Kp (fun j => j = b) w w' := by
  obtain ⟨es, clock, hb, he⟩ := h
  have hg : (getObj b).run P w = .ok (.map es clock) w := MapKept.run_getObj_map hb
  have hc : ∀ em, (Instr.checkKey em 10000 k (sv key)).run P w = .ok () w := fun em => MapKept.run_checkKey hk (k := sv key) trivial em 9999
  have hs : ∀ o, (setObj b o).run P w = .ok () (setBlock w b o) := fun o => by simp [setObj, Sem.run, hb, setBlock]
  have hdk : ((del l key).map (·.1)).Nodup := by
    unfold del
    exact (List.filter_sublist.map _).nodup he.2.2.2
  rcases he.find key with ⟨h1, h2⟩ | ⟨j, x, u, h1, h2, h3, h4, h5⟩
  · have hf : (Instr.findKey k (sv key) es.toList).run P w = .ok none w := MapKept.run_findKey hk h1
    have hd : del l key = l := List.filter_eq_self.2 fun x hx => by
      have := List.find?_eq_none.1 h2 x hx
      simpa using this
    refine ⟨_, by simp [Builtin.delete_, run_underlying ht, Result.andThen, hg, hc, hf, hs]; rfl, ⟨_, _, setBlock_at hb, ?_⟩, Kp.setBlock _ _ _⟩
    rw [hd]
    exact he
  · have hf : (Instr.findKey k (sv key) es.toList).run P w = .ok (some (j, u)) w := MapKept.run_findKey hk h1
    have hlt : j < es.size := by have := (List.getElem?_eq_some_iff.1 h2).1; simpa using this
    have hmod : (es.eraseIdxIfInBounds j).toList = es.toList.eraseIdx j := by
      unfold Array.eraseIdxIfInBounds
      rw [dif_pos hlt, Array.toList_eraseIdx]
    have hd : del l key = l.eraseIdx j := filter_key he.2.2.2 h5
    refine ⟨_, by simp [Builtin.delete_, run_underlying ht, Result.andThen, hg, hc, hf, hs]; rfl, ⟨_, _, setBlock_at hb, ?_⟩, Kp.setBlock _ _ _⟩
    refine ⟨?_, ?_, ?_, hdk⟩
    · rw [hd, hmod, ChangeMaps.map_eraseIdx, ChangeMaps.map_eraseIdx, he.1]
    · intro e' he'
      rw [hmod] at he'
      exact he.2.1 e' ((List.eraseIdx_sublist _ _).subset he')
    · rw [hmod, ChangeMaps.map_eraseIdx]
      exact (List.eraseIdx_sublist _ _).nodup he.2.2.1

/-! ### Walked over -/
/-- The iterator in block r has these pairs of the map in block b before it; nothing has been laid into the map since. -/
def Rng (w : World) (b r : Nat) (todo : List (List UInt8 × Value)) : Prop := ∃ es clock l seen c0, w.heap[b]? = some (.map es clock) ∧ EsAre es clock l ∧ w.heap[r]? = some (.mapIter (some b) clock seen c0) ∧ clock ≤ c0 ∧
  (Go.leftOf es seen).toList.map (fun e => (e.key, e.val)) = todo.map (fun x => (sv x.1, x.2))
theorem Rng.keep {w w' : World} {b r : Nat} {todo : List (List UInt8 × Value)} (h : Rng w b r todo) (hb : w'.heap[b]? = w.heap[b]?) (hr : w'.heap[r]? = w.heap[r]?) : Rng w' b r todo := by
  obtain ⟨es, clock, l, seen, c0, h1, h2, h3, h4, h5⟩ := h
  exact ⟨es, clock, l, seen, c0, hb.trans h1, h2, hr.trans h3, h4, h5⟩
theorem run_range (ht : P.underlying t = some (.map k e)) (h : SMap w b l) :
    ∃ o, (Instr.range t (.map (some b))).run P w = .ok (.pointer (some ⟨w.heap.size, 0, none⟩)) (w.alloc o) ∧ Rng (w.alloc o) b w.heap.size l := by
  obtain ⟨es, clock, hb, he⟩ := h
  have hg : (getObj b).run P w = .ok (.map es clock) w := MapKept.run_getObj_map hb
  refine ⟨.mapIter (some b) clock #[] clock, ?_, es, clock, l, #[], clock, ?_, he, heap_alloc_new w _, Nat.le_refl _, ?_⟩
  · simp [Instr.range, run_underlying ht, Result.andThen, hg, newObj, Sem.run]
  · rw [Below.heap_alloc _ _ _ (Array.getElem?_eq_some_iff.1 hb).1]
    exact hb
  · have : Go.leftOf es #[] = es := by simp [Go.leftOf]
    rw [this, he.1]
theorem filter_one {α : Type} (p : α → Nat) : ∀ (l : List α), (l.map p).Nodup → ∀ e ∈ l, ∃ l1 l2, l = l1 ++ e :: l2 ∧ l.filter (fun x => p x != p e) = l1 ++ l2 := by
  intro l
  induction l with
  | nil => intro _ e he; cases he
  | cons y l ih =>
    intro hn e he
    rw [List.map_cons, List.nodup_cons] at hn
    rcases List.mem_cons.1 he with rfl | he
    · refine ⟨[], l, rfl, ?_⟩
      rw [List.filter_cons_of_neg (by simp)]
      exact List.filter_eq_self.2 fun x hx => by
        rw [bne_iff_ne]
        exact fun e' => hn.1 (List.mem_map.2 ⟨x, hx, e'⟩)
    · obtain ⟨l1, l2, h1, h2⟩ := ih hn.2 e he
      refine ⟨y :: l1, l2, by rw [h1]; rfl, ?_⟩
      rw [List.filter_cons_of_pos (by rw [bne_iff_ne]; exact fun e' => hn.1 (List.mem_map.2 ⟨e, he, e'.symm⟩)), h2]
      rfl
theorem map_split {α β γ : Type} {f : α → γ} {g : β → γ} : ∀ {l1 l2 : List α} {x : α} {m : List β}, (l1 ++ x :: l2).map f = m.map g → ∃ m1 y m2, m = m1 ++ y :: m2 ∧ l1.map f = m1.map g ∧ f x = g y ∧ l2.map f = m2.map g := by
  intro l1
  induction l1 with
  | nil =>
    intro l2 x m h
    cases m with
    | nil => simp at h
    | cons y m =>
      simp only [List.nil_append, List.map_cons, List.cons.injEq] at h
      exact ⟨[], y, m, rfl, rfl, h.1, h.2⟩
  | cons z l1 ih =>
    intro l2 x m h
    cases m with
    | nil => simp at h
    | cons y m =>
      simp only [List.cons_append, List.map_cons, List.cons.injEq] at h
      obtain ⟨m1, y', m2, rfl, h1, h2, h3⟩ := ih h.2
      exact ⟨y :: m1, y', m2, rfl, by rw [List.map_cons, List.map_cons, h.1, h1], h2, h3⟩
theorem run_next1 {r : Nat} {todo : List (List UInt8 × Value)} (h : Rng w b r todo) (hbr : b ≠ r) (ty : TypeId) :
    (todo = [] ∧ (Instr.next (.pointer (some ⟨r, 0, none⟩)) false ty).run P w = .ok (.tuple #[.bool false]) w) ∨
    ∃ l1 x l2 w', todo = l1 ++ x :: l2 ∧ (Instr.next (.pointer (some ⟨r, 0, none⟩)) false ty).run P w = .ok (.tuple #[.bool true, sv x.1, x.2]) w' ∧ Rng w' b r (l1 ++ l2) ∧ Kp (fun j => j = r) w w' ∧
      (Instr.entry (.pointer (some ⟨r, 0, none⟩))).run P w' = .ok (.tuple #[sv x.1, x.2]) w' := by
  obtain ⟨es, clock, l, seen, c0, hb, he, hr, hc, hl⟩ := h
  rcases run_next_at (P := P) w ty r b clock c0 seen es clock hr hb he.2.1 hc with ⟨h1, h2⟩ | ⟨e, hm, w1, hw1, h2⟩
  · left
    refine ⟨?_, h2⟩
    have := congrArg List.length hl
    simp only [List.length_map, Array.length_toList, h1] at this
    exact List.eq_nil_of_length_eq_zero this.symm
  · right
    have hsub : (Go.leftOf es seen).toList.Sublist es.toList := by
      unfold Go.leftOf
      rw [Array.toList_filter]
      exact List.filter_sublist
    have hnd : ((Go.leftOf es seen).toList.map (·.born)).Nodup := (hsub.map _).nodup he.2.2.1
    obtain ⟨l1, l2, hs, hf⟩ := filter_one (fun e : MapEntry => e.born) _ hnd e hm
    have hl' := hl
    rw [hs] at hl'
    obtain ⟨m1, x, m2, rfl, g1, g2, g3⟩ := map_split hl'
    have hk : e.key = sv x.1 := congrArg Prod.fst g2
    have hv : e.val = x.2 := congrArg Prod.snd g2
    have hr1 : w1.heap[r]? = some (.mapIter (some b) clock seen c0) := by rcases hw1 with rfl | rfl <;> exact hr
    have hb1 : w1.heap[b]? = some (.map es clock) := by rcases hw1 with rfl | rfl <;> exact hb
    have hrb : (setBlock w1 r (.mapIter (some b) clock (seen.push e.born) clock)).heap[b]? = some (.map es clock) := by
      rw [(Kp.setBlock w1 r _).block b (Array.getElem?_eq_some_iff.1 hb1).1 hbr]
      exact hb1
    refine ⟨m1, x, m2, _, rfl, by rw [h2, hk, hv], ⟨es, clock, l, seen.push e.born, clock, hrb, he, setBlock_at hr1, Nat.le_refl _, ?_⟩, ?_, ?_⟩
    · have : (Go.leftOf es (seen.push e.born)).toList = (Go.leftOf es seen).toList.filter (fun x => x.born != e.born) := by
        unfold Go.leftOf
        rw [Array.toList_filter, Array.toList_filter, List.filter_filter]
        congr 1
        funext y
        rw [Array.contains_push]
        cases h : (y.born == e.born) <;> simp [bne, h]
      rw [this, hf, List.map_append, List.map_append, g1, g3]
    · rcases hw1 with rfl | rfl
      · exact Kp.setBlock _ _ _
      · exact (Kp.drew (fun j => j = r) w).trans (Kp.setBlock _ _ _) (fun _ _ h => h) (fun _ _ h => h)
    · rw [← hk, ← hv]
      exact run_entry_at (P := P) _ r b clock seen es clock e (setBlock_at hr1) hrb (hsub.subset hm) he.2.2.1
theorem run_next {r : Nat} {todo : List (List UInt8 × Value)} (h : Rng w b r todo) (hbr : b ≠ r) :
    (todo = [] ∧ ∀ ty, (Instr.next (.pointer (some ⟨r, 0, none⟩)) false ty).run P w = .ok (.tuple #[.bool false]) w) ∨
    ∃ l1 x l2 w', todo = l1 ++ x :: l2 ∧ (∀ ty, (Instr.next (.pointer (some ⟨r, 0, none⟩)) false ty).run P w = .ok (.tuple #[.bool true, sv x.1, x.2]) w') ∧ Rng w' b r (l1 ++ l2) ∧ Kp (fun j => j = r) w w' ∧
      (Instr.entry (.pointer (some ⟨r, 0, none⟩))).run P w' = .ok (.tuple #[sv x.1, x.2]) w' := by
  have e : ∀ ty, Instr.next (.pointer (some ⟨r, 0, none⟩)) false ty = Instr.next (.pointer (some ⟨r, 0, none⟩)) false 0 := fun _ => rfl
  rcases run_next1 (P := P) h hbr 0 with ⟨h1, h2⟩ | ⟨l1, x, l2, w', h1, h2, h3, h4, h5⟩
  · exact .inl ⟨h1, fun ty => by rw [e ty]; exact h2⟩
  · exact .inr ⟨l1, x, l2, w', h1, fun ty => by rw [e ty]; exact h2, h3, h4, h5⟩
end
end Go.Proofs.YtejmndfdmikfaaaDoor.Kit
