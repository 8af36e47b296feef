/- More of rows of a call's own: a cell that is set; an append, and whether it stayed where it was. -/
import Derived.Test.YtejmndfdmikfaaaDoorOwn
namespace Go.Proofs.YtejmndfdmikfaaaDoor.Kit
open Go Go.RowKit

/-- Where an append went: onto its own row, or into a new block, the old one untouched. -/
def End (w w' : World) (A : Option Addr) (c : Nat) (A' : Option Addr) (c' : Nat) : Prop := (A' = A ∧ c' = c ∧ Kp (Bk A) w w') ∨ (A' = some ⟨w.heap.size, 0, none⟩ ∧ Kp (fun _ => False) w w')
theorem End.kp {w w' : World} {A A' : Option Addr} {c c' : Nat} (h : End w w' A c A' c') : Kp (Bk A) w w' := by
  rcases h with ⟨_, _, h⟩ | ⟨_, h⟩
  · exact h
  · exact h.mono fun _ _ h => h.elim
theorem End.bk {w w' : World} {A A' : Option Addr} {c c' : Nat} (h : End w w' A c A' c') : ∀ k, Bk A' k → Bk A k ∨ k = w.heap.size := by
  rcases h with ⟨rfl, _, _⟩ | ⟨rfl, _⟩
  · exact fun k h => .inl h
  · exact fun k h => .inr (Bk.some_.1 h).symm
theorem Own.pre {w : World} {e : TypeId} {sz c n m : Nat} {A : Option Addr} {xs ys : List Value} (h : Own w e sz A c (n + m) (xs ++ ys)) (hx : xs.length = n * sz) : Own w e sz A c n xs := by
  refine ⟨hx, ?_⟩
  rcases h.2 with ⟨rfl, rfl, h0⟩ | ⟨g, cur, rfl, hg, h1, h2, h3, h4⟩
  · exact .inl ⟨rfl, rfl, by omega⟩
  · refine .inr ⟨g, cur, rfl, hg, by omega, h2, h3, ?_⟩
    have := congrArg (List.take (n * sz)) h4
    rw [List.take_take, Nat.min_eq_left (Nat.mul_le_mul_right _ (by omega)), ← hx, List.take_left] at this
    rw [← hx]
    exact this
/-- What was appended to still shows what it showed. -/
theorem End.old {w w' : World} {e : TypeId} {sz c c' n m : Nat} {A A' : Option Addr} {xs ys : List Value} (h : End w w' A c A' c') (ho : Own w e sz A c n xs) (hn : Own w' e sz A' c' (n + m) (xs ++ ys)) : Own w' e sz A c n xs := by
  rcases h with ⟨rfl, rfl, _⟩ | ⟨_, hk⟩
  · exact hn.pre ho.1
  · exact ho.new hk
theorem heap_setCell_row {w : World} {g j : Nat} {cur : Array Value} {e : TypeId} {fr : Nat × Nat} (hg : w.heap[g]? = some (.cells cur e fr)) (v : Value) : (w.setCell ⟨g, j, none⟩ v).heap[g]? = some (.cells (cur.setIfInBounds j v) e fr) := by
  have hlt : g < w.heap.size := (Array.getElem?_eq_some_iff.1 hg).1
  have hv : w.heap[g] = .cells cur e fr := (Array.getElem?_eq_some_iff.1 hg).2
  unfold World.setCell
  rw [Array.getElem?_eq_getElem (by simpa using hlt), Array.getElem_modify]
  simp [hv]
theorem Own.set {w : World} {e : TypeId} {sz c n g : Nat} {xs : List Value} (h : Own w e sz (some ⟨g, 0, none⟩) c n xs) (j : Nat) (v : Value) : Own (w.setCell ⟨g, j, none⟩ v) e sz (some ⟨g, 0, none⟩) c n (xs.set j v) := by
  refine ⟨by rw [List.length_set]; exact h.1, ?_⟩
  rcases h.2 with ⟨h, _⟩ | ⟨g', cur, e', hg, h1, h2, h3, h4⟩
  · cases h
  · cases e'
    refine .inr ⟨g, _, rfl, heap_setCell_row hg v, h1, h2, by rw [Array.size_setIfInBounds]; exact h3, ?_⟩
    rw [Array.toList_setIfInBounds, List.take_set, h4]

/-- What stands in a block, as what an append brings. -/
theorem Src.ofRow {P : Program} {w : World} {tx e' : TypeId} (hk : P.underlying tx = some (.slice e')) {g : Nat} {cs : Array Value} {e : TypeId} {fr : Nat × Nat} (hg : w.heap[g]? = some (.cells cs e fr)) (size n c : Nat) (hn : cs.size = n * size) (h1 : ∀ u ∈ cs.toList, u.oneCell' = true) :
    Src P size tx (.slice (some ⟨g, 0, none⟩) n c) n cs.toList w := by
  refine Src.ofSlice _ hk ⟨g, 0, none⟩ n c cs.toList (by simp [hn]) (fun j u hu => ?_) h1
  rw [Addr.add_lit, Nat.zero_add, cell_of_block hg]
  simpa using hu

section
variable {P : Program} (w : World)
theorem run_append_own_end (t tx ty e : TypeId) (i : TypeInfo) (z : Value) (ht : P.underlying t = some (.slice e)) (hi : P.info? e = some i) (hz : i.zero = some z) (hzs : z.cells.size = i.size)
    (A : Option Addr) (c n : Nat) (xs : List Value) (hown : Own w e i.size A c n xs) (x : Value) (m : Nat) (news : List Value) (hs : Src P i.size tx x m news w)
    (hbytes : (n + m) * i.bytes ≤ 140737488355328) (h63 : n + m ≤ 4611686018427387904) :
    ∃ A' c' w', (Builtin.append_ #[t, tx] ty #[.slice A n c, x]).run P w = .ok (.slice A' (n + m) c') w' ∧ Own w' e i.size A' c' (n + m) (xs ++ news) ∧ End w w' A c A' c' := by
  have hlen : (xs ++ news).length = (n + m) * i.size := by rw [List.length_append, hown.1, hs.newsLen, Nat.add_mul]
  have hcap := hown.cap
  by_cases hroom : n + m ≤ c
  · rcases hown.2 with ⟨rfl, rfl, rfl⟩ | ⟨g, cur, rfl, hg, hnc, hcm, hcs, htake⟩
    · obtain rfl : m = 0 := by omega
      have hn : news = [] := List.eq_nil_of_length_eq_zero (by have := hs.newsLen; omega)
      have hx : xs = [] := List.eq_nil_of_length_eq_zero (by have := hown.1; omega)
      subst hn
      subst hx
      refine ⟨none, 0, w, ?_, Own.nil _ _ _, .inl ⟨rfl, rfl, Kp.refl _ _⟩⟩
      rcases hs.kind with ⟨e', hk⟩ | hk <;> simp [Builtin.append_, run_underlying ht, run_underlying hk, sizeOf, typeInfo, hi, hs.len, hs.cells]
    · have hfit : n * i.size + news.length ≤ cur.size := by
        rw [hs.newsLen, ← Nat.add_mul]
        exact Nat.le_trans (Nat.mul_le_mul_right _ hroom) hcs
      have hst := run_storeCells_at P g (n * i.size) e news 0 cur w hg (by simpa using hfit) hs.one
      simp only [Nat.add_zero] at hst
      refine ⟨_, c, _, ?_, ⟨hlen, .inr ⟨g, _, rfl, setRow_heap w g cur (cur.toList.take (n * i.size) ++ news ++ cur.toList.drop (n * i.size + news.length)).toArray e _ hg, hroom, hcm, ?_, ?_⟩⟩, (.inl ⟨rfl, rfl, (Kp.setRow _ _ _).mono (fun k _ e => Bk.some_.2 e)⟩)⟩
      · rcases hs.kind with ⟨e', hk⟩ | hk <;> simp [Builtin.append_, run_underlying ht, run_underlying hk, sizeOf, typeInfo, hi, hs.len, hroom, hs.cells, Addr.add_lit, hst]
      · simp only [List.size_toArray, List.length_append, List.length_take, List.length_drop, Array.length_toList]
        omega
      · rw [htake, ← hlen]
        exact List.take_left
  · have hold : (Builtin.firstCells i.size n (.slice A n c)).run P w.drew = .ok xs.toArray w.drew := by
      rcases hown.form with ⟨rfl, rfl, rfl⟩ | ⟨g, rfl⟩
      · have hx : xs = [] := List.eq_nil_of_length_eq_zero (by have := hown.1; omega)
        subst hx
        exact run_firstCells_none w.drew i.size 0 0 0
      · refine run_firstCells_some w.drew i.size n ⟨g, 0, none⟩ n c xs hown.1 (fun j u hu => ?_)
        have := hown.cell hu
        simpa [Addr.add_lit] using this
    have hr := run_append_grow_src (P := P) w t tx ty e i z ht hi hz A n c xs hold x m news hs (by omega) (by omega) (growslice_fits (by omega) hbytes)
    have hge := grownCap_ge w (n + m) c e
    have hcm : grownCap w (n + m) c e ≤ maxLen := grownCap_le_maxLen w (n + m) c e (by simp only [maxLen]; omega)
    refine ⟨_, _, _, hr, ⟨hlen, .inr ⟨w.heap.size, _, rfl, heap_alloc_new w.drew _, hge, hcm, ?_, ?_⟩⟩, (.inr ⟨rfl, ⟨rfl, rfl, rfl, by simp, fun k hk _ => Below.heap_alloc w.drew _ k hk⟩⟩)⟩
    · simp only [Array.size_append, List.size_toArray, size_zeroCells, hzs, hlen, ← Nat.add_mul]
      exact Nat.mul_le_mul_right _ (by omega)
    · simp only [Array.toList_append, ← hlen]
      exact List.take_left

/-- append onto a row of the call's own, at one operation. -/
theorem wp_append_end {o : Oper} {a : Act} {K : Act → World → Prop} {Q : Exit → Act → World → Prop} (s xo : Operand) (t tx : TypeId)
    (ho : o.op = .call { callee := .builtin .append, args := #[s, xo], argTypes := #[t, tx] })
    (e : TypeId) (z : Value) (size bytes : Nat) (ht : P.underlying t = some (.slice e)) (hi : (P.info? e).map (fun i => (i.zero, i.size, i.bytes)) = some (some z, size, bytes)) (hzs : z.cells.size = size)
    (A : Option Addr) (c n : Nat) (xs : List Value) (hs : a.eval s = .slice A n c) (hown : Own w e size A c n xs)
    (x : Value) (hx : a.eval xo = x) (m : Nat) (news : List Value) (hsrc : Src P size tx x m news w)
    (hbytes : (n + m) * bytes ≤ 140737488355328) (h63 : n + m ≤ 4611686018427387904)
    (h : ∀ A' c' w', Own w' e size A' c' (n + m) (xs ++ news) → End w w' A c A' c' → K (a.put o.dst (.slice A' (n + m) c')) w') : o.wp P a w K Q := by
  obtain ⟨i, hi0, hz, rfl, rfl⟩ := info_parts hi
  obtain ⟨A', c', w', hr, h2, h3⟩ := run_append_own_end (P := P) w t tx o.type e i z ht hi0 hz hzs A c n xs hown x m news hsrc hbytes h63
  unfold Oper.wp execOp
  simp only [ho, resolve, invoke, builtin, Sem.run_bind, Sem.run_pure, Result.andThen_ok, List.map_toArray, List.map_cons, List.map_nil, hs, hx, hr]
  exact h A' c' w' h2 h3

/-- append onto a row of the call's own, for the walk. -/
theorem wpList_append_end {ops : Array Oper} {rest : List Oper} {o : Oper} {a : Act} {Q : Exit → Act → World → Prop} (hgd : o.guard = none) (s xo : Operand) (t tx : TypeId)
    (ho : o.op = .call { callee := .builtin .append, args := #[s, xo], argTypes := #[t, tx] })
    (e : TypeId) (z : Value) (size bytes : Nat) (ht : P.underlying t = some (.slice e)) (hi : (P.info? e).map (fun i => (i.zero, i.size, i.bytes)) = some (some z, size, bytes)) (hzs : z.cells.size = size)
    (A : Option Addr) (c n : Nat) (xs : List Value) (hs : a.eval s = .slice A n c) (hown : Own w e size A c n xs)
    (x : Value) (hx : a.eval xo = x) (m : Nat) (news : List Value) (hsrc : Src P size tx x m news w)
    (hbytes : (n + m) * bytes ≤ 140737488355328) (h63 : n + m ≤ 4611686018427387904)
    (h : ∀ A' c' w', Own w' e size A' c' (n + m) (xs ++ news) → End w w' A c A' c' → wpList P ops Q rest (a.put o.dst (.slice A' (n + m) c')) w') : wpList P ops Q (o :: rest) a w := by
  obtain ⟨i, hi0, hz, rfl, rfl⟩ := info_parts hi
  obtain ⟨A', c', w', hr, h2, h3⟩ := run_append_own_end (P := P) w t tx o.type e i z ht hi0 hz hzs A c n xs hown x m news hsrc hbytes h63
  refine wpList_plain hgd fun K hK => ?_
  unfold Oper.wp execOp
  simp only [ho, resolve, invoke, builtin, Sem.run_bind, Sem.run_pure, Result.andThen_ok, List.map_toArray, List.map_cons, List.map_nil, hs, hx, hr]
  exact hK _ _ (h A' c' w' h2 h3)

end
end Go.Proofs.YtejmndfdmikfaaaDoor.Kit
