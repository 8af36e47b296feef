/- slices.Insert of one entry into a row of the call's own. -/
import Derived.Test.YtejmndfdmikfaaaDoorProg
import Derived.Test.YtejmndfdmikfaaaDoorSlices
import Derived.Test.YtejmndfdmikfaaaDoorLine
import Derived.Lib.AppendZerosOnto
import Derived.Lib.Overlaps
import Derived.Laws.Externs
import Derived.Laws.IdiomCopy
import Derived.WalkKit
namespace Go.Proofs.YtejmndfdmikfaaaDoor.Kit
open Go Go.RowKit

theorem run_copy_rowk {P : Program} (w : World) (dT sT ty elem : TypeId) (g o dLen dCap : Nat) (a : Addr) (sLen sCap : Nat) (cur : Array Value) (t : TypeId) (cs : List Value) (sz : Nat)
    (hu : P.underlying dT = some (.slice elem)) (hs : (P.info? elem).map (·.size) = some sz)
    (hg : w.heap[g]? = some (.cells cur t (0, 0))) (hn : cs.length = Nat.min sLen dLen * sz)
    (hsrc : ∀ j v, cs[j]? = some v → w.cell? (a.add j) = some v) (hfit : o + cs.length ≤ cur.size) (h1 : ∀ v ∈ cs, v.oneCell' = true) :
    (Builtin.copy_ #[dT, sT] ty #[.slice (some ⟨g, o, none⟩) dLen dCap, .slice (some a) sLen sCap]).run P w =
      .ok (goInt (Nat.min sLen dLen)) (w.setRow g (cur.toList.take o ++ cs ++ cur.toList.drop (o + cs.length)).toArray) := by
  have hl := run_firstCells_some (P := P) w sz (Nat.min sLen dLen) a sLen sCap cs hn hsrc
  have hst := run_storeCells_at P g o t cs 0 cur w hg (by simpa using hfit) h1
  simp only [Nat.add_zero] at hst
  cases hq : P.info? elem with
  | none => simp [hq] at hs
  | some i =>
    have hi : i.size = sz := by simpa [hq] using hs
    simp only [Builtin.copy_, Builtin.lenOf, sizeOf, typeInfo]
    simp [run_underlying hu, hq, hi, hl, hst]
/-- A copy, at one operation. -/
theorem wp_copyk {P : Program} {w : World} {o : Oper} {a : Act} {K : Act → World → Prop} {Q : Exit → Act → World → Prop} (d s : Operand) (t t' : TypeId)
    (ho : o.op = .call { callee := .builtin .copy, args := #[d, s], argTypes := #[t, t'] }) (v u : Value) (hd : a.eval d = v) (hs : a.eval s = u) {v' : Value} {w' : World}
    (hr : (Builtin.copy_ #[t, t'] o.type #[v, u]).run P w = .ok v' w') (h : K (a.put o.dst v') w') : o.wp P a w K Q := by
  unfold Oper.wp execOp
  simp only [ho, resolve, invoke, builtin, Sem.run_bind, Sem.run_pure, Result.andThen_ok, List.map_toArray, List.map_cons, List.map_nil, hd, hs, hr]
  exact h
theorem wpList_copyk {P : Program} {w : World} {ops : Array Oper} {rest : List Oper} {o : Oper} {a : Act} {Q : Exit → Act → World → Prop} (hgd : o.guard = none) (d s : Operand) (t t' : TypeId)
    (ho : o.op = .call { callee := .builtin .copy, args := #[d, s], argTypes := #[t, t'] }) (v u : Value) (hd : a.eval d = v) (hs : a.eval s = u) {v' : Value} {w' : World}
    (hr : (Builtin.copy_ #[t, t'] o.type #[v, u]).run P w = .ok v' w') (h : wpList P ops Q rest (a.put o.dst v') w') : wpList P ops Q (o :: rest) a w :=
  wpList_plain hgd fun _ hK => wp_copyk d s t t' ho v u hd hs hr (hK _ _ h)

theorem Tryd.info_entry : (Tryd.prog.info? 125).map (fun i => (i.zero, i.size, i.bytes)) = some (some (.agg #[.int .i64 0, .slice none 0 0]), 2, 32) := by kernel_rfl
theorem Tryd.size_entry : (Tryd.prog.info? 125).map (·.size) = some 2 := by kernel_rfl
def InsPost (w : World) (A : Option Addr) (n i : Nat) (xs : List Value) (x0 x1 : Value) (e : Ending) (w' : World) : Prop :=
  ∃ A' c', e = .returned (.slice A' (n + 1) c') ∧ Own w' 125 2 A' c' (n + 1) (xs.take (i * 2) ++ [x0, x1] ++ xs.drop (i * 2)) ∧ Kp (Bk A) w w' ∧ ∀ k, Bk A' k → Bk A k ∨ w.heap.size ≤ k
theorem InsPost.mk {w w' : World} {A A' : Option Addr} {c' n i : Nat} {xs : List Value} {x0 x1 : Value} (h : Own w' 125 2 A' c' (n + 1) (xs.take (i * 2) ++ [x0, x1] ++ xs.drop (i * 2))) (hk : Kp (Bk A) w w') (hA : ∀ k, Bk A' k → Bk A k ∨ w.heap.size ≤ k) :
    InsPost w A n i xs x0 x1 (.returned (.slice A' (n + 1) c')) w' := ⟨A', c', rfl, h, hk, hA⟩
/-- The row behind an insertion in place. -/
theorem ins_row {xs cur : List Value} {i n : Nat} {x0 x1 : Value} (hx : xs.length = n * 2) (hi : i < n) (hc : (n + 1) * 2 ≤ cur.length) (ht : cur.take (n * 2) = xs) :
    ((((cur.take ((i + 1) * 2) ++ xs.drop (i * 2) ++ cur.drop ((i + 1) * 2 + (xs.drop (i * 2)).length)).take (i * 2) ++ [x0, x1] ++ (cur.take ((i + 1) * 2) ++ xs.drop (i * 2) ++ cur.drop ((i + 1) * 2 + (xs.drop (i * 2)).length)).drop (i * 2 + 2))).take ((n + 1) * 2)) = xs.take (i * 2) ++ [x0, x1] ++ xs.drop (i * 2) := by
  have hd : (xs.drop (i * 2)).length = n * 2 - i * 2 := by rw [List.length_drop, hx]
  have e1 : (cur.take ((i + 1) * 2) ++ xs.drop (i * 2) ++ cur.drop ((i + 1) * 2 + (xs.drop (i * 2)).length)).take (i * 2) = xs.take (i * 2) := by
    rw [List.append_assoc, List.take_append_of_le_length (by rw [List.length_take]; omega), List.take_take, ← ht, List.take_take]
    congr 1
    omega
  have e2 : (cur.take ((i + 1) * 2) ++ xs.drop (i * 2) ++ cur.drop ((i + 1) * 2 + (xs.drop (i * 2)).length)).drop (i * 2 + 2) = xs.drop (i * 2) ++ cur.drop ((i + 1) * 2 + (xs.drop (i * 2)).length) := by
    rw [List.append_assoc, List.drop_append]
    have h1 : (cur.take ((i + 1) * 2)).length = (i + 1) * 2 := by rw [List.length_take]; omega
    rw [List.drop_of_length_le (by rw [h1]; omega), h1, show i * 2 + 2 - (i + 1) * 2 = 0 by omega, List.drop_zero, List.nil_append]
  rw [e1, e2, ← List.append_assoc, List.take_append_of_le_length, List.take_of_length_le]
  · simp only [List.length_append, List.length_take, List.length_cons, List.length_nil, hd, hx]; omega
  · simp only [List.length_append, List.length_take, List.length_cons, List.length_nil, hd, hx]; omega
set_option maxRecDepth 100000 in
set_option maxHeartbeats 4000000 in
/-- At the end. -/
theorem Insert_end (w : World) (A : Option Addr) (c n vb : Nat) (xs : List Value) (x0 x1 : Value) (h : Own w 125 2 A c n xs) (hv : w.heap[vb]? = some (.cells #[x0, x1] 125 (0, 0)))
    (h0 : x0.oneCell' = true) (h1 : x1.oneCell' = true) (hb : n ≤ 1099511627776) :
    Calls Tryd.prog 70 #[.slice A n c, .int .i64 n, .slice (some ⟨vb, 0, none⟩) 1 1] w (InsPost w A n n xs x0 x1) := by
  have hsf := run_slice_from (P := Tryd.prog) 120 125 Tryd.underlying120 2 Tryd.size_entry A n c n (Nat.le_refl _)
  have hs : Src Tryd.prog 2 119 (.slice (some ⟨vb, 0, none⟩) 1 1) 1 [x0, x1] w := Src.ofRow Tryd.underlying119 hv 2 1 1 rfl (by simp [h0, h1])
  have hl := h.1
  have HX := Lib.hid (And.intro h (And.intro hs hl))
  clear h hs h0 h1 hv hl
  go_enter Tryd.func70, Tryd.ntmps70
  go_wp2_with (at_builtin; refine wpList_append_src _ rfl (.tmp 23) (.tmp 24) 120 119 rfl 125 _ 2 32 Tryd.underlying120 Tryd.info_entry rfl A c n xs rfl HX.out.1 _ rfl 1 _ HX.out.2.1 (by omega) (by omega) ?_; intro A3 c3 w3 h31 h32 h33; have H3 := Lib.hid (And.intro h31 (And.intro h32 h33)); clear h31 h32 h33)
  go_ret
  refine InsPost.mk ?_ H3.out.2.1 fun k hk => (H3.out.2.2 k hk).imp id fun h => by omega
  have := H3.out.1
  rw [List.take_of_length_le (by rw [HX.out.2.2]; omega), List.drop_of_length_le (by rw [HX.out.2.2]; omega), List.append_nil]
  exact this
theorem ins_over (w : World) (vb g : Nat) (cv cur : Array Value) (tv tg : TypeId) (hne : vb ≠ g) (hv : w.heap[vb]? = some (.cells cv tv (0, 0))) (hg : w.heap[g]? = some (.cells cur tg (0, 0))) (hcur : cur.size ≠ 0) (o lb cb : Nat) :
    (callFunc 88 #[.slice (some ⟨vb, 0, none⟩) 1 1, .slice (some ⟨g, o, none⟩) lb cb]).run Tryd.prog w = .ok (.value (.bool false)) w := by
  have hz : ∀ w, (Go.sizeOf 125).run Tryd.prog w = .ok 2 w := fun w => by
    have := Tryd.size_entry
    cases hq : Tryd.prog.info? 125 with
    | none => rw [hq] at this; cases this
    | some i =>
      rw [hq] at this
      have hi : i.size = 2 := by simpa using this
      simp [sizeOf, typeInfo, hq, hi]
  rw [run_callFunc_extern Tryd.func88 (by kernel_rfl) (by kernel_rfl) (by kernel_rfl) (e := Extern.SlicesOverlaps.overlaps #[119, 119] #[4]) (by kernel_rfl),
    Lib.run_overlaps_apart w 119 4 125 Tryd.underlying119 2 hz ⟨vb, 0, none⟩ ⟨g, o, none⟩ 1 1 lb cb hne tv tg cv.size cur.size (by simp [World.shape?, hv]) (by simp [World.shape?, hg]) hcur (by simp [World.frozen?, hv]) (by simp [World.frozen?, hv])]
  rfl
set_option maxRecDepth 100000 in
set_option maxHeartbeats 4000000 in
/-- In the middle, where there is room. -/
theorem Insert_room (w : World) (g c n i vb : Nat) (xs : List Value) (x0 x1 : Value) (h : Own w 125 2 (some ⟨g, 0, none⟩) c n xs) (hi : i < n) (hroom : n + 1 ≤ c) (hv : w.heap[vb]? = some (.cells #[x0, x1] 125 (0, 0))) (hne : vb ≠ g)
    (hx1 : ∀ u ∈ xs, u.oneCell' = true) (h0 : x0.oneCell' = true) (h1 : x1.oneCell' = true) (hb : n ≤ 1099511627776) :
    Calls Tryd.prog 70 #[.slice (some ⟨g, 0, none⟩) n c, .int .i64 i, .slice (some ⟨vb, 0, none⟩) 1 1] w (InsPost w (some ⟨g, 0, none⟩) n i xs x0 x1) := by
  have hmo : Tryd.prog.follows Departure.mixedOrders = true := by kernel_rfl
  have hl := h.1
  rcases h.2 with ⟨hc, _⟩ | ⟨g', cur, e', hg, hnc, hcm, hcs, htake⟩
  · cases hc
  cases e'
  have hcur : cur.size ≠ 0 := by omega
  have hsf := run_slice_from (P := Tryd.prog) 120 125 Tryd.underlying120 2 Tryd.size_entry (some ⟨g, 0, none⟩) n c i (by omega)
  have hsu := run_slice_upto (P := Tryd.prog) 120 125 Tryd.underlying120 2 Tryd.size_entry (some ⟨g, 0, none⟩) n c (n + 1) (by omega)
  have hs1 := run_slice_from (P := Tryd.prog) 120 125 Tryd.underlying120 2 Tryd.size_entry (some ⟨g, 0, none⟩) (n + 1) c (i + 1) (by omega)
  have hs2 := run_slice_from (P := Tryd.prog) 120 125 Tryd.underlying120 2 Tryd.size_entry (some ⟨g, 0, none⟩) (n + 1) c i (by omega)
  obtain ⟨o1, ho1⟩ : ∃ o1, (i + 1) * 2 = o1 := ⟨_, rfl⟩
  obtain ⟨o2, ho2⟩ : ∃ o2, i * 2 = o2 := ⟨_, rfl⟩
  have a1 : adv (some ⟨g, 0, none⟩) c (i + 1) 2 = some ⟨g, o1, none⟩ := by unfold adv; rw [if_neg (by omega)]; simp [Addr.add_lit, ← ho1]
  have a2 : adv (some ⟨g, 0, none⟩) c i 2 = some ⟨g, o2, none⟩ := by unfold adv; rw [if_neg (by omega)]; simp [Addr.add_lit, ← ho2]
  obtain ⟨l1, hl1⟩ : ∃ l1, n + 1 - (i + 1) = l1 := ⟨_, rfl⟩
  obtain ⟨l2, hl2⟩ : ∃ l2, n + 1 - i = l2 := ⟨_, rfl⟩
  obtain ⟨c1, hc1⟩ : ∃ c1, c - (i + 1) = c1 := ⟨_, rfl⟩
  obtain ⟨c2, hc2⟩ : ∃ c2, c - i = c2 := ⟨_, rfl⟩
  rw [a1, hl1, hc1] at hs1
  rw [a2, hl2, hc2] at hs2
  simp only [show ((n + 1 : Nat) : Int) = (n : Int) + 1 by omega] at hsu
  simp only [show ((i + 1 : Nat) : Int) = (i : Int) + 1 by omega] at hs1
  have hov := ins_over w vb g _ cur _ _ hne hv hg hcur o1
  have hcl : (n + 1) * 2 ≤ cur.toList.length := by simp; omega
  have hcp1 : ∀ ty, (Builtin.copy_ #[120, 120] ty #[.slice (some ⟨g, o1, none⟩) l1 c1, .slice (some ⟨g, o2, none⟩) l2 c2]).run Tryd.prog w.drew = .ok (goInt (Nat.min l2 l1)) (w.drew.setRow g (cur.toList.take o1 ++ xs.drop o2 ++ cur.toList.drop (o1 + (xs.drop o2).length)).toArray) := fun ty =>
    run_copy_rowk w.drew _ _ ty 125 g o1 l1 c1 ⟨g, o2, none⟩ l2 c2 cur 125 (xs.drop o2) 2 Tryd.underlying120 Tryd.size_entry hg (by rw [List.length_drop]; simp only [Nat.min_def]; split <;> omega)
      (fun j v hj => by
        rw [Addr.add_lit]
        rw [List.getElem?_drop] at hj
        exact h.cell hj) (by rw [List.length_drop]; simp at hcl; omega) (fun v hv => hx1 v (List.mem_of_mem_drop hv))
  obtain ⟨R1, hR1⟩ : ∃ R1, (cur.toList.take o1 ++ xs.drop o2 ++ cur.toList.drop (o1 + (xs.drop o2).length)).toArray = R1 := ⟨_, rfl⟩
  have hR1s : R1.size = cur.size := by
    rw [← hR1]
    simp only [List.size_toArray, List.length_append, List.length_take, List.length_drop, Array.length_toList]
    simp at hcl
    omega
  obtain ⟨W1, hW1⟩ : ∃ W1, w.drew.setRow g R1 = W1 := ⟨_, rfl⟩
  rw [hR1, hW1] at hcp1
  have hg1 : W1.heap[g]? = some (.cells R1 125 (0, 0)) := by rw [← hW1]; exact setRow_heap w.drew g cur R1 _ _ hg
  have hv1 : W1.heap[vb]? = some (.cells #[x0, x1] 125 (0, 0)) := by rw [← hW1, setRow_other _ _ _ _ hne]; exact hv
  have k1 : Kp (Bk (some ⟨g, 0, none⟩)) w W1 := ((Kp.drew _ w).trans (hW1 ▸ Kp.setRow _ _ _) (fun _ _ h => h) (fun _ _ e => Bk.some_.2 e))
  have hcp2 : ∀ ty, (Builtin.copy_ #[120, 119] ty #[.slice (some ⟨g, o2, none⟩) l2 c2, .slice (some ⟨vb, 0, none⟩) 1 1]).run Tryd.prog W1 = .ok (goInt (Nat.min 1 l2)) (W1.setRow g (R1.toList.take o2 ++ [x0, x1] ++ R1.toList.drop (o2 + 2)).toArray) := fun ty =>
    run_copy_rowk W1 _ _ ty 125 g o2 l2 c2 ⟨vb, 0, none⟩ 1 1 R1 125 [x0, x1] 2 Tryd.underlying120 Tryd.size_entry hg1 (by simp only [Nat.min_def]; split <;> simp <;> omega)
      (fun j v hj => by
        rw [Addr.add_lit, Nat.zero_add, cell_of_block hv1]
        simpa using hj) (by simp; omega) (by simp [h0, h1])
  obtain ⟨R2, hR2⟩ : ∃ R2, (R1.toList.take o2 ++ [x0, x1] ++ R1.toList.drop (o2 + 2)).toArray = R2 := ⟨_, rfl⟩
  obtain ⟨W2, hW2⟩ : ∃ W2, W1.setRow g R2 = W2 := ⟨_, rfl⟩
  rw [hR2, hW2] at hcp2
  have hg2 : W2.heap[g]? = some (.cells R2 125 (0, 0)) := by rw [← hW2]; exact setRow_heap W1 g R1 R2 _ _ hg1
  have k2 : Kp (Bk (some ⟨g, 0, none⟩)) w W2 := k1.trans (hW2 ▸ Kp.setRow _ _ _) (fun _ _ h => h) (fun _ _ e => Bk.some_.2 e)
  have hR2s : R2.size = cur.size := by
    rw [← hR2]
    simp only [List.size_toArray, List.length_append, List.length_take, List.length_drop, Array.length_toList, List.length_cons, List.length_nil]
    simp at hcl
    omega
  have hfin : R2.toList.take ((n + 1) * 2) = xs.take (i * 2) ++ [x0, x1] ++ xs.drop (i * 2) := by
    have := ins_row (x0 := x0) (x1 := x1) hl hi hcl htake
    rw [ho1, ho2] at this
    rw [← hR2, ← hR1, ho2]
    exact this
  have HX := Lib.hid (And.intro k2 (And.intro (show Own W2 125 2 (some ⟨g, 0, none⟩) c (n + 1) (xs.take (i * 2) ++ [x0, x1] ++ xs.drop (i * 2)) from ⟨by rw [List.length_append, List.length_append, List.length_take, List.length_drop]; simp; omega, .inr ⟨g, R2, rfl, hg2, hroom, hcm, by omega, hfin⟩⟩) hW2))
  have hw1 : IntKind.i64.wrap ((i : Int) + 1) = (i : Int) + 1 := by rw [IntKind.wrap_i64]; omega
  have hci : ¬ ((i : Int) = (n : Int)) := by omega
  have hcr : ¬ ((c : Int) < (n : Int) + 1) := by omega
  clear h hl htake hcs hcm hnc hx1 hg hv hg1 hv1 hR1s hR2s hR1 hR2 hfin hg2 k1 k2 hW2 hcl hl1 hl2 hc1 hc2 ho1 ho2 a1 a2 hcur
  go_enter Tryd.func70, Tryd.ntmps70
  go_wp2_with (simp only [hov])
  refine wp_region_line (fun _ => True) (pl := [(0, true), (1, true), (2, true), (3, true), (4, true), (5, true), (6, true), (7, true), (8, false)]) hmo (by kernel_rfl) trivial ?_
  iterate 8 (refine line_get rfl rfl (fun K hK => ?_); apply Exists.intro; refine ⟨fun w hS => ?_, ?_⟩; (first | (have hS' := hS rfl; go_simp; with_reducible rfl) | (go_simp; with_reducible rfl)); (go_simp; refine hK _ ?_; clear hK K))
  (refine line_do rfl rfl (fun K hK => ?_); go_simp)
  refine hK _ _ (no_need (by kernel_rfl)) ?_
  clear hK K
  refine line_nil ?_
  go_wp2_with (at_builtin; refine wpList_copyk rfl (.tmp 80) (.tmp 81) 120 119 rfl (.slice (some ⟨g, o2, none⟩) l2 c2) (.slice (some ⟨vb, 0, none⟩) 1 1) rfl rfl (hcp2 _) ?_)
  go_ret
  exact InsPost.mk HX.out.2.1 HX.out.1 fun k hk => .inl hk
/-- The row behind an insertion into a new one. -/
theorem ins_grown {xs row : List Value} {i n : Nat} {x0 x1 : Value} (hx : xs.length = n * 2) (hi : i < n) (ht : row.take (i * 2) = xs.take (i * 2)) :
    (((row.take (i * 2) ++ [x0, x1] ++ row.drop (i * 2 + 2)).take ((i + 1) * 2) ++ xs.drop (i * 2) ++ (row.take (i * 2) ++ [x0, x1] ++ row.drop (i * 2 + 2)).drop ((i + 1) * 2 + (xs.drop (i * 2)).length)).take ((n + 1) * 2)) = xs.take (i * 2) ++ [x0, x1] ++ xs.drop (i * 2) := by
  have hd : (xs.drop (i * 2)).length = n * 2 - i * 2 := by rw [List.length_drop, hx]
  have e1 : (row.take (i * 2) ++ [x0, x1] ++ row.drop (i * 2 + 2)).take ((i + 1) * 2) = xs.take (i * 2) ++ [x0, x1] := by
    rw [ht, List.take_append_of_le_length (by simp; omega), List.take_of_length_le (by simp; omega)]
  rw [e1, List.take_append_of_le_length, List.take_of_length_le]
  · simp only [List.length_append, List.length_take, List.length_cons, List.length_nil, hd, hx]; omega
  · simp only [List.length_append, List.length_take, List.length_cons, List.length_nil, hd, hx]; omega
set_option maxRecDepth 100000 in
set_option maxHeartbeats 4000000 in
/-- In the middle, where there is no room. -/
theorem Insert_grow (w : World) (g c n i vb : Nat) (xs : List Value) (x0 x1 : Value) (h : Own w 125 2 (some ⟨g, 0, none⟩) c n xs) (hi : i < n) (hroom : c < n + 1) (hv : w.heap[vb]? = some (.cells #[x0, x1] 125 (0, 0)))
    (hx1 : ∀ u ∈ xs, u.oneCell' = true) (h0 : x0.oneCell' = true) (h1 : x1.oneCell' = true) (hb : n ≤ 1099511627776) :
    Calls Tryd.prog 70 #[.slice (some ⟨g, 0, none⟩) n c, .int .i64 i, .slice (some ⟨vb, 0, none⟩) 1 1] w (InsPost w (some ⟨g, 0, none⟩) n i xs x0 x1) := by
  have hmo : Tryd.prog.follows Departure.mixedOrders = true := by kernel_rfl
  have hl := h.1
  have hnc := h.cap.1
  obtain rfl : c = n := by omega
  obtain ⟨i0, hi0, hz0, hzs, hzb⟩ := info_parts Tryd.info_entry
  have hgl : g < w.heap.size := h.lt g (Bk.some_.2 rfl)
  have hvl : vb < w.heap.size := (Array.getElem?_eq_some_iff.1 hv).1
  have hold : (Builtin.firstCells i0.size i (.slice (some ⟨g, 0, none⟩) i c)).run Tryd.prog w.drew = .ok (xs.take (i * 2)).toArray w.drew := by
    rw [hzs]
    exact run_firstCells_some w.drew 2 i ⟨g, 0, none⟩ i c (xs.take (i * 2)) (by rw [List.length_take]; omega) (fun j v hj => by
      rw [Addr.add_lit, Nat.zero_add]
      rw [List.getElem?_take] at hj
      split at hj
      · exact h.cell hj
      · cases hj)
  have hik : i + (c + 1 - i) = c + 1 := by omega
  have hrz : ∀ ty, (Builtin.append_ #[120, 3] ty #[.slice (some ⟨g, 0, none⟩) i c, .int .i64 ((c : Int) + 1 - (i : Int))]).run Tryd.prog w =
      .ok (.slice (some ⟨w.heap.size, 0, none⟩) (c + 1) (grownCap w (c + 1) c 125)) (w.drew.alloc (.cells ((xs.take (i * 2)).toArray ++ Builtin.zeroCells (Value.agg #[.int .i64 0, .slice none 0 0]).cells (c + 1 - i) ++ Builtin.zeroCells (Value.agg #[.int .i64 0, .slice none 0 0]).cells (grownCap w (c + 1) c 125 - (c + 1))) 125)) := fun ty => by
    have h := Lib.run_append_grow_zeros w 120 3 ty 125 i0 _ .i64 .i64 Tryd.underlying120 Tryd.underlying3 hi0 hz0 (some ⟨g, 0, none⟩) i c (xs.take (i * 2)) hold (c + 1 - i) (by omega) (by omega) (by omega) (by omega) (by rw [hzb]; omega) (by rw [hzb, hik]; exact growslice_fits hroom (by omega))
    rw [hik] at h
    rw [show (c : Int) + 1 - (i : Int) = ((c + 1 - i : Nat) : Int) by omega]
    exact h
  obtain ⟨G, hG⟩ : ∃ G, grownCap w (c + 1) c 125 = G := ⟨_, rfl⟩
  have hGn : c + 1 ≤ G := by rw [← hG]; exact grownCap_ge w _ _ _
  have hGm : G ≤ maxLen := by rw [← hG]; exact grownCap_le_maxLen w (c + 1) c _ (by unfold maxLen; omega)
  rw [hG] at hrz
  obtain ⟨ROW, hROW⟩ : ∃ ROW : Array Value, (xs.take (i * 2)).toArray ++ Builtin.zeroCells (Value.agg #[.int .i64 0, .slice none 0 0]).cells (c + 1 - i) ++ Builtin.zeroCells (Value.agg #[.int .i64 0, .slice none 0 0]).cells (G - (c + 1)) = ROW := ⟨_, rfl⟩
  rw [hROW] at hrz
  have hRs : ROW.size = G * 2 := by
    rw [← hROW]
    simp only [Array.size_append, List.size_toArray, List.length_take, size_zeroCells, hl]
    simp [Value.cells]
    omega
  have hRt : ROW.toList.take (i * 2) = xs.take (i * 2) := by
    rw [← hROW]
    simp only [Array.toList_append]
    rw [List.append_assoc, List.take_append_of_le_length (by simp; omega), List.take_of_length_le (by simp; omega)]
  obtain ⟨W1, hW1⟩ : ∃ W1, w.drew.alloc (.cells ROW 125) = W1 := ⟨_, rfl⟩
  rw [hW1] at hrz
  obtain ⟨B, hB⟩ : ∃ B, w.heap.size = B := ⟨_, rfl⟩
  rw [hB] at hrz
  have hB1 : W1.heap[B]? = some (.cells ROW 125 (0, 0)) := by rw [← hW1, ← hB]; exact heap_alloc_new w.drew _
  have n1 : New w W1 := hW1 ▸ (Kp.drew _ w).trans (Kp.alloc _ _ _) (fun _ _ h => h) (fun _ _ h => h)
  have hv1 : W1.heap[vb]? = some (.cells #[x0, x1] 125 (0, 0)) := (n1.block vb hvl id).trans hv
  have o1' := h.new n1
  obtain ⟨o1, ho1⟩ : ∃ o1, (i + 1) * 2 = o1 := ⟨_, rfl⟩
  obtain ⟨o2, ho2⟩ : ∃ o2, i * 2 = o2 := ⟨_, rfl⟩
  have hsf := run_slice_from (P := Tryd.prog) 120 125 Tryd.underlying120 2 Tryd.size_entry (some ⟨g, 0, none⟩) c c i (by omega)
  have hsu := run_slice_upto (P := Tryd.prog) 120 125 Tryd.underlying120 2 Tryd.size_entry (some ⟨g, 0, none⟩) c c i (by omega)
  have hs1 := run_slice_from (P := Tryd.prog) 120 125 Tryd.underlying120 2 Tryd.size_entry (some ⟨B, 0, none⟩) (c + 1) G i (by omega)
  have hs2 := run_slice_from (P := Tryd.prog) 120 125 Tryd.underlying120 2 Tryd.size_entry (some ⟨B, 0, none⟩) (c + 1) G (i + 1) (by omega)
  have a0 : adv (some ⟨g, 0, none⟩) c i 2 = some ⟨g, o2, none⟩ := by unfold adv; rw [if_neg (by omega)]; simp [Addr.add_lit, ← ho2]
  have a1 : adv (some ⟨B, 0, none⟩) G i 2 = some ⟨B, o2, none⟩ := by unfold adv; rw [if_neg (by omega)]; simp [Addr.add_lit, ← ho2]
  have a2 : adv (some ⟨B, 0, none⟩) G (i + 1) 2 = some ⟨B, o1, none⟩ := by unfold adv; rw [if_neg (by omega)]; simp [Addr.add_lit, ← ho1]
  obtain ⟨l0, hl0⟩ : ∃ l0, c - i = l0 := ⟨_, rfl⟩
  obtain ⟨l1, hl1⟩ : ∃ l1, c + 1 - i = l1 := ⟨_, rfl⟩
  obtain ⟨l2, hl2⟩ : ∃ l2, c + 1 - (i + 1) = l2 := ⟨_, rfl⟩
  obtain ⟨c1, hc1⟩ : ∃ c1, G - i = c1 := ⟨_, rfl⟩
  obtain ⟨c2, hc2⟩ : ∃ c2, G - (i + 1) = c2 := ⟨_, rfl⟩
  rw [a0, hl0] at hsf
  rw [a1, hl1, hc1] at hs1
  rw [a2, hl2, hc2] at hs2
  simp only [show ((i + 1 : Nat) : Int) = (i : Int) + 1 by omega] at hs2
  have hcpA : ∀ ty, (Builtin.copy_ #[120, 119] ty #[.slice (some ⟨B, o2, none⟩) l1 c1, .slice (some ⟨vb, 0, none⟩) 1 1]).run Tryd.prog W1 = .ok (goInt (Nat.min 1 l1)) (W1.setRow B (ROW.toList.take o2 ++ [x0, x1] ++ ROW.toList.drop (o2 + 2)).toArray) := fun ty =>
    run_copy_rowk W1 _ _ ty 125 B o2 l1 c1 ⟨vb, 0, none⟩ 1 1 ROW 125 [x0, x1] 2 Tryd.underlying120 Tryd.size_entry hB1 (by simp only [Nat.min_def]; split <;> simp <;> omega)
      (fun j v hj => by
        rw [Addr.add_lit, Nat.zero_add, cell_of_block hv1]
        simpa using hj) (by simp; omega) (by simp [h0, h1])
  obtain ⟨R1, hR1⟩ : ∃ R1, (ROW.toList.take o2 ++ [x0, x1] ++ ROW.toList.drop (o2 + 2)).toArray = R1 := ⟨_, rfl⟩
  obtain ⟨W2, hW2⟩ : ∃ W2, W1.setRow B R1 = W2 := ⟨_, rfl⟩
  rw [hR1, hW2] at hcpA
  have hR1s : R1.size = G * 2 := by
    rw [← hR1, ← hRs]
    simp only [List.size_toArray, List.length_append, List.length_take, List.length_drop, Array.length_toList, List.length_cons, List.length_nil]
    omega
  have hB2 : W2.heap[B]? = some (.cells R1 125 (0, 0)) := by rw [← hW2]; exact setRow_heap W1 B ROW R1 _ _ hB1
  have hgB : g ≠ B := by omega
  have n2 : New w W2 := n1.trans (hW2 ▸ Kp.setRow W1 B R1) (fun _ _ h => h) (fun k hk e => by omega)
  have o2' := h.new n2
  have hcpB : ∀ ty, (Builtin.copy_ #[120, 120] ty #[.slice (some ⟨B, o1, none⟩) l2 c2, .slice (some ⟨g, o2, none⟩) l0 l0]).run Tryd.prog W2.drew = .ok (goInt (Nat.min l0 l2)) (W2.drew.setRow B (R1.toList.take o1 ++ xs.drop o2 ++ R1.toList.drop (o1 + (xs.drop o2).length)).toArray) := fun ty =>
    run_copy_rowk W2.drew _ _ ty 125 B o1 l2 c2 ⟨g, o2, none⟩ l0 l0 R1 125 (xs.drop o2) 2 Tryd.underlying120 Tryd.size_entry hB2 (by rw [List.length_drop]; simp only [Nat.min_def]; split <;> omega)
      (fun j v hj => by
        rw [Addr.add_lit]
        rw [List.getElem?_drop] at hj
        exact o2'.cell hj) (by rw [List.length_drop]; omega) (fun v hv => hx1 v (List.mem_of_mem_drop hv))
  obtain ⟨R2, hR2⟩ : ∃ R2, (R1.toList.take o1 ++ xs.drop o2 ++ R1.toList.drop (o1 + (xs.drop o2).length)).toArray = R2 := ⟨_, rfl⟩
  obtain ⟨W3, hW3⟩ : ∃ W3, W2.drew.setRow B R2 = W3 := ⟨_, rfl⟩
  rw [hR2, hW3] at hcpB
  have hR2s : R2.size = G * 2 := by
    rw [← hR2, ← hR1s]
    simp only [List.size_toArray, List.length_append, List.length_take, List.length_drop, Array.length_toList]
    omega
  have hB3 : W3.heap[B]? = some (.cells R2 125 (0, 0)) := by rw [← hW3]; exact setRow_heap W2.drew B R1 R2 _ _ hB2
  have n3 : New w W3 := n2.trans ((Kp.drew _ W2).trans (hW3 ▸ Kp.setRow W2.drew B R2) (U := fun k => B = k) (fun _ _ h => h) (fun _ _ h => h)) (fun _ _ h => h) (fun k hk e => by omega)
  have hfin : R2.toList.take ((c + 1) * 2) = xs.take (i * 2) ++ [x0, x1] ++ xs.drop (i * 2) := by
    have := ins_grown (x0 := x0) (x1 := x1) hl hi (row := ROW.toList) hRt
    rw [ho1, ho2] at this
    rw [← hR2, ← hR1, ho2]
    exact this
  have HX := Lib.hid (And.intro n3 (And.intro (show Own W3 125 2 (some ⟨B, 0, none⟩) G (c + 1) (xs.take (i * 2) ++ [x0, x1] ++ xs.drop (i * 2)) from ⟨by rw [List.length_append, List.length_append, List.length_take, List.length_drop]; simp; omega, .inr ⟨B, R2, rfl, hB3, hGn, hGm, by omega, hfin⟩⟩) hB))
  have hw1 : IntKind.i64.wrap ((i : Int) + 1) = (i : Int) + 1 := by rw [IntKind.wrap_i64]; omega
  have hci : ¬ ((i : Int) = (c : Int)) := by omega
  have hcr : (c : Int) < (c : Int) + 1 := by omega
  clear h hl hnc hi0 hz0 hzs hzb hgl hvl hold hik hG hGm hROW hRs hRt hW1 hB1 n1 hv1 o1' ho1 ho2 a0 a1 a2 hl0 hl1 hl2 hc1 hc2 hR1 hW2 hR1s hB2 hgB n2 o2' hR2 hW3 hR2s hB3 n3 hfin hB hx1 hv
  go_enter Tryd.func70, Tryd.ntmps70
  go_wp2_with (first
    | (at_builtin; refine Lib.wpList_append_run _ rfl _ _ _ _ rfl _ _ rfl rfl _ _ (hrz _) ?_)
    | (at_builtin; refine wpList_copyk rfl (.tmp 43) (.tmp 44) 120 119 rfl (.slice (some ⟨B, o2, none⟩) l1 c1) (.slice (some ⟨vb, 0, none⟩) 1 1) rfl rfl (hcpA _) ?_))
  refine wp_region_line (fun _ => True) (pl := [(0, true), (1, true), (2, true), (3, true), (4, true), (5, true), (6, true), (7, true), (8, false)]) hmo (by kernel_rfl) trivial ?_
  iterate 8 (refine line_get rfl rfl (fun K hK => ?_); apply Exists.intro; refine ⟨fun w hS => ?_, ?_⟩; (first | (have hS' := hS rfl; go_simp; with_reducible rfl) | (go_simp; with_reducible rfl)); (go_simp; refine hK _ ?_; clear hK K))
  (refine line_do rfl rfl (fun K hK => ?_); go_simp)
  refine hK _ _ (no_need (by kernel_rfl)) ?_
  clear hK K
  refine line_nil ?_
  go_wp2_with fail
  go_ret
  exact InsPost.mk HX.out.2.1 (HX.out.1.mono fun _ _ h => h.elim) fun k hk => .inr (by have h : B = k := Bk.some_.1 hk; have h2 := HX.out.2.2; omega)
/-- slices.Insert of one entry. -/
theorem Insert_calls (w : World) (A : Option Addr) (c n i vb : Nat) (xs : List Value) (x0 x1 : Value) (h : Own w 125 2 A c n xs) (hi : i ≤ n) (hv : w.heap[vb]? = some (.cells #[x0, x1] 125 (0, 0))) (hA : ¬ Bk A vb)
    (hx1 : ∀ u ∈ xs, u.oneCell' = true) (h0 : x0.oneCell' = true) (h1 : x1.oneCell' = true) (hb : n ≤ 1099511627776) :
    Calls Tryd.prog 70 #[.slice A n c, .int .i64 i, .slice (some ⟨vb, 0, none⟩) 1 1] w (InsPost w A n i xs x0 x1) := by
  by_cases hin : i = n
  · subst hin
    exact Insert_end w A c i vb xs x0 x1 h hv h0 h1 hb
  · obtain ⟨g, rfl⟩ := h.some_ (by omega)
    by_cases hr : n + 1 ≤ c
    · exact Insert_room w g c n i vb xs x0 x1 h (by omega) hr hv (fun e => hA (Bk.some_.2 e.symm)) hx1 h0 h1 hb
    · exact Insert_grow w g c n i vb xs x0 x1 h (by omega) (by omega) hv hx1 h0 h1 hb
end Go.Proofs.YtejmndfdmikfaaaDoor.Kit
