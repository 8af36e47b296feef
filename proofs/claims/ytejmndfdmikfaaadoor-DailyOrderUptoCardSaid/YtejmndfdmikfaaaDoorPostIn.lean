/- Postings that came in, opened. -/
import Derived.Test.YtejmndfdmikfaaaDoorRowsIn
import Derived.Test.YtejmndfdmikfaaaDoorFlat
namespace Go.Proofs.YtejmndfdmikfaaaDoor.Kit
open Go Go.RowKit Go.ChangeShapes Go.WideShapes Go.ChangeAt Go.Deep

theorem Tryd.cells_int : Tryd.prog.cellsOf 3 = 1 := by kernel_rfl
theorem Tryd.cells_i64 : Tryd.prog.cellsOf 2 = 1 := by kernel_rfl
theorem Tryd.cells_string : Tryd.prog.cellsOf 9 = 1 := by kernel_rfl
theorem Tryd.cells_posts : Tryd.prog.cellsOf 22 = 1 := by kernel_rfl
theorem Tryd.cells_ints : Tryd.prog.cellsOf 23 = 1 := by kernel_rfl
theorem Tryd.cells_post : Tryd.prog.cellsOf 35 = 9 := by kernel_rfl
theorem Tryd.cells_mixed : Tryd.prog.cellsOf 25 = 3 := by kernel_rfl
instance : Inhabited Pst := ⟨⟨0, 0, 0, 0, [], [], 0, [], []⟩⟩

/-- Numbers in a slice. -/
def RdN (w : World) (A : Option Addr) (l : List Int) : Prop := RdC w A (l.map fun z => Value.int .i64 z)
section
variable {H : Type} {enc : TypeId × Value → H} {W : World} {base fuel : Nat} {held : Bool}
theorem open_strF {v : Value} {x : DataW H × List MemPlace} (h : DataW.trod enc Tryd.prog W base (fun _ => true) held fuel 9 [v] = some x) :
    ∃ l : List UInt8, v = .string (bstr l) ∧ l.length ≤ Rows.uptoBulk x.1 := by
  obtain ⟨s, hs, hx, hl⟩ := DataW.trod_string Tryd.underlying9 h
  simp only [List.cons.injEq, and_true] at hs
  refine ⟨s.data.toList, hs, ?_⟩
  subst hx
  simp [Rows.uptoBulk]
theorem open_numF {v : Value} {x : DataW H × List MemPlace} (h : DataW.trod enc Tryd.prog W base (fun _ => true) held fuel 3 [v] = some x) :
    ∃ n : Int, v = .int .i64 n ∧ -9223372036854775808 ≤ n ∧ n ≤ 9223372036854775807 := by
  obtain ⟨n, hs, _, hw⟩ := DataW.trod_int Tryd.underlying3 h
  simp only [List.cons.injEq, and_true] at hs
  exact ⟨n, hs, bounds_i64 hw⟩
theorem open_num64F {v : Value} {x : DataW H × List MemPlace} (h : DataW.trod enc Tryd.prog W base (fun _ => true) held fuel 2 [v] = some x) :
    ∃ n : Int, v = .int .i64 n ∧ -9223372036854775808 ≤ n ∧ n ≤ 9223372036854775807 := by
  obtain ⟨n, hs, _, hw⟩ := DataW.trod_int Tryd.underlying2 h
  simp only [List.cons.injEq, and_true] at hs
  exact ⟨n, hs, bounds_i64 hw⟩
theorem open_intF {v : Value} {x : DataW H × List MemPlace} (h : DataW.trod enc Tryd.prog W base (fun _ => true) held fuel 23 [v] = some x) :
    ∃ (A : Option Addr) (c : Nat) (l : List Int), v = .slice A l.length c ∧ RdN W A l ∧ l.length + 1 ≤ Rows.uptoBulk x.1 ∧ ∀ z ∈ l, -9223372036854775808 ≤ z ∧ z ≤ 9223372036854775807 := by
  rcases open_ints Tryd.underlying23 Tryd.underlying3 Tryd.cells_int h with ⟨hcs, rfl⟩ | ⟨a, len, cap, zs, hcs, _, hl, hm, hz, rfl, hcell, hwf⟩
  · simp only [List.cons.injEq, and_true] at hcs
    subst hcs
    exact ⟨none, 0, [], rfl, RdC.nil _ _, by simp [Rows.uptoBulk], by simp⟩
  · simp only [List.cons.injEq, and_true] at hcs
    subst hcs
    simp only [if_true] at hz
    have hlen : (zs.take len).length = len := by simp; omega
    refine ⟨some a, cap, zs.take len, by rw [hlen], fun hne => ?_, ?_, fun z hz => bounds_i64 (hwf z (List.mem_of_mem_take hz))⟩
    · by_cases h0 : 0 < zs.length
      · obtain ⟨b, off, rfl, hc⟩ := ints_at hcell h0
        refine ⟨b, off, rfl, fun j v hj => ?_⟩
        rw [List.getElem?_map] at hj
        obtain ⟨y, hy, rfl⟩ := Option.map_eq_some_iff.1 hj
        have hj' : j < len := by rw [← hlen]; exact (List.getElem?_eq_some_iff.1 hy).1
        rw [hc j (by omega)]
        rw [List.getElem?_take, if_pos hj'] at hy
        rw [List.getD_eq_getElem?_getD, hy]
        rfl
      · have : len = 0 := by omega
        subst this
        simp at hne
    · have := bulks.slice_le (H := H) (lits .i64 (zs.take len)) (lits .i64 (zs.drop len))
      simp only [lits, List.length_map, List.length_take, List.length_drop] at this
      simp only [lits] at this ⊢
      rw [List.length_take]
      omega
set_option maxRecDepth 100000 in
/-- Postings that came in. -/
theorem open_posts {v : Value} {x : DataW H × List MemPlace} (h : DataW.trod enc Tryd.prog W base (fun _ => true) held fuel 22 [v] = some x) (hu : Rows.uptoBulk x.1 ≤ 1048576) :
    ∃ (A : Option Addr) (c : Nat) (ps : List Pst), v = .slice A ps.length c ∧ RdP W A ps ∧ (∀ p ∈ ps, p.Ok) ∧ ps.length + 1 ≤ Rows.uptoBulk x.1 := by
  obtain ⟨A, len, c, R, rfl, hl, hm, hb, _, hc, hf⟩ := open_rows Tryd.underlying22 Tryd.underlying35 Tryd.cells_post (by decide) h
  have key : ∀ i, i < len → ∃ y : Pst, y.Ok ∧ y.cells = R i := by
    intro i hi
    obtain ⟨hl0, hf⟩ := hf i hi
    generalize R i = r at hl0 hf
    obtain ⟨r0, r1, r2, r3, r4, r5, r6, r7, r8, rfl⟩ : ∃ r0 r1 r2 r3 r4 r5 r6 r7 r8, r = [r0, r1, r2, r3, r4, r5, r6, r7, r8] := by
      match r, hl0 with
      | [r0, r1, r2, r3, r4, r5, r6, r7, r8], _ => exact ⟨_, _, _, _, _, _, _, _, _, rfl⟩
    clear hl0
    obtain ⟨_, _, h0, _⟩ := hf 0 _ rfl
    obtain ⟨_, _, h1, _⟩ := hf 1 _ rfl
    obtain ⟨_, _, h2, _⟩ := hf 2 _ rfl
    obtain ⟨_, _, h3, _⟩ := hf 3 _ rfl
    obtain ⟨_, _, h4, _⟩ := hf 4 _ rfl
    obtain ⟨_, _, h5, u5, _⟩ := hf 5 _ rfl
    obtain ⟨_, _, h6, _⟩ := hf 6 _ rfl
    obtain ⟨_, _, h7, _⟩ := hf 7 _ rfl
    obtain ⟨_, _, h8, _⟩ := hf 8 _ rfl
    simp only [List.getElem_toArray, List.getElem_cons_zero, List.getElem_cons_succ, Tryd.cells_int, Tryd.cells_i64, Tryd.cells_string, List.drop_zero, List.drop_succ_cons, List.take_succ_cons, List.take_zero] at h0 h1 h2 h3 h4 h5 h6 h7 h8
    obtain ⟨n0, rfl, _⟩ := open_numF h0
    obtain ⟨n1, rfl, _⟩ := open_numF h1
    obtain ⟨n2, rfl, _⟩ := open_numF h2
    obtain ⟨n3, rfl, _⟩ := open_numF h3
    obtain ⟨s4, rfl, l4⟩ := open_strF h4
    obtain ⟨s5, rfl, l5⟩ := open_strF h5
    obtain ⟨n6, rfl, b6⟩ := open_num64F h6
    obtain ⟨s7, rfl, l7⟩ := open_strF h7
    obtain ⟨s8, rfl, l8⟩ := open_strF h8
    exact ⟨⟨n0, n1, n2, n3, s4, s5, n6, s7, s8⟩, ⟨by show s5.length < _; omega, b6⟩, rfl⟩
  obtain ⟨Y, hY⟩ := choose_lt key
  have hlen : ((List.range len).map Y).length = len := by simp
  refine ⟨A, c, (List.range len).map Y, by rw [hlen], fun hne => ?_, fun y hy => ?_, by rw [hlen]; omega⟩
  · have h0 : 0 < len := by
      rcases Nat.eq_zero_or_pos len with e | e
      · subst e; simp at hne
      · exact e
    obtain ⟨b, off, rfl, hcell⟩ := hc h0
    refine ⟨b, off, rfl, fun j u hu => ?_⟩
    have hj : j < len * 9 := by
      have := (List.getElem?_eq_some_iff.1 hu).1
      rw [flat_length Pst.len, hlen] at this
      exact this
    have hi : j / 9 < len := by omega
    have hjj : j = j / 9 * 9 + j % 9 := by omega
    rw [hjj] at hu ⊢
    rw [flat_get Pst.len _ (j / 9) (j % 9) (Y (j / 9)) (by simp [hi]) (by omega), (hY _ hi).2] at hu
    rw [← hu]
    exact hcell _ hi _ (by omega)
  · obtain ⟨i, hi, rfl⟩ := List.mem_map.1 hy
    exact (hY i (List.mem_range.1 hi)).1
set_option maxRecDepth 100000 in
/-- Rows and two lists of numbers that came in. -/
theorem open_mixed {cs : Array Value} {x : DataW H × List MemPlace} (h : DataW.trod enc Tryd.prog W base (fun _ => true) held fuel 25 cs.toList = some x) (hu : Rows.uptoBulk x.1 ≤ 1048576) :
    ∃ (A : Option Addr) (c : Nat) (ps : List Pst) (PA : Option Addr) (pc : Nat) (pm : List Int) (CA : Option Addr) (cc : Nat) (ct : List Int), cs = #[.slice A ps.length c, .slice PA pm.length pc, .slice CA ct.length cc] ∧ RdP W A ps ∧ (∀ p ∈ ps, p.Ok) ∧ ps.length + 1 ≤ Rows.uptoBulk x.1 ∧
      RdN W PA pm ∧ pm.length + 1 ≤ Rows.uptoBulk x.1 ∧ (∀ z ∈ pm, -9223372036854775808 ≤ z ∧ z ≤ 9223372036854775807) ∧ RdN W CA ct ∧ ct.length + 1 ≤ Rows.uptoBulk x.1 ∧ (∀ z ∈ ct, -9223372036854775808 ≤ z ∧ z ≤ 9223372036854775807) := by
  obtain ⟨hl, hf⟩ := open_fields Tryd.underlying25 h
  rw [Tryd.cells_mixed] at hl
  obtain ⟨c0, c1, c2, hcs⟩ : ∃ c0 c1 c2, cs = #[c0, c1, c2] := by
    obtain ⟨l⟩ := cs
    match l, hl with
    | [c0, c1, c2], _ => exact ⟨c0, c1, c2, rfl⟩
  subst hcs
  obtain ⟨_, _, h0, u0, _⟩ := hf 0 _ rfl
  obtain ⟨_, _, h1, u1, _⟩ := hf 1 _ rfl
  obtain ⟨_, _, h2, u2, _⟩ := hf 2 _ rfl
  simp only [List.getElem_toArray, List.getElem_cons_zero, List.getElem_cons_succ, Tryd.cells_posts, Tryd.cells_ints, List.drop_zero, List.drop_succ_cons, List.take_succ_cons, List.take_zero] at h0 h1 h2
  obtain ⟨A, c, ps, rfl, q1, q2, q3⟩ := open_posts h0 (by omega)
  obtain ⟨PA, pc, pm, rfl, r1, r2, r3⟩ := open_intF h1
  obtain ⟨CA, cc, ct, rfl, s1, s2, s3⟩ := open_intF h2
  exact ⟨A, c, ps, PA, pc, pm, CA, cc, ct, rfl, q1, q2, by omega, r1, by omega, r3, s1, by omega, s3⟩
end
theorem okWide_agg {P : Program} {w : World} {r : Reach} {base : Nat} {t : TypeId} {v : Value} {fs : Array Field} (ht : P.underlying t = some (.struct fs)) (h : Value.okWide P w r base t v) : ∃ cs, v = .agg cs := by
  unfold Value.okWide at h
  rw [ht] at h
  obtain ⟨cs, e, _⟩ := h
  exact ⟨cs, e⟩
end Go.Proofs.YtejmndfdmikfaaaDoor.Kit
