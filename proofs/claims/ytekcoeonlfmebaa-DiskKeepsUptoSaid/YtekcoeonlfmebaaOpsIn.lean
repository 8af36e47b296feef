/- A script of acts that came in, opened. -/
import Derived.Test.YtekcoeonlfmebaaRowsIn
import Derived.Test.YtekcoeonlfmebaaOps
namespace Go.Proofs.Ytekcoeonlfmebaa.Kit
open Go Go.RowKit Go.ChangeShapes Go.WideShapes Go.ChangeAt Go.Deep

theorem Try.cells_u8 : Try.prog.cellsOf 5 = 1 := by kernel_rfl
theorem Try.bytes_u8 : Try.prog.bytesOf 5 = 1 := by kernel_rfl
theorem Try.bytes_int : Try.prog.bytesOf 3 = 8 := by kernel_rfl
theorem Try.cells_int : Try.prog.cellsOf 3 = 1 := by kernel_rfl
theorem Try.cells_string : Try.prog.cellsOf 9 = 1 := by kernel_rfl
theorem Try.cells_bool : Try.prog.cellsOf 4 = 1 := by kernel_rfl
theorem Try.cells_bs : Try.prog.cellsOf 28 = 1 := by kernel_rfl
theorem Try.cells_is : Try.prog.cellsOf 29 = 1 := by kernel_rfl
theorem Try.cells_fs : Try.prog.cellsOf 30 = 1 := by kernel_rfl
theorem Try.cells_disk : Try.prog.cellsOf 32 = 4 := by kernel_rfl
theorem Try.cells_op : Try.prog.cellsOf 34 = 12 := by kernel_rfl
instance : Inhabited OpV := ⟨⟨0, 0, [], [], none, 0, [], 0, 0, none, 0, [], 0, none, 0, 0, 0, false⟩⟩

section
variable {H : Type} {enc : TypeId × Value → H} {W : World} {base fuel : Nat} {held : Bool}
theorem open_byteF {v : Value} {x : DataW H × List MemPlace} (h : DataW.trod enc Try.prog W base (fun _ => true) held fuel 28 [v] = some x) :
    ∃ (A : Option Addr) (c : Nat) (l : List UInt8), v = .slice A l.length c ∧ RdB W A l ∧ c ≤ maxLen ∧ l.length + 1 ≤ Rows.uptoBulk x.1 ∧ (Lite Try.prog 28 x.1 → l.length ≤ reachBytes) := by
  rcases open_ints Try.underlying28 Try.underlying5 Try.cells_u8 h with ⟨hcs, rfl⟩ | ⟨a, len, cap, zs, hcs, _, hl, hm, hz, rfl, hcell, hwf⟩
  · simp only [List.cons.injEq, and_true] at hcs
    subst hcs
    exact ⟨none, 0, [], rfl, fun e => absurd rfl e, Nat.zero_le _, by simp [Rows.uptoBulk], fun _ => Nat.zero_le _⟩
  · simp only [List.cons.injEq, and_true] at hcs
    subst hcs
    simp only [if_true] at hz
    have hlen : ((zs.take len).map fun z => UInt8.ofNat z.toNat).length = len := by simp; omega
    refine ⟨some a, cap, (zs.take len).map fun z => UInt8.ofNat z.toNat, by rw [hlen], fun hne => ?_, hm, ?_, fun hL => ?_⟩
    · by_cases h0 : 0 < zs.length
      · obtain ⟨b, off, rfl, hc⟩ := ints_at hcell h0
        refine ⟨b, off, rfl, fun j hj => ?_⟩
        have hj' : j < len := by rw [← hlen]; exact hj
        rw [hc j (by omega)]
        have hr := range_u8 hwf j
        have hjz : j < zs.length := by omega
        simp only [List.getElem_map, List.getElem_take, List.getD_eq_getElem?_getD, List.getElem?_eq_getElem hjz, Option.getD_some] at hr ⊢
        congr 2
        rw [UInt8.toNat_ofNat']
        omega
      · have : len = 0 := by omega
        subst this
        simp at hne
    · have := bulks.slice_le (H := H) (lits .u8 (zs.take len)) (lits .u8 (zs.drop len))
      simp only [lits, List.length_map, List.length_take, List.length_drop] at this
      simp only [lits] at this ⊢
      rw [List.length_map, List.length_take]
      omega
    · have := (hL.slice Try.underlying28).1
      rw [Try.bytes_u8] at this
      simp only [lits, List.length_map, List.length_take, List.length_drop] at this
      rw [List.length_map, List.length_take]
      omega
theorem open_intF {v : Value} {x : DataW H × List MemPlace} (h : DataW.trod enc Try.prog W base (fun _ => true) held fuel 29 [v] = some x) :
    ∃ (A : Option Addr) (c : Nat) (l : List Int), v = .slice A l.length c ∧ RdN W A l ∧ c ≤ maxLen ∧ l.length + 1 ≤ Rows.uptoBulk x.1 ∧ (Lite Try.prog 29 x.1 → l.length * 8 ≤ reachBytes) ∧ ∀ z ∈ l, -9223372036854775808 ≤ z ∧ z ≤ 9223372036854775807 := by
  rcases open_ints Try.underlying29 Try.underlying3 Try.cells_int h with ⟨hcs, rfl⟩ | ⟨a, len, cap, zs, hcs, _, hl, hm, hz, rfl, hcell, hwf⟩
  · simp only [List.cons.injEq, and_true] at hcs
    subst hcs
    exact ⟨none, 0, [], rfl, fun e => absurd rfl e, Nat.zero_le _, by simp [Rows.uptoBulk], fun _ => by simp, by simp⟩
  · simp only [List.cons.injEq, and_true] at hcs
    subst hcs
    simp only [if_true] at hz
    have hlen : (zs.take len).length = len := by simp; omega
    refine ⟨some a, cap, zs.take len, by rw [hlen], fun hne => ?_, hm, ?_, fun hL => ?_, fun z hz => bounds_i64 (hwf z (List.mem_of_mem_take hz))⟩
    · by_cases h0 : 0 < zs.length
      · obtain ⟨b, off, rfl, hc⟩ := ints_at hcell h0
        refine ⟨b, off, rfl, fun j v hj => ?_⟩
        have hj' : j < len := by rw [← hlen]; exact (List.getElem?_eq_some_iff.1 hj).1
        rw [hc j (by omega)]
        rw [List.getElem?_take, if_pos hj'] at hj
        rw [List.getD_eq_getElem?_getD, hj]
        rfl
      · have : len = 0 := by omega
        subst this
        simp at hne
    · have := bulks.slice_le (H := H) (lits .i64 (zs.take len)) (lits .i64 (zs.drop len))
      simp only [lits, List.length_map, List.length_take, List.length_drop] at this
      simp only [lits] at this ⊢
      rw [List.length_take]
      omega
    · have := (hL.slice Try.underlying29).1
      rw [Try.bytes_int] at this
      simp only [lits, List.length_map, List.length_take, List.length_drop] at this
      rw [List.length_take]
      omega
theorem open_strF {v : Value} {x : DataW H × List MemPlace} (h : DataW.trod enc Try.prog W base (fun _ => true) held fuel 9 [v] = some x) :
    ∃ l : List UInt8, v = .string (bstr l) ∧ l.length ≤ maxLen := by
  obtain ⟨s, hs, _, hl⟩ := DataW.trod_string Try.underlying9 h
  simp only [List.cons.injEq, and_true] at hs
  exact ⟨s.data.toList, hs, hl⟩
theorem open_numF {v : Value} {x : DataW H × List MemPlace} (h : DataW.trod enc Try.prog W base (fun _ => true) held fuel 3 [v] = some x) :
    ∃ n : Int, v = .int .i64 n ∧ -9223372036854775808 ≤ n ∧ n ≤ 9223372036854775807 := by
  obtain ⟨n, hs, _, hw⟩ := DataW.trod_int Try.underlying3 h
  simp only [List.cons.injEq, and_true] at hs
  exact ⟨n, hs, bounds_i64 hw⟩
theorem open_boolF {v : Value} {x : DataW H × List MemPlace} (h : DataW.trod enc Try.prog W base (fun _ => true) held fuel 4 [v] = some x) : ∃ b : Bool, v = .bool b := by
  obtain ⟨b, hs, _⟩ := DataW.trod_bool Try.underlying4 h
  simp only [List.cons.injEq, and_true] at hs
  exact ⟨b, hs⟩
theorem open_filesF {v : Value} {x : DataW H × List MemPlace} (h : DataW.trod enc Try.prog W base (fun _ => true) held fuel 30 [v] = some x) : ∃ A n c, v = .slice A n c := by
  rcases open_slice Try.underlying30 h with ⟨hcs, _⟩ | ⟨a, len, cap, m, n, D, Pl, hcs, _⟩
  · simp only [List.cons.injEq, and_true] at hcs
    exact ⟨_, _, _, hcs⟩
  · simp only [List.cons.injEq, and_true] at hcs
    exact ⟨_, _, _, hcs⟩

set_option maxRecDepth 100000 in
/-- A script that came in. -/
theorem open_ops {v : Value} {x : DataW H × List MemPlace} (h : DataW.trod enc Try.prog W base (fun _ => true) held fuel 22 [v] = some x) (hL : Lite Try.prog 22 x.1 ∨ Rows.uptoBulk x.1 ≤ 1048576) :
    ∃ (A : Option Addr) (c : Nat) (ys : List OpV), v = .slice A ys.length c ∧ RdO W A ys ∧ ys.length ≤ maxLen ∧ ys.length + 1 ≤ Rows.uptoBulk x.1 ∧ ∀ y ∈ ys, y.body.length ≤ Rows.uptoBulk x.1 := by
  obtain ⟨A, len, c, R, rfl, hl, hm, hb, _, hc, hf⟩ := open_rows Try.underlying22 Try.underlying34 Try.cells_op (by decide) h
  have key : ∀ i, i < len → ∃ y : OpV, y.Ok W ∧ y.body.length ≤ Rows.uptoBulk x.1 ∧ y.cells = R i := by
    intro i hi
    obtain ⟨hl0, hf⟩ := hf i hi
    generalize R i = r at hl0 hf
    obtain ⟨r0, r1, r2, r3, r4, r5, r6, r7, r8, r9, r10, r11, rfl⟩ : ∃ r0 r1 r2 r3 r4 r5 r6 r7 r8 r9 r10 r11, r = [r0, r1, r2, r3, r4, r5, r6, r7, r8, r9, r10, r11] := by
      match r, hl0 with
      | [r0, r1, r2, r3, r4, r5, r6, r7, r8, r9, r10, r11], _ => exact ⟨_, _, _, _, _, _, _, _, _, _, _, _, rfl⟩
    clear hl0
    obtain ⟨_, _, h0, _⟩ := hf 0 _ rfl
    obtain ⟨_, _, h1, _⟩ := hf 1 _ rfl
    obtain ⟨_, _, h2, _⟩ := hf 2 _ rfl
    obtain ⟨_, _, h3, _⟩ := hf 3 _ rfl
    obtain ⟨_, _, h4, g4, L4⟩ := hf 4 _ rfl
    obtain ⟨_, _, h5, _⟩ := hf 5 _ rfl
    obtain ⟨_, _, h6, _⟩ := hf 6 _ rfl
    obtain ⟨_, _, h7, g7, L7⟩ := hf 7 _ rfl
    obtain ⟨_, _, h8, _⟩ := hf 8 _ rfl
    simp only [List.getElem_toArray, List.getElem_cons_zero, List.getElem_cons_succ, Try.cells_int, Try.cells_string, Try.cells_bs, Try.cells_is, Try.cells_disk, List.drop_zero, List.drop_succ_cons, List.take_succ_cons, List.take_zero] at h0 h1 h2 h3 h4 h5 h6 h7 h8
    obtain ⟨_, hg⟩ := open_fields Try.underlying32 h8
    obtain ⟨_, _, j0, _⟩ := hg 0 _ rfl
    obtain ⟨_, _, j1, _⟩ := hg 1 _ rfl
    obtain ⟨_, _, j2, _⟩ := hg 2 _ rfl
    obtain ⟨_, _, j3, _⟩ := hg 3 _ rfl
    simp only [List.getElem_toArray, List.getElem_cons_zero, List.getElem_cons_succ, Try.cells_int, Try.cells_bool, Try.cells_fs, List.drop_zero, List.drop_succ_cons, List.take_succ_cons, List.take_zero] at j0 j1 j2 j3
    obtain ⟨n0, rfl, _⟩ := open_numF h0
    obtain ⟨n1, rfl, _⟩ := open_numF h1
    obtain ⟨s2, rfl, l2⟩ := open_strF h2
    obtain ⟨s3, rfl, l3⟩ := open_strF h3
    obtain ⟨A4, c4, b4, rfl, t4, _, u4, v4⟩ := open_byteF h4
    obtain ⟨n5, rfl, _⟩ := open_numF h5
    obtain ⟨n6, rfl, _⟩ := open_numF h6
    obtain ⟨A7, c7, b7, rfl, t7, _, u7, v7, in7⟩ := open_intF h7
    obtain ⟨n8, rfl, _⟩ := open_numF j0
    obtain ⟨A9, m9, c9, rfl⟩ := open_filesF j1
    obtain ⟨n10, rfl, _⟩ := open_numF j2
    obtain ⟨b11, rfl⟩ := open_boolF j3
    have w4 : b4.length ≤ 140737488351232 := by
      rcases hL with h | h
      · have := v4 (L4 h)
        simpa only [reachBytes] using this
      · omega
    have w7 : b7.length * 8 ≤ 140737488351232 := by
      rcases hL with h | h
      · have := v7 (L7 h)
        simpa only [reachBytes] using this
      · omega
    exact ⟨⟨n0, n1, s2, s3, A4, c4, b4, n5, n6, A7, c7, b7, n8, A9, m9, c9, n10, b11⟩, ⟨by simp only [maxLen] at l2; omega, by simp only [maxLen] at l3; omega, t4, by show b4.length ≤ _; omega, t7, by show b7.length ≤ _; omega, in7⟩, by show b4.length ≤ _; omega, rfl⟩
  obtain ⟨Y, hY⟩ := choose_lt key
  have hlen : ((List.range len).map Y).length = len := by simp
  refine ⟨A, c, (List.range len).map Y, by rw [hlen], ⟨fun hne => ?_, fun y hy => ?_⟩, by rw [hlen]; omega, by rw [hlen]; omega, fun y hy => ?_⟩
  · have h0 : 0 < len := by
      rcases Nat.eq_zero_or_pos len with e | e
      · subst e; simp at hne
      · exact e
    obtain ⟨b, off, rfl, hcell⟩ := hc h0
    refine ⟨b, off, rfl, fun j u hu => ?_⟩
    have hj : j < len * 12 := by
      have := (List.getElem?_eq_some_iff.1 hu).1
      have e : (((List.range len).map Y).flatMap OpV.cells).length = ((List.range len).map Y).length * 12 := by
        generalize (List.range len).map Y = ys
        induction ys with
        | nil => rfl
        | cons q ys ih => rw [List.flatMap_cons, List.length_append, ih, List.length_cons]; simp [OpV.cells]; omega
      rw [e, hlen] at this
      exact this
    have hi : j / 12 < len := by omega
    have hjj : j = j / 12 * 12 + j % 12 := by omega
    rw [hjj] at hu ⊢
    rw [OpV.flat_get _ (j / 12) (j % 12) (Y (j / 12)) (by simp [hi]) (by omega), (hY _ hi).2.2] at hu
    rw [← hu]
    exact hcell _ hi _ (by omega)
  · obtain ⟨i, hi, rfl⟩ := List.mem_map.1 hy
    exact (hY i (List.mem_range.1 hi)).1
  · obtain ⟨i, hi, rfl⟩ := List.mem_map.1 hy
    exact (hY i (List.mem_range.1 hi)).2.1
end
end Go.Proofs.Ytekcoeonlfmebaa.Kit
