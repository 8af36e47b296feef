/- chart: Good, Parent. -/
import Derived.Test.YtejmndfdmikfaaaDoorChart
import Derived.WalkKit
namespace Go.Proofs.YtejmndfdmikfaaaDoor.Kit
open Go Go.RowKit Go.Shelf

theorem Kp.of_drewN {w w' : World} {q : Nat} (h : w' = w.drewN q) : New w w' := h ▸ Kp.drewN _ _ _
set_option maxHeartbeats 1000000 in
theorem Good_calls (w : World) (s : List UInt8) (hs : s.length < 4611686018427387904) :
    Calls Tryd.prog 30 #[.string (bstr s)] w fun e w' => e = .returned (.bool (goodA s)) ∧ New w w' := by
  have hz : (bstr s).size = s.length := rfl
  unfold goodA
  by_cases h0 : s.length ≤ 102
  · rw [decide_eq_true h0, Bool.true_and]
    have d0 : decide ((102 : Int) < s.length) = false := decide_eq_false (by omega)
    have hsp := Split_calls w s (by omega)
    obtain ⟨ps, hps⟩ : ∃ ps, partsOf s = ps := ⟨_, rfl⟩
    rw [hps] at hsp ⊢
    clear hps
    obtain ⟨W, hW⟩ : ∃ W, w.alloc (.cells (ps.map sv).toArray 9) = W := ⟨_, rfl⟩
    rw [hW] at hsp
    have nW : New w W := hW ▸ Kp.alloc _ _ _
    by_cases h1 : ps.length ≤ 6
    · rw [decide_eq_true h1, Bool.true_and]
      have d1 : decide ((ps.length : Int) ≤ 6) = true := decide_eq_true (by omega)
      have hcf := Tryd.slices_ContainsFunc (fun s : List UInt8 => Value.string (bstr s)) (fun s => !partOk s) 52 #[] (enters_of Tryd.func52 (by kernel_rfl) rfl) w.heap.size 0 ps.length ps.length ps W (noPart W) (Nat.le_refl _) (by omega)
        (fun j hj => by
          rw [← hW, Nat.zero_add, cell_of_block (heap_alloc_new w _)]
          simp [List.getElem?_eq_getElem hj, List.getElem!_eq_getElem?_getD])
      rw [List.take_length] at hcf
      have hany : (!(ps.any fun s => !partOk s)) = ps.all partOk := by
        induction ps with
        | nil => rfl
        | cons x xs _ => simp [List.any_eq_not_all_not]
      obtain ⟨q, hq⟩ : ∃ q, (ps.any fun s => !partOk s) = q := ⟨_, rfl⟩
      rw [← hany, hq]
      rw [hq] at hcf
      have HN := Lib.hid nW
      clear hany hq hW nW
      go_enter Tryd.func30, Tryd.ntmps30
      go_wp2_with fail
      refine hsp.mono ?_
      rintro e w1 ⟨rfl, rfl⟩
      go_wp2_with fail
      refine hcf.mono ?_
      rintro e w2 ⟨rfl, k, rfl⟩
      go_wp2_with fail
      go_ret
      exact ⟨rfl, HN.out.trans (Kp.drewN _ _ _) (fun _ _ h => h) (fun _ _ h => h)⟩
    · rw [decide_eq_false h1, Bool.false_and]
      have d1 : decide ((ps.length : Int) ≤ 6) = false := decide_eq_false (by omega)
      have HN := Lib.hid nW
      clear hW nW
      go_enter Tryd.func30, Tryd.ntmps30
      go_wp2_with fail
      refine hsp.mono ?_
      rintro e w1 ⟨rfl, rfl⟩
      go_wp2_with fail
      go_ret
      exact ⟨rfl, HN.out⟩
  · rw [decide_eq_false h0, Bool.false_and, Bool.false_and]
    have d0 : decide ((102 : Int) < s.length) = true := decide_eq_true (by omega)
    go_enter Tryd.func30, Tryd.ntmps30
    go_wp2
    go_ret
    exact ⟨rfl, Kp.refl _ _⟩

/-- What Parent answers of a good name. -/
def parentV (s : List UInt8) : Value := match above s with
  | some p => .tuple #[.string (bstr p), .bool true]
  | none => .tuple #[.string ⟨#[]⟩, .bool false]
theorem above_at {s : List UInt8} {i : Nat} (hi : i < s.length) (h : s[i] = 58) (hn : ∀ j (hj : j < s.length), i < j → s[j] ≠ 58) : above s = some (s.take i) := by
  refine above_some.2 ⟨s.drop (i + 1), ?_, fun hm => ?_⟩
  · rw [← h]
    conv => lhs; rw [← List.take_append_drop i s, List.drop_eq_getElem_cons hi]
  · obtain ⟨j, hj, e⟩ := List.mem_iff_getElem.1 hm
    rw [List.length_drop] at hj
    rw [List.getElem_drop] at e
    exact hn (i + 1 + j) (by omega) (by omega) e
theorem last_colon (s : List UInt8) : (Lib.lastIndexByte (bstr s) 58 = -1 ∧ above s = none) ∨ ∃ i : Nat, i < s.length ∧ Lib.lastIndexByte (bstr s) 58 = i ∧ above s = some (s.take i) := by
  have hget : ∀ j (hj : j < s.length), ((bstr s).data[j]!) = s[j] := fun j hj => by
    show (s.toArray)[j]! = _
    simp [hj]
  rcases Lib.lastIndexByte_spec (bstr s) 58 with ⟨h1, h2⟩ | ⟨i, hi, h1, h2, h3⟩
  · refine .inl ⟨h1, above_none.2 fun hm => ?_⟩
    obtain ⟨j, hj, e⟩ := List.mem_iff_getElem.1 hm
    have := h2 j hj
    rw [hget j hj, e] at this
    exact this rfl
  · have hi' : i < s.length := hi
    refine .inr ⟨i, hi', h1, above_at hi' ?_ fun j hj hij e => ?_⟩
    · rw [hget i hi'] at h2
      have h58 : (58 : Int) = ((58 : UInt8).toNat : Int) := rfl
      rw [h58] at h2
      exact UInt8.toNat_inj.1 (by omega)
    · have := h3 j hij hj
      rw [hget j hj, e] at this
      exact this rfl
theorem run_upto {P : Program} {t : TypeId} (ht : P.underlying t = some .string) (s : List UInt8) {k : Nat} (hk : k ≤ s.length) (w : World) :
    (Instr.slice t (.string (bstr s)) none (some (.int .i64 (k : Int))) none).run P w = .ok (.string (bstr (s.take k))) w := by
  rw [run_slice_string_to_if w t (bstr s) .i64 (k : Int) ht, if_pos ⟨by omega, by rw [bstr_size]; omega⟩]
  congr 2
  apply ByteArray.ext
  apply Array.ext'
  simp [bstr, ByteArray.data_extract]
set_option maxHeartbeats 1000000 in
theorem Parent_calls (w : World) (s : List UInt8) (hs : s.length < 4611686018427387904) (hg : goodA s = true) :
    Calls Tryd.prog 68 #[.string (bstr s)] w fun e w' => e = .returned (parentV s) ∧ New w w' := by
  have hl := Tryd.strings_LastIndexByte (bstr s) 58 hs w
  have hG := Good_calls w s hs
  rw [hg] at hG
  unfold parentV
  rcases last_colon s with ⟨h1, h2⟩ | ⟨i, hi, h1, h2⟩
  · rw [h2]
    rw [h1] at hl
    clear h1 h2 hg
    go_enter Tryd.func68, Tryd.ntmps68
    go_wp2_with fail
    refine hl.mono ?_
    rintro e w1 ⟨rfl, rfl⟩
    go_wp2_with fail
    go_ret2
    exact ⟨rfl, Kp.refl _ _⟩
  · rw [h2]
    rw [h1] at hl
    have hsl := run_upto (P := Tryd.prog) Tryd.underlying9 s (Nat.le_of_lt hi)
    have d0 : decide ((i : Int) < 0) = false := decide_eq_false (by omega)
    clear h1 h2 hg
    go_enter Tryd.func68, Tryd.ntmps68
    go_wp2_with fail
    refine hl.mono ?_
    rintro e w1 ⟨rfl, rfl⟩
    go_wp2_with fail
    refine hG.mono ?_
    rintro e w2 ⟨rfl, hn⟩
    go_wp2_with fail
    go_ret2
    exact ⟨rfl, hn⟩
end Go.Proofs.YtejmndfdmikfaaaDoor.Kit
