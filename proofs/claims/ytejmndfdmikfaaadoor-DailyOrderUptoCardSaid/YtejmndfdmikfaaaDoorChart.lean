/- chart: part, Good, Parent: which names are good; the name above. -/
import Derived.Test.YtejmndfdmikfaaaDoorProg
import Derived.Test.YtejmndfdmikfaaaDoorStr
import Derived.Test.YtejmndfdmikfaaaDoorMap
import Derived.Test.YtejmndfdmikfaaaDoorSplit
import Derived.Test.YtejmndfdmikfaaaDoorShelf
import Derived.Shelf.Strings.SplitCore
import Derived.Shelf.Strings.Count
import Derived.Lib.SplitLaws
import Derived.Lib.IndexBytes
namespace Go.Proofs.YtejmndfdmikfaaaDoor.Kit
open Go Go.RowKit Go.Shelf

theorem run_at {P : Program} {t : TypeId} (ht : P.underlying t = some .string) (s : List UInt8) {k : Nat} (hk : k < s.length) (w : World) :
    (Instr.index t (.string (bstr s)) (.int .i64 (k : Int))).run P w = .ok (.int .u8 ((s[k]'hk).toNat : Int)) w := by
  rw [run_index_string w t (bstr s) .i64 (k : Int) ht, dif_pos ⟨by omega, by rw [bstr_size]; omega⟩]
  rfl
theorem run_at0 {P : Program} {t : TypeId} (ht : P.underlying t = some .string) (s : List UInt8) (hk : 0 < s.length) (w : World) :
    (Instr.index t (.string (bstr s)) (.int .i64 0)).run P w = .ok (.int .u8 ((s[0]'hk).toNat : Int)) w := run_at ht s hk w

theorem partByte_iff (x : UInt8) : partByte x = true ↔ (65 ≤ (x.toNat : Int) ∧ (x.toNat : Int) ≤ 90) ∨ (97 ≤ (x.toNat : Int) ∧ (x.toNat : Int) ≤ 122) ∨ (48 ≤ (x.toNat : Int) ∧ (x.toNat : Int) ≤ 57) ∨ (x.toNat : Int) = 45 := by
  unfold partByte
  simp only [Bool.or_eq_true, decide_eq_true_eq, beq_iff_eq, UInt8.le_iff_toNat_le, ← UInt8.toNat_inj]
  simp only [show (65 : UInt8).toNat = 65 from rfl, show (90 : UInt8).toNat = 90 from rfl, show (97 : UInt8).toNat = 97 from rfl, show (122 : UInt8).toNat = 122 from rfl, show (48 : UInt8).toNat = 48 from rfl, show (57 : UInt8).toNat = 57 from rfl, show (45 : UInt8).toNat = 45 from rfl]
  omega
theorem pall_step {s : List UInt8} {k : Nat} (hk : k < s.length) (h : (s.take k).all partByte = true) (hx : partByte s[k] = true) : (s.take (k + 1)).all partByte = true := by
  rw [List.take_succ_eq_append_getElem hk, List.all_append, h, Bool.true_and, List.all_cons, hx]
  rfl
theorem pall_stop {s : List UInt8} {k : Nat} (hk : k < s.length) (hx : ¬ partByte s[k] = true) : s.all partByte = false := by
  rw [List.all_eq_false]
  exact ⟨s[k], List.getElem_mem hk, hx⟩
theorem partOk_iff {s : List UInt8} (h : 0 < s.length) : partOk s = (decide (s.length ≤ 16) && decide ((65 : Int) ≤ ((s[0]'h).toNat : Int) ∧ ((s[0]'h).toNat : Int) ≤ (90 : Int)) && s.all partByte) := by
  cases s with
  | nil => simp at h
  | cons c s =>
    unfold partOk
    have e : (decide (65 ≤ c ∧ c ≤ 90) : Bool) = decide ((65 : Int) ≤ (c.toNat : Int) ∧ (c.toNat : Int) ≤ (90 : Int)) := by
      have : (65 ≤ c ∧ c ≤ 90) ↔ ((65 : Int) ≤ (c.toNat : Int) ∧ (c.toNat : Int) ≤ (90 : Int)) := by
        rw [UInt8.le_iff_toNat_le, UInt8.le_iff_toNat_le, show (65 : UInt8).toNat = 65 from rfl, show (90 : UInt8).toNat = 90 from rfl]
        omega
      simp only [this]
    simp only [e, List.getElem_cons_zero]
    simp

set_option maxRecDepth 100000 in
set_option maxHeartbeats 2000000 in
theorem part_calls (w : World) (s : List UInt8) :
    Calls Tryd.prog 53 #[.string (bstr s)] w fun e w' => e = .returned (.bool (partOk s)) ∧ w = w' := by
  have hz : (bstr s).size = s.length := rfl
  by_cases h0 : 0 < s.length
  · rw [partOk_iff h0]
    by_cases h1 : s.length ≤ 16
    · have i0 := run_at0 (P := Tryd.prog) Tryd.underlying9 s h0
      have hx0 := (s[0]'h0).toNat_lt
      generalize s[0]'h0 = x0 at i0 hx0
      by_cases h2 : (65 : Int) ≤ (x0.toNat : Int) ∧ (x0.toNat : Int) ≤ (90 : Int)
      · rw [decide_eq_true h1, decide_eq_true h2, Bool.true_and, Bool.true_and]
        obtain ⟨h2a, h2b⟩ := h2
        have d0 : decide ((s.length : Int) < 1) = false := decide_eq_false (by omega)
        have d1 : decide ((16 : Int) < s.length) = false := decide_eq_false (by omega)
        have d2 : decide ((x0.toNat : Int) < 65) = false := decide_eq_false (by omega)
        have d3 : decide ((90 : Int) < x0.toNat) = false := decide_eq_false (by omega)
        go_enter Tryd.func53, Tryd.ntmps53
        go_wp2
        go_loopw [25] (fun i wr => ∃ k : Nat, k ≤ s.length ∧ i = .int .i64 (k : Int) ∧ wr = w ∧ Hid ((s.take k).all partByte = true)) (fun i _ => s.length - (intOf i).toNat)
        case atStart => exact ⟨0, Nat.zero_le _, rfl, rfl, Lib.hid (by simp)⟩
        case round =>
          obtain ⟨k, hk, rfl, rfl, HI⟩ := hrel
          by_cases hlt : k < s.length
          · have e1 := run_at (P := Tryd.prog) Tryd.underlying9 s hlt
            have HX := Lib.hid (And.intro (fun hx => pall_step hlt HI.out hx) (fun hx => pall_stop hlt hx))
            generalize s[k] = x at e1 HX
            have hxl := x.toNat_lt
            have hki : decide ((k : Int) < (s.length : Int)) = true := decide_eq_true (by omega)
            have hbi := partByte_iff x
            clear i0 d0 d1 d2 d3
            rcases (by omega : (65 ≤ (x.toNat : Int) ∧ (x.toNat : Int) ≤ 90) ∨ (97 ≤ (x.toNat : Int) ∧ (x.toNat : Int) ≤ 122) ∨ (48 ≤ (x.toNat : Int) ∧ (x.toNat : Int) ≤ 57) ∨ ((x.toNat : Int) = 45) ∨ ((x.toNat : Int) < 48 ∧ (x.toNat : Int) ≠ 45) ∨ (58 ≤ (x.toNat : Int) ∧ (x.toNat : Int) ≤ 64) ∨ (91 ≤ (x.toNat : Int) ∧ (x.toNat : Int) ≤ 96) ∨ (122 < (x.toNat : Int))) with hq | hq | hq | hq | hq | hq | hq | hq
            · have f0 : decide ((65 : Int) ≤ (x.toNat : Int)) = true := decide_eq_true (by omega)
              have f1 : decide ((x.toNat : Int) ≤ (90 : Int)) = true := decide_eq_true (by omega)
              have HP := Lib.hid (HX.out.1 (hbi.2 (by omega)))
              clear hbi hq HX
              go_wp2
              exact ⟨⟨k + 1, by omega, by go_num, trivial, HP⟩, by simp [intOf]; omega⟩
            · have f0 : decide ((65 : Int) ≤ (x.toNat : Int)) = true := decide_eq_true (by omega)
              have f1 : decide ((x.toNat : Int) ≤ (90 : Int)) = false := decide_eq_false (by omega)
              have f2 : decide ((97 : Int) ≤ (x.toNat : Int)) = true := decide_eq_true (by omega)
              have f3 : decide ((x.toNat : Int) ≤ (122 : Int)) = true := decide_eq_true (by omega)
              have HP := Lib.hid (HX.out.1 (hbi.2 (by omega)))
              clear hbi hq HX
              go_wp2
              exact ⟨⟨k + 1, by omega, by go_num, trivial, HP⟩, by simp [intOf]; omega⟩
            · have f0 : decide ((65 : Int) ≤ (x.toNat : Int)) = false := decide_eq_false (by omega)
              have f1 : decide ((97 : Int) ≤ (x.toNat : Int)) = false := decide_eq_false (by omega)
              have f2 : decide ((48 : Int) ≤ (x.toNat : Int)) = true := decide_eq_true (by omega)
              have f3 : decide ((x.toNat : Int) ≤ (57 : Int)) = true := decide_eq_true (by omega)
              have HP := Lib.hid (HX.out.1 (hbi.2 (by omega)))
              clear hbi hq HX
              go_wp2
              exact ⟨⟨k + 1, by omega, by go_num, trivial, HP⟩, by simp [intOf]; omega⟩
            · have f0 : decide ((65 : Int) ≤ (x.toNat : Int)) = false := decide_eq_false (by omega)
              have f1 : decide ((97 : Int) ≤ (x.toNat : Int)) = false := decide_eq_false (by omega)
              have f2 : decide ((48 : Int) ≤ (x.toNat : Int)) = false := decide_eq_false (by omega)
              have f3 : ((x.toNat : Int) == (45 : Int)) = true := by simp only [beq_iff_eq]; omega
              have HP := Lib.hid (HX.out.1 (hbi.2 (by omega)))
              clear hbi hq HX
              go_wp2
              exact ⟨⟨k + 1, by omega, by go_num, trivial, HP⟩, by simp [intOf]; omega⟩
            · have f0 : decide ((65 : Int) ≤ (x.toNat : Int)) = false := decide_eq_false (by omega)
              have f1 : decide ((97 : Int) ≤ (x.toNat : Int)) = false := decide_eq_false (by omega)
              have f2 : decide ((48 : Int) ≤ (x.toNat : Int)) = false := decide_eq_false (by omega)
              have f3 : ((x.toNat : Int) == (45 : Int)) = false := by simp only [beq_eq_false_iff_ne, ne_eq]; omega
              have HP := Lib.hid (HX.out.2 (fun h => by have := hbi.1 h; omega))
              clear hbi hq HX
              go_wp2
              go_ret
              exact ⟨by rw [HP.out]; rfl, rfl⟩
            · have f0 : decide ((65 : Int) ≤ (x.toNat : Int)) = false := decide_eq_false (by omega)
              have f1 : decide ((97 : Int) ≤ (x.toNat : Int)) = false := decide_eq_false (by omega)
              have f2 : decide ((48 : Int) ≤ (x.toNat : Int)) = true := decide_eq_true (by omega)
              have f3 : decide ((x.toNat : Int) ≤ (57 : Int)) = false := decide_eq_false (by omega)
              have f4 : ((x.toNat : Int) == (45 : Int)) = false := by simp only [beq_eq_false_iff_ne, ne_eq]; omega
              have HP := Lib.hid (HX.out.2 (fun h => by have := hbi.1 h; omega))
              clear hbi hq HX
              go_wp2
              go_ret
              exact ⟨by rw [HP.out]; rfl, rfl⟩
            · have f0 : decide ((65 : Int) ≤ (x.toNat : Int)) = true := decide_eq_true (by omega)
              have f1 : decide ((x.toNat : Int) ≤ (90 : Int)) = false := decide_eq_false (by omega)
              have f2 : decide ((97 : Int) ≤ (x.toNat : Int)) = false := decide_eq_false (by omega)
              have f3 : decide ((48 : Int) ≤ (x.toNat : Int)) = true := decide_eq_true (by omega)
              have f4 : decide ((x.toNat : Int) ≤ (57 : Int)) = false := decide_eq_false (by omega)
              have f5 : ((x.toNat : Int) == (45 : Int)) = false := by simp only [beq_eq_false_iff_ne, ne_eq]; omega
              have HP := Lib.hid (HX.out.2 (fun h => by have := hbi.1 h; omega))
              clear hbi hq HX
              go_wp2
              go_ret
              exact ⟨by rw [HP.out]; rfl, rfl⟩
            · have f0 : decide ((65 : Int) ≤ (x.toNat : Int)) = true := decide_eq_true (by omega)
              have f1 : decide ((x.toNat : Int) ≤ (90 : Int)) = false := decide_eq_false (by omega)
              have f2 : decide ((97 : Int) ≤ (x.toNat : Int)) = true := decide_eq_true (by omega)
              have f3 : decide ((x.toNat : Int) ≤ (122 : Int)) = false := decide_eq_false (by omega)
              have f4 : decide ((48 : Int) ≤ (x.toNat : Int)) = true := decide_eq_true (by omega)
              have f5 : decide ((x.toNat : Int) ≤ (57 : Int)) = false := decide_eq_false (by omega)
              have f6 : ((x.toNat : Int) == (45 : Int)) = false := by simp only [beq_eq_false_iff_ne, ne_eq]; omega
              have HP := Lib.hid (HX.out.2 (fun h => by have := hbi.1 h; omega))
              clear hbi hq HX
              go_wp2
              go_ret
              exact ⟨by rw [HP.out]; rfl, rfl⟩
          · obtain rfl : k = s.length := by omega
            go_wp2
            go_ret
            exact ⟨by have h := HI.out; rw [List.take_length] at h; rw [h]; rfl, rfl⟩
      · rw [decide_eq_false h2, Bool.and_false, Bool.false_and]
        have d0 : decide ((s.length : Int) < 1) = false := decide_eq_false (by omega)
        have d1 : decide ((16 : Int) < s.length) = false := decide_eq_false (by omega)
        by_cases h3 : (x0.toNat : Int) < 65
        · have d2 : decide ((x0.toNat : Int) < 65) = true := decide_eq_true h3
          go_enter Tryd.func53, Tryd.ntmps53
          go_wp2
          go_ret
          exact ⟨rfl, rfl⟩
        · have d2 : decide ((x0.toNat : Int) < 65) = false := decide_eq_false h3
          have d3 : decide ((90 : Int) < x0.toNat) = true := decide_eq_true (by omega)
          go_enter Tryd.func53, Tryd.ntmps53
          go_wp2
          go_ret
          exact ⟨rfl, rfl⟩
    · rw [decide_eq_false h1, Bool.false_and, Bool.false_and]
      have d0 : decide ((s.length : Int) < 1) = false := decide_eq_false (by omega)
      have d1 : decide ((16 : Int) < s.length) = true := decide_eq_true (by omega)
      go_enter Tryd.func53, Tryd.ntmps53
      go_wp2
      go_ret
      exact ⟨rfl, rfl⟩
  · have h3 : s = [] := List.eq_nil_of_length_eq_zero (by omega)
    subst h3
    clear h0 hz
    have hz : (bstr []).size = 0 := rfl
    go_enter Tryd.func53, Tryd.ntmps53
    go_wp2
    go_ret
    exact ⟨rfl, rfl⟩
theorem noPart (w : World) : PredAt Tryd.prog 52 #[] (fun s : List UInt8 => Value.string (bstr s)) (fun s => !partOk s) w := fun W s _ => by
  unfold FnGives
  go_enter Tryd.func52, Tryd.ntmps52
  go_wp2_with (go_at_call 53; refine (part_calls _ _).mono ?_; rintro e w' ⟨rfl, rfl⟩)
  go_ret
  exact ⟨rfl, 0, rfl⟩

theorem bstr_of (b : ByteArray) : bstr b.data.toList = b := rfl
theorem Tryd.info_str9 : (Tryd.prog.info? 9).map (fun i => (i.zero, i.size, i.bytes)) = some (some (.string ByteArray.empty), 1, 16) := by kernel_rfl
set_option maxHeartbeats 1000000 in
/-- A name cut at its colons. -/
theorem Split_calls (w : World) (s : List UInt8) (hs : s.length < 4294967281) :
    Calls Tryd.prog 50 #[.string (bstr s), .string ⟨#[58]⟩] w fun e w' =>
      e = .returned (.slice (some ⟨w.heap.size, 0, none⟩) (partsOf s).length (partsOf s).length) ∧ w' = w.alloc (.cells ((partsOf s).map sv).toArray 9) := by
  have h1 : 1 ≤ (⟨#[58]⟩ : ByteArray).size := by decide
  have hle := Lib.countB_le ⟨#[58]⟩ h1 (bstr s).size (bstr s) (Nat.le_refl _)
  have hlen := Lib.splitB_all ⟨#[58]⟩ h1 0 _ (bstr s) rfl
  have hd := Lib.splitB_data ⟨#[58]⟩ 0 (Lib.countB (bstr s) ⟨#[58]⟩) (bstr s)
  have hp : (Lib.splitB ⟨#[58]⟩ 0 (Lib.countB (bstr s) ⟨#[58]⟩) (bstr s)).map Value.string = (partsOf s).map sv := by
    have : partsOf s = (Lib.splitB ⟨#[58]⟩ 0 (Lib.countB (bstr s) ⟨#[58]⟩) (bstr s)).map (·.data.toList) := hd.symm
    rw [this, List.map_map]
    rfl
  have hl2 : (partsOf s).length = Lib.countB (bstr s) ⟨#[58]⟩ + 1 := by
    have := congrArg List.length hp
    simp only [List.length_map] at this
    rw [← this, hlen]
  have c := Any.strings_genSplit_core Tryd.lays221 Tryd.info_str9 (bstr s) ⟨#[58]⟩ 0 (-1) (Lib.countB (bstr s) ⟨#[58]⟩ + 1) w hs h1 (Nat.zero_le _)
    (fun x cs _ => by
      have := Tryd.strings_Index_one x 58 (w.alloc (.cells cs 9))
      rw [← Lib.index_one] at this
      exact this)
    (by
      have := Tryd.strings_Count_one (bstr s) 58 w
      have e : (Lib.countB (bstr s) ⟨#[58]⟩ : Int) = (Lib.countByte (bstr s).data.toList 58 : Int) := by
        show ((Lib.count (bstr s).data.toList [58] : Nat) : Int) = _
        rw [Lib.count_one]
        rfl
      rw [e]
      exact this)
    (by decide) (by decide) (by rw [if_pos (by decide)]; omega)
  rw [Nat.add_sub_cancel, hlen] at c
  have e2 : Lib.cellsOf (Lib.splitB ⟨#[58]⟩ 0 (Lib.countB (bstr s) ⟨#[58]⟩) (bstr s)) (Lib.countB (bstr s) ⟨#[58]⟩ + 1) = ((partsOf s).map sv).toArray := by
    rw [← hp, ← hlen]
    exact Lib.cellsOf_full _
  rw [e2, ← hl2] at c
  generalize partsOf s = ps at c
  clear hp hd hlen hle e2 hl2
  go_enter Tryd.func50, Tryd.ntmps50
  go_wp2_with (go_at_call 65; refine c.mono ?_; rintro e w' ⟨rfl, hw⟩; rw [hw])
  go_ret
  exact ⟨rfl, rfl⟩
end Go.Proofs.YtejmndfdmikfaaaDoor.Kit
