/- Bytes as a string; the turning of bytes into a string. -/
import Derived.Test.YtejmndfdmikfaaaDoorOwn
import Derived.Laws.BytesArg
import Derived.Lib.Strings
import Derived.Lib.ConvBytes
namespace Go.Proofs.YtejmndfdmikfaaaDoor.Kit
open Go Go.RowKit

/-- Bytes as a string. -/
def bstr (l : List UInt8) : ByteArray := ⟨l.toArray⟩
theorem bstr_toList (l : List UInt8) : (bstr l).data.toList = l := rfl
theorem bstr_size (l : List UInt8) : (bstr l).size = l.length := rfl
theorem bstr_inj {l m : List UInt8} : bstr l = bstr m ↔ l = m := ⟨fun h => by have := congrArg (fun b : ByteArray => b.data.toList) h; exact this, fun h => by rw [h]⟩
theorem strOfNums_bytes (l : List UInt8) : strOfNums (l.map fun c => (c.toNat : Int)) = bstr l := by
  unfold strOfNums bstr
  congr 2
  rw [List.map_map]
  refine (List.map_congr_left (g := id) fun c _ => ?_).trans (List.map_id l)
  simp
theorem bstr_beq (l m : List UInt8) : ((bstr l).toList == (bstr m).toList) = decide (l = m) := by
  rw [Lib.toList_data, Lib.toList_data, bstr_toList, bstr_toList]
  cases h : decide (l = m) <;> simp_all
theorem run_conv_RdB {P : Program} (w : World) {src dst e : TypeId} (hs : P.underlying src = some (.slice e)) (he : P.underlying e = some (.int .u8)) (hd : P.underlying dst = some .string) {A : Option Addr} (c : Nat) {l : List UInt8} (h : RdB w A l) :
    (convert src dst (.slice A l.length c)).run P w = .ok (.string (bstr l)) w := by
  cases A with
  | none =>
    have : l = [] := Classical.byContradiction fun hl => by obtain ⟨_, _, e, _⟩ := h hl; cases e
    subst this
    exact run_convert_bytes_nil w src e hs he _ _ dst hd
  | some a =>
    by_cases hl : l = []
    · subst hl
      rw [run_convert_bytes_string w src dst e _ _ c hs he hd]
      simp [Conv.bytesToString, loadCells, loadCellsFrom, bstr]
      rfl
    · obtain ⟨b, off, e', hc⟩ := h hl
      cases e'
      have := run_convert_bytes_arg (P := P) w src e hs he b off l.length c (l.map fun c => (c.toNat : Int)) (by simp) (fun i hi => by rw [hc i hi]; simp [hi]) dst hd
      rwa [strOfNums_bytes] at this

/-- A string as bytes: in a new row. -/
theorem run_bytes_of {P : Program} (w : World) {src dst e : TypeId} (hs : P.underlying src = some .string) (hd : P.underlying dst = some (.slice e)) (he : P.underlying e = some (.int .u8)) (l : List UInt8) :
    ∃ c w', (convert src dst (.string (bstr l))).run P w = .ok (.slice (some ⟨w.heap.size, 0, none⟩) l.length c) w' ∧ RdB w' (some ⟨w.heap.size, 0, none⟩) l ∧ New w w' ∧ w'.heap.size = w.heap.size + 1 ∧ l.length ≤ c := by
  refine ⟨_, _, Lib.run_convert_string_bytes w src dst e (bstr l) hs hd he, fun _ => ⟨w.heap.size, 0, rfl, fun j hj => ?_⟩, ?_, Lib.bytesWorld_size _ _ _, ?_⟩
  · rw [Nat.zero_add, Lib.bytesWorld_cell _ _ _ _ hj]
    simp [bstr_toList, List.getD, hj]
  · refine ⟨?_, ?_, ?_, by rw [Lib.bytesWorld_size]; omega, fun k hk _ => Lib.bytesWorld_at_old _ _ _ _ hk⟩ <;>
      simp [Lib.bytesWorld, World.freeze, World.alloc, World.drew, -World.alloc_eq, -World.drew_eq]
  · exact grownCap_ge w l.length 0 e
end Go.Proofs.YtejmndfdmikfaaaDoor.Kit
