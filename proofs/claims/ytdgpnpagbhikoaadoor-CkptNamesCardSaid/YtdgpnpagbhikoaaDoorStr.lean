/- Bytes as a string; the turning of bytes into a string. -/
import Derived.Test.YtdgpnpagbhikoaaDoorOwn
import Derived.Laws.BytesArg
import Derived.Lib.Strings
namespace Go.Proofs.YtdgpnpagbhikoaaDoor.Kit
open Go Go.RowKit

/-- Bytes as a string. -/
def bstr (l : List UInt8) : ByteArray := ⟨l.toArray⟩
theorem bstr_toList (l : List UInt8) : (bstr l).data.toList = l := rfl
theorem bstr_size (l : List UInt8) : (bstr l).size = l.length := rfl
theorem bstr_inj {l m : List UInt8} : bstr l = bstr m ↔ l = m := ⟨fun h => by have := congrArg (fun b : ByteArray => b.data.toList) h; exact this, fun h => by rw [h]⟩
theorem strOfNums_bytes (l : List UInt8) : strOfNums (l.map fun c => (c.toNat : Int)) = bstr l := by
  unfold strOfNums bstr
  congr 2
  rw [List.map_map]
  refine (List.map_congr_left (g := id) fun c _ => ?_).trans (List.map_id l)
  simp
theorem bstr_beq (l m : List UInt8) : ((bstr l).toList == (bstr m).toList) = decide (l = m) := by
  rw [Lib.toList_data, Lib.toList_data, bstr_toList, bstr_toList]
  cases h : decide (l = m) <;> simp_all
theorem run_conv_RdB {P : Program} (w : World) {src dst e : TypeId} (hs : P.underlying src = some (.slice e)) (he : P.underlying e = some (.int .u8)) (hd : P.underlying dst = some .string) {A : Option Addr} (c : Nat) {l : List UInt8} (h : RdB w A l) :
    (convert src dst (.slice A l.length c)).run P w = .ok (.string (bstr l)) w := by
  cases A with
  | none =>
    have : l = [] := Classical.byContradiction fun hl => by obtain ⟨_, _, e, _⟩ := h hl; cases e
    subst this
    exact run_convert_bytes_nil w src e hs he _ _ dst hd
  | some a =>
    by_cases hl : l = []
    · subst hl
      rw [run_convert_bytes_string w src dst e _ _ c hs he hd]
      simp [Conv.bytesToString, loadCells, loadCellsFrom, bstr]
      rfl
    · obtain ⟨b, off, e', hc⟩ := h hl
      cases e'
      have := run_convert_bytes_arg (P := P) w src e hs he b off l.length c (l.map fun c => (c.toNat : Int)) (by simp) (fun i hi => by rw [hc i hi]; simp [hi]) dst hd
      rwa [strOfNums_bytes] at this

end Go.Proofs.YtdgpnpagbhikoaaDoor.Kit
