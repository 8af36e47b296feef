/- The library's bytes.Equal and bytes.HasPrefix, and the turning of bytes into a string. -/
import Derived.Test.YtdgpnpagbhikoaaGreatDoorProg
import Derived.Test.YtdgpnpagbhikoaaGreatDoorOwn
import Derived.Laws.BytesArg
import Derived.Lib.Strings
namespace Go.Proofs.YtdgpnpagbhikoaaGreatDoor.Kit
open Go Go.RowKit

/-- Bytes as a string. -/
def bstr (l : List UInt8) : ByteArray := ⟨l.toArray⟩
theorem bstr_toList (l : List UInt8) : (bstr l).data.toList = l := rfl
theorem bstr_size (l : List UInt8) : (bstr l).size = l.length := rfl
theorem bstr_inj {l m : List UInt8} : bstr l = bstr m ↔ l = m := ⟨fun h => by have := congrArg (fun b : ByteArray => b.data.toList) h; exact this, fun h => by rw [h]⟩
theorem strOfNums_bytes (l : List UInt8) : strOfNums (l.map fun c => (c.toNat : Int)) = bstr l := by
  unfold strOfNums bstr
  congr 2
  rw [List.map_map]
  refine (List.map_congr_left (g := id) fun c _ => ?_).trans (List.map_id l)
  simp
theorem bstr_beq (l m : List UInt8) : ((bstr l).toList == (bstr m).toList) = decide (l = m) := by
  rw [Lib.toList_data, Lib.toList_data, bstr_toList, bstr_toList]
  cases h : decide (l = m) <;> simp_all
theorem run_conv_RdB {P : Program} (w : World) {src dst e : TypeId} (hs : P.underlying src = some (.slice e)) (he : P.underlying e = some (.int .u8)) (hd : P.underlying dst = some .string) {A : Option Addr} (c : Nat) {l : List UInt8} (h : RdB w A l) :
    (convert src dst (.slice A l.length c)).run P w = .ok (.string (bstr l)) w := by
  cases A with
  | none =>
    have : l = [] := Classical.byContradiction fun hl => by obtain ⟨_, _, e, _⟩ := h hl; cases e
    subst this
    exact run_convert_bytes_nil w src e hs he _ _ dst hd
  | some a =>
    by_cases hl : l = []
    · subst hl
      rw [run_convert_bytes_string w src dst e _ _ c hs he hd]
      simp [Conv.bytesToString, loadCells, loadCellsFrom, bstr]
      rfl
    · obtain ⟨b, off, e', hc⟩ := h hl
      cases e'
      have := run_convert_bytes_arg (P := P) w src e hs he b off l.length c (l.map fun c => (c.toNat : Int)) (by simp) (fun i hi => by rw [hc i hi]; simp [hi]) dst hd
      rwa [strOfNums_bytes] at this

set_option maxHeartbeats 1000000 in
theorem Equal_calls (w : World) (A B : Option Addr) (n m c d : Nat) (l r : List UInt8) (hl : RdB w A l) (hr : RdB w B r) (hn : n = l.length) (hm : m = r.length) :
    Calls Tryz.prog 187 #[.slice A n c, .slice B m d] w fun e w' => e = .returned (.bool (decide (l = r))) ∧ w = w' := by
  subst hn
  subst hm
  have h1 := run_conv_RdB (P := Tryz.prog) w (src := 22) (dst := 9) Tryz.underlying22 Tryz.underlying5 Tryz.underlying9 c hl
  have h2 := run_conv_RdB (P := Tryz.prog) w (src := 22) (dst := 9) Tryz.underlying22 Tryz.underlying5 Tryz.underlying9 d hr
  clear hl hr
  go_enter Tryz.func187, Tryz.ntmps187
  go_wp2
  go_ret
  exact ⟨by rw [bstr_beq]; rfl, rfl⟩

theorem Tryz.size_u8 : (Tryz.prog.info? 5).map (·.size) = some 1 := by kernel_rfl

set_option maxHeartbeats 1000000 in
theorem HasPrefix_calls (w : World) (A B : Option Addr) (n m c d : Nat) (l r : List UInt8) (hl : RdB w A l) (hr : RdB w B r) (hn : n = l.length) (hm : m = r.length) (hc : n ≤ c) (hb : n ≤ 4611686018427387904) (hb2 : m ≤ 4611686018427387904) :
    Calls Tryz.prog 285 #[.slice A n c, .slice B m d] w fun e w' => e = .returned (.bool (decide (l.take r.length = r))) ∧ w = w' := by
  subst hn
  subst hm
  by_cases h : r.length ≤ l.length
  · have hs := run_slice_upto (P := Tryz.prog) 22 5 Tryz.underlying22 1 Tryz.size_u8 A l.length c r.length (by omega)
    have H := Lib.hid (And.intro hl hr)
    have hd : decide ((l.length : Int) ≥ r.length) = true := by simpa using h
    clear hl hr
    go_enter Tryz.func285, Tryz.ntmps285
    go_wp2_with (go_at_call 187; refine (Equal_calls _ _ _ _ _ _ _ (l.take r.length) r (H.out.1.upto _) H.out.2 (by simp; omega) rfl).mono ?_; rintro e w' ⟨rfl, rfl⟩)
    go_ret
    exact ⟨rfl, rfl⟩
  · have HX := Lib.hid (show decide (l.take r.length = r) = false from decide_eq_false (fun e => h (by have := congrArg List.length e; rw [List.length_take] at this; omega)))
    go_enter Tryz.func285, Tryz.ntmps285
    go_wp2_with fail
    go_ret
    exact ⟨by rw [HX.out]; rfl, rfl⟩
end Go.Proofs.YtdgpnpagbhikoaaGreatDoor.Kit
