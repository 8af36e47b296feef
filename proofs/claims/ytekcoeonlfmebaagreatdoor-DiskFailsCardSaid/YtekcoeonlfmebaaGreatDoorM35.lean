/- 1 texts in one: daybookkeep: pages of Ints. -/
import Derived.Test.YtekcoeonlfmebaaGreatDoorM2
import Derived.Test.YtekcoeonlfmebaaGreatDoorM3
namespace Go.Proofs.YtekcoeonlfmebaaGreatDoor.Kit
open Go Go.RowKit
def cellsInts (sy : Int) : List Value := [.int .i64 sy]
def kInts : EK := ⟨3, 118, 1, fun a => ∃ sy, a = cellsInts sy, fun id k => cellsInts (-1000000 * ((id : Int) % 1000 + 1) - (k : Int))⟩
theorem kInts_ok : kInts.Ok := ⟨by decide, by rintro a ⟨sy, rfl⟩; rfl, fun id k => ⟨_, rfl⟩, by
 rintro a ⟨sy, rfl⟩ u hu
 simp only [cellsInts, List.mem_cons, List.not_mem_nil, or_false] at hu
 subst hu; rfl⟩
theorem Tryz.info_I : (Tryz.prog.info? 3).map (fun i => (i.zero, i.size, i.bytes)) = some (some (.int .i64 0), 1, 8) := by kernel_rfl
theorem markInts_calls (w : World) (id k : Nat) (i j : Int) (hi : i = id) (hj : j = k) (h1 : id ≤ 1000000) (h2 : k ≤ 1099511627776) (_hT : Tab w) :
  Calls Tryz.prog 213 #[.int .i64 i, .int .i64 j] w fun e w' => e = .returned (.int .i64 (-1000000 * ((id : Int) % 1000 + 1) - (k : Int))) ∧ New w w' := by
 subst hi hj
 have h5 : (k : Int) ≤ 1099511627776 := by omega
 have h6 : (0 : Int) ≤ k := by omega
 have h7 : (0 : Int) ≤ id := by omega
 have h8 : (id : Int) ≤ 1000000 := by omega
 go_enter Tryz.func213, Tryz.ntmps213
 go_wp2_with fail
 go_ret
 exact ⟨rfl, Kp.refl _ _⟩
theorem sameInts_calls (w : World) (sy : Int) :
  Calls Tryz.prog 215 #[.int .i64 sy, .int .i64 sy] w fun e w' => e = .returned (.bool true) ∧ New w w' := by
 go_enter Tryz.func215, Tryz.ntmps215
 go_wp2_with fail
 go_ret
 exact ⟨by simp, Kp.refl _ _⟩
end Go.Proofs.YtekcoeonlfmebaaGreatDoor.Kit
