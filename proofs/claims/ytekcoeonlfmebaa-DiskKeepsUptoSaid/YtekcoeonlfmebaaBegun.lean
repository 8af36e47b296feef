/- A disk begun. -/
import Derived.Test.YtekcoeonlfmebaaActs
namespace Go.Proofs.Ytekcoeonlfmebaa.Kit
open Go Go.RowKit

def BegunPost (w : World) (e : Ending) (w' : World) : Prop := ∃ d F cap, cap ≤ 1048576 ∧ e = .returned (.tuple #[.pointer (some ⟨d, 0, none⟩), .bool true]) ∧ DiskAt w' d (DS.new cap) F ∧ New w w' ∧ ∀ k ∈ F, w.heap.size ≤ k
set_option maxHeartbeats 1000000 in
theorem begun_calls (w : World) (n : Int) (h1 : -9223372036854775808 ≤ n) (h2 : n ≤ 9223372036854775807) :
    Calls Try.prog 6 #[.int .i64 n] w (BegunPost w) := by
  by_cases hn : n < 0
  · obtain ⟨m, rfl⟩ : ∃ m : Nat, n = -(m : Int) - 1 := ⟨(-n - 1).toNat, by omega⟩
    have hlt : m % 1048577 ≤ 1048576 := by omega
    have e1 : wrap64 (-(m : Int) - 1 + 1) = -(m : Int) := by simp only [wrap64]; omega
    have e2 : wrap64 (m : Int) = (m : Int) := by simp only [wrap64]; omega
    go_enter Try.func6, Try.ntmps6
    go_wp2_with fail
    refine (New_calls w _ (m % 1048577) rfl hlt).mono ?_
    rintro e w1 ⟨d, F, rfl, hD, hn1, hF⟩
    have HD := Lib.hid (And.intro hD (And.intro hn1 hF))
    clear hD hn1 hF
    go_wp2_with fail
    refine (num_calls _ _).mono ?_
    rintro e w2 ⟨rfl, rfl⟩
    go_wp2_with fail
    go_ret2
    exact ⟨d, F, _, hlt, rfl, HD.out.1, HD.out.2.1, HD.out.2.2⟩
  · obtain ⟨m, rfl⟩ : ∃ m : Nat, n = (m : Int) := ⟨n.toNat, by omega⟩
    have hlt : m % 1048577 ≤ 1048576 := by omega
    go_enter Try.func6, Try.ntmps6
    go_wp2_with fail
    refine (New_calls w _ (m % 1048577) rfl hlt).mono ?_
    rintro e w1 ⟨d, F, rfl, hD, hn1, hF⟩
    have HD := Lib.hid (And.intro hD (And.intro hn1 hF))
    clear hD hn1 hF
    go_wp2_with fail
    refine (num_calls _ _).mono ?_
    rintro e w2 ⟨rfl, rfl⟩
    go_wp2_with fail
    go_ret2
    exact ⟨d, F, _, hlt, rfl, HD.out.1, HD.out.2.1, HD.out.2.2⟩
end Go.Proofs.Ytekcoeonlfmebaa.Kit
