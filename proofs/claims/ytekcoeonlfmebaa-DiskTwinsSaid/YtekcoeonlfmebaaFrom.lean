/- disk.From: the disk of a state. -/
import Derived.Test.YtekcoeonlfmebaaFromF
import Derived.Test.YtekcoeonlfmebaaFromT
namespace Go.Proofs.Ytekcoeonlfmebaa.Kit
open Go Go.RowKit

set_option maxRecDepth 100000 in
set_option maxHeartbeats 8000000 in
theorem From_calls (w : World) (cap0 fuse : Int) (down : Bool) (A : Option Addr) (c n : Nat) (ys : List FI) (hn : n = ys.length) (hI : RdI w A ys) (hlen : ys.length ≤ 9223372036854775807) (hnm : ∀ y ∈ ys, y.name.length ≤ 9223372036854775807 ∧ y.data.length ≤ 9223372036854775807) (hsy : ∀ y ∈ ys, -9223372036854775808 ≤ y.syn ∧ y.syn ≤ 9223372036854775807) :
    Calls Try.prog 18 #[.agg #[.int .i64 cap0, .slice A n c, .int .i64 fuse, .bool down]] w (FromPost w cap0 fuse down ys) := by
  subst hn
  have HI := Lib.hid (And.intro hI (And.intro hnm hsy))
  have hmo : Try.prog.follows Departure.mixedOrders = true := by kernel_rfl
  clear hI hnm hsy
  by_cases hc : cap0 < 0 ∨ 1048576 < cap0
  · have hnot : ¬ FromOk cap0 fuse down ys := fun h => by have := h.1; have := h.2.1; omega
    go_enter Try.func18, Try.ntmps18
    go_wp2_with fail
    refine (New_bad _ cap0 hc).mono ?_
    rintro e w1 ⟨rfl, rfl⟩
    go_wp2_with fail
    go_ret2
    exact .inr ⟨hnot, rfl, Kp.alloc _ _ _⟩
  · obtain ⟨cap, rfl⟩ : ∃ cap : Nat, cap0 = cap := ⟨cap0.toNat, by omega⟩
    have hcap : cap ≤ 1048576 := by omega
    clear hc
    by_cases h64 : 64 < ys.length
    · have hnot : ¬ FromOk cap fuse down ys := fun h => by have := h.2.2.1; omega
      have h64i : decide ((64 : Int) < (ys.length : Int)) = true := decide_eq_true (by omega)
      go_enter Try.func18, Try.ntmps18
      go_wp2_with fail
      refine (New_calls _ cap _ rfl hcap).mono ?_
      rintro e w1 ⟨d, F, rfl, hD, hn1, hFn⟩
      have hbx := heap_kp (S := fun _ => False) (Bx4.new_ w (.cells #[.int .i64 (cap : Int), .slice A ys.length c, .int .i64 fuse, .bool down] 32)) hn1 id
      have f0 : w1.cell? ⟨w.heap.size, 0, none⟩ = some (.int .i64 (cap : Int)) := (cell_of_block hbx).trans rfl
      have f1 : w1.cell? ⟨w.heap.size, 1, none⟩ = some (.slice A ys.length c) := (cell_of_block hbx).trans rfl
      have f2 : w1.cell? ⟨w.heap.size, 2, none⟩ = some (.int .i64 fuse) := (cell_of_block hbx).trans rfl
      have f3 : w1.cell? ⟨w.heap.size, 3, none⟩ = some (.bool down) := (cell_of_block hbx).trans rfl
      have nW : New w w1 := (Kp.alloc _ _ _).trans hn1 (fun _ _ h => h) (fun _ _ h => h)
      have HN := Lib.hid (And.intro nW (And.intro hbx (And.intro hD (fun k hk => (by have := hFn k hk; simpa using this : w.heap.size + 1 ≤ k)))))
      clear hD hn1 hFn hbx nW
      go_wp2_with fail
      go_ret2
      exact .inr ⟨hnot, rfl, HN.out.1⟩
    · have h64i : decide ((64 : Int) < (ys.length : Int)) = false := decide_eq_false (by omega)
      by_cases hf1 : fuse < -1
      · have hnot : ¬ FromOk cap fuse down ys := fun h => by have := h.2.2.2.1; omega
        go_enter Try.func18, Try.ntmps18
        go_wp2_with fail
        refine (New_calls _ cap _ rfl hcap).mono ?_
        rintro e w1 ⟨d, F, rfl, hD, hn1, hFn⟩
        have hbx := heap_kp (S := fun _ => False) (Bx4.new_ w (.cells #[.int .i64 (cap : Int), .slice A ys.length c, .int .i64 fuse, .bool down] 32)) hn1 id
        have f0 : w1.cell? ⟨w.heap.size, 0, none⟩ = some (.int .i64 (cap : Int)) := (cell_of_block hbx).trans rfl
        have f1 : w1.cell? ⟨w.heap.size, 1, none⟩ = some (.slice A ys.length c) := (cell_of_block hbx).trans rfl
        have f2 : w1.cell? ⟨w.heap.size, 2, none⟩ = some (.int .i64 fuse) := (cell_of_block hbx).trans rfl
        have f3 : w1.cell? ⟨w.heap.size, 3, none⟩ = some (.bool down) := (cell_of_block hbx).trans rfl
        have nW : New w w1 := (Kp.alloc _ _ _).trans hn1 (fun _ _ h => h) (fun _ _ h => h)
        have HN := Lib.hid (And.intro nW (And.intro hbx (And.intro hD (fun k hk => (by have := hFn k hk; simpa using this : w.heap.size + 1 ≤ k)))))
        clear hD hn1 hFn hbx nW
        go_wp2_with fail
        go_ret2
        exact .inr ⟨hnot, rfl, HN.out.1⟩
      · by_cases hf2 : 1048576 < fuse
        · have hnot : ¬ FromOk cap fuse down ys := fun h => by have := h.2.2.2.2.1; omega
          go_enter Try.func18, Try.ntmps18
          go_wp2_with fail
          refine (New_calls _ cap _ rfl hcap).mono ?_
          rintro e w1 ⟨d, F, rfl, hD, hn1, hFn⟩
          have hbx := heap_kp (S := fun _ => False) (Bx4.new_ w (.cells #[.int .i64 (cap : Int), .slice A ys.length c, .int .i64 fuse, .bool down] 32)) hn1 id
          have f0 : w1.cell? ⟨w.heap.size, 0, none⟩ = some (.int .i64 (cap : Int)) := (cell_of_block hbx).trans rfl
          have f1 : w1.cell? ⟨w.heap.size, 1, none⟩ = some (.slice A ys.length c) := (cell_of_block hbx).trans rfl
          have f2 : w1.cell? ⟨w.heap.size, 2, none⟩ = some (.int .i64 fuse) := (cell_of_block hbx).trans rfl
          have f3 : w1.cell? ⟨w.heap.size, 3, none⟩ = some (.bool down) := (cell_of_block hbx).trans rfl
          have nW : New w w1 := (Kp.alloc _ _ _).trans hn1 (fun _ _ h => h) (fun _ _ h => h)
          have HN := Lib.hid (And.intro nW (And.intro hbx (And.intro hD (fun k hk => (by have := hFn k hk; simpa using this : w.heap.size + 1 ≤ k)))))
          clear hD hn1 hFn hbx nW
          go_wp2_with fail
          go_ret2
          exact .inr ⟨hnot, rfl, HN.out.1⟩
        · by_cases hdf : down = true ∧ fuse ≠ -1
          · have hnot : ¬ FromOk cap fuse down ys := fun h => hdf.2 (h.2.2.2.2.2.1 hdf.1)
            obtain ⟨rfl, hfne⟩ := hdf
            have hq : (fuse != -1) = true := by rw [bne_iff_ne]; exact hfne
            go_enter Try.func18, Try.ntmps18
            go_wp2_with fail
            refine (New_calls _ cap _ rfl hcap).mono ?_
            rintro e w1 ⟨d, F, rfl, hD, hn1, hFn⟩
            have hbx := heap_kp (S := fun _ => False) (Bx4.new_ w (.cells #[.int .i64 (cap : Int), .slice A ys.length c, .int .i64 fuse, .bool true] 32)) hn1 id
            have f0 : w1.cell? ⟨w.heap.size, 0, none⟩ = some (.int .i64 (cap : Int)) := (cell_of_block hbx).trans rfl
            have f1 : w1.cell? ⟨w.heap.size, 1, none⟩ = some (.slice A ys.length c) := (cell_of_block hbx).trans rfl
            have f2 : w1.cell? ⟨w.heap.size, 2, none⟩ = some (.int .i64 fuse) := (cell_of_block hbx).trans rfl
            have f3 : w1.cell? ⟨w.heap.size, 3, none⟩ = some (.bool true) := (cell_of_block hbx).trans rfl
            have nW : New w w1 := (Kp.alloc _ _ _).trans hn1 (fun _ _ h => h) (fun _ _ h => h)
            have HN := Lib.hid (And.intro nW (And.intro hbx (And.intro hD (fun k hk => (by have := hFn k hk; simpa using this : w.heap.size + 1 ≤ k)))))
            clear hD hn1 hFn hbx nW
            go_wp2_with fail
            go_ret2
            exact .inr ⟨hnot, rfl, HN.out.1⟩
          · have hgo : (down = true → fuse = -1) := fun h => Classical.byContradiction fun h2 => hdf ⟨h, h2⟩
            have hq : (down && (fuse != -1)) = false := by
              cases hd : down with
              | false => rfl
              | true => rw [hgo hd]; rfl
            have HG := Lib.hid hgo
            clear hgo
            cases down with
            | false => exact From_on w cap fuse A c ys HI hlen hcap h64 (by omega) (by omega) HG
            | true => exact From_off w cap fuse A c ys HI hlen hcap h64 (by omega) (by omega) HG
end Go.Proofs.Ytekcoeonlfmebaa.Kit
