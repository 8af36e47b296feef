/- 2 texts in one: disk.From: the disk of a state.; daybookref03: From. -/
import Derived.Test.YtekcoeonlfmebaaGreatDoorM38
import Derived.Test.YtekcoeonlfmebaaGreatDoorM39
import Derived.Test.YtekcoeonlfmebaaGreatDoorM24
namespace Go.Proofs.YtekcoeonlfmebaaGreatDoor.Kit
open Go Go.RowKit
set_option maxRecDepth 100000 in
set_option maxHeartbeats 8000000 in
theorem From_calls (w : World) (cap0 fuse : Int) (down : Bool) (A : Option Addr) (c n : Nat) (ys : List FI) (hn : n = ys.length) (hI : RdI w A ys) (hlen : ys.length ≤ 9223372036854775807) (hnm : ∀ y ∈ ys, y.name.length ≤ 9223372036854775807 ∧ y.data.length ≤ 9223372036854775807) (hsy : ∀ y ∈ ys, -9223372036854775808 ≤ y.syn ∧ y.syn ≤ 9223372036854775807) :
  Calls Tryz.prog 95 #[.agg #[.int .i64 cap0, .slice A n c, .int .i64 fuse, .bool down]] w (FromPost w cap0 fuse down ys) := by
 subst hn
 have HI := Lib.hid (And.intro hI (And.intro hnm hsy))
 have hmo : Tryz.prog.follows Departure.mixedOrders = true := by kernel_rfl
 clear hI hnm hsy
 by_cases hc : cap0 < 0 ∨ 1048576 < cap0
 ·have hnot : ¬ FromOk cap0 fuse down ys := fun h => by have := h.1; have := h.2.1; omega
  go_enter Tryz.func95, Tryz.ntmps95
  go_wp2_with fail
  refine (New_bad _ cap0 hc).mono ?_
  rintro e w1 ⟨rfl, rfl⟩
  go_wp2_with fail
  go_ret2
  exact .inr ⟨hnot, rfl, Kp.alloc _ _ _⟩
 ·obtain ⟨cap, rfl⟩ : ∃ cap : Nat, cap0 = cap := ⟨cap0.toNat, by omega⟩
  have hcap : cap ≤ 1048576 := by omega
  clear hc
  by_cases h64 : 64 < ys.length
  ·have hnot : ¬ FromOk cap fuse down ys := fun h => by have := h.2.2.1; omega
   have h64i : decide ((64 : Int) < (ys.length : Int)) = true := decide_eq_true (by omega)
   go_enter Tryz.func95, Tryz.ntmps95
   go_wp2_with fail
   refine (New_calls _ cap _ rfl hcap).mono ?_
   rintro e w1 ⟨d, F, rfl, hD, hn1, hFn⟩
   have hbx := heap_kp (S := fun _ => False) (Bx4.new_ w (.cells #[.int .i64 (cap : Int), .slice A ys.length c, .int .i64 fuse, .bool down] 59)) hn1 id
   have f0 : w1.cell? ⟨w.heap.size, 0, none⟩ = some (.int .i64 (cap : Int)) := (cell_of_block hbx).trans rfl
   have f1 : w1.cell? ⟨w.heap.size, 1, none⟩ = some (.slice A ys.length c) := (cell_of_block hbx).trans rfl
   have f2 : w1.cell? ⟨w.heap.size, 2, none⟩ = some (.int .i64 fuse) := (cell_of_block hbx).trans rfl
   have f3 : w1.cell? ⟨w.heap.size, 3, none⟩ = some (.bool down) := (cell_of_block hbx).trans rfl
   have nW : New w w1 := (Kp.alloc _ _ _).trans hn1 fid fid
   have HN := Lib.hid (And.intro nW (And.intro hbx (And.intro hD (fun k hk => (by have := hFn k hk; simpa using this : w.heap.size + 1 ≤ k)))))
   clear hD hn1 hFn hbx nW
   go_wp2_with fail
   go_ret2
   exact .inr ⟨hnot, rfl, HN.out.1⟩
  ·have h64i : decide ((64 : Int) < (ys.length : Int)) = false := decide_eq_false (by omega)
   by_cases hf1 : fuse < -1
   ·have hnot : ¬ FromOk cap fuse down ys := fun h => by have := h.2.2.2.1; omega
    go_enter Tryz.func95, Tryz.ntmps95
    go_wp2_with fail
    refine (New_calls _ cap _ rfl hcap).mono ?_
    rintro e w1 ⟨d, F, rfl, hD, hn1, hFn⟩
    have hbx := heap_kp (S := fun _ => False) (Bx4.new_ w (.cells #[.int .i64 (cap : Int), .slice A ys.length c, .int .i64 fuse, .bool down] 59)) hn1 id
    have f0 : w1.cell? ⟨w.heap.size, 0, none⟩ = some (.int .i64 (cap : Int)) := (cell_of_block hbx).trans rfl
    have f1 : w1.cell? ⟨w.heap.size, 1, none⟩ = some (.slice A ys.length c) := (cell_of_block hbx).trans rfl
    have f2 : w1.cell? ⟨w.heap.size, 2, none⟩ = some (.int .i64 fuse) := (cell_of_block hbx).trans rfl
    have f3 : w1.cell? ⟨w.heap.size, 3, none⟩ = some (.bool down) := (cell_of_block hbx).trans rfl
    have nW : New w w1 := (Kp.alloc _ _ _).trans hn1 fid fid
    have HN := Lib.hid (And.intro nW (And.intro hbx (And.intro hD (fun k hk => (by have := hFn k hk; simpa using this : w.heap.size + 1 ≤ k)))))
    clear hD hn1 hFn hbx nW
    go_wp2_with fail
    go_ret2
    exact .inr ⟨hnot, rfl, HN.out.1⟩
   ·by_cases hf2 : 1048576 < fuse
    ·have hnot : ¬ FromOk cap fuse down ys := fun h => by have := h.2.2.2.2.1; omega
     go_enter Tryz.func95, Tryz.ntmps95
     go_wp2_with fail
     refine (New_calls _ cap _ rfl hcap).mono ?_
     rintro e w1 ⟨d, F, rfl, hD, hn1, hFn⟩
     have hbx := heap_kp (S := fun _ => False) (Bx4.new_ w (.cells #[.int .i64 (cap : Int), .slice A ys.length c, .int .i64 fuse, .bool down] 59)) hn1 id
     have f0 : w1.cell? ⟨w.heap.size, 0, none⟩ = some (.int .i64 (cap : Int)) := (cell_of_block hbx).trans rfl
     have f1 : w1.cell? ⟨w.heap.size, 1, none⟩ = some (.slice A ys.length c) := (cell_of_block hbx).trans rfl
     have f2 : w1.cell? ⟨w.heap.size, 2, none⟩ = some (.int .i64 fuse) := (cell_of_block hbx).trans rfl
     have f3 : w1.cell? ⟨w.heap.size, 3, none⟩ = some (.bool down) := (cell_of_block hbx).trans rfl
     have nW : New w w1 := (Kp.alloc _ _ _).trans hn1 fid fid
     have HN := Lib.hid (And.intro nW (And.intro hbx (And.intro hD (fun k hk => (by have := hFn k hk; simpa using this : w.heap.size + 1 ≤ k)))))
     clear hD hn1 hFn hbx nW
     go_wp2_with fail
     go_ret2
     exact .inr ⟨hnot, rfl, HN.out.1⟩
    ·by_cases hdf : down = true ∧ fuse ≠ -1
     ·have hnot : ¬ FromOk cap fuse down ys := fun h => hdf.2 (h.2.2.2.2.2.1 hdf.1)
      obtain ⟨rfl, hfne⟩ := hdf
      have hq : (fuse != -1) = true := by rw [bne_iff_ne]; exact hfne
      go_enter Tryz.func95, Tryz.ntmps95
      go_wp2_with fail
      refine (New_calls _ cap _ rfl hcap).mono ?_
      rintro e w1 ⟨d, F, rfl, hD, hn1, hFn⟩
      have hbx := heap_kp (S := fun _ => False) (Bx4.new_ w (.cells #[.int .i64 (cap : Int), .slice A ys.length c, .int .i64 fuse, .bool true] 59)) hn1 id
      have f0 : w1.cell? ⟨w.heap.size, 0, none⟩ = some (.int .i64 (cap : Int)) := (cell_of_block hbx).trans rfl
      have f1 : w1.cell? ⟨w.heap.size, 1, none⟩ = some (.slice A ys.length c) := (cell_of_block hbx).trans rfl
      have f2 : w1.cell? ⟨w.heap.size, 2, none⟩ = some (.int .i64 fuse) := (cell_of_block hbx).trans rfl
      have f3 : w1.cell? ⟨w.heap.size, 3, none⟩ = some (.bool true) := (cell_of_block hbx).trans rfl
      have nW : New w w1 := (Kp.alloc _ _ _).trans hn1 fid fid
      have HN := Lib.hid (And.intro nW (And.intro hbx (And.intro hD (fun k hk => (by have := hFn k hk; simpa using this : w.heap.size + 1 ≤ k)))))
      clear hD hn1 hFn hbx nW
      go_wp2_with fail
      go_ret2
      exact .inr ⟨hnot, rfl, HN.out.1⟩
     ·have hgo : (down = true → fuse = -1) := fun h => Classical.byContradiction fun h2 => hdf ⟨h, h2⟩
      have hq : (down && (fuse != -1)) = false := by
       cases hd : down with
       | false => rfl
       | true => rw [hgo hd]; rfl
      have HG := Lib.hid hgo
      clear hgo
      cases down with
      | false => exact From_on w cap fuse A c ys HI hlen hcap h64 (by omega) (by omega) HG
      | true => exact From_off w cap fuse A c ys HI hlen hcap h64 (by omega) (by omega) HG
set_option maxRecDepth 100000 in
set_option maxHeartbeats 2000000 in
theorem RFrom_calls (w : World) (cap fuse : Int) (down : Bool) (A : Option Addr) (c : Nat) (ys : List FI) (h : RdI w A ys) (hl : ys.length ≤ 4611686018427387904) (hd : ∀ y ∈ ys, y.data.length ≤ 140737488355328) (hn : ∀ y ∈ ys, y.name.length ≤ 9223372036854775807) :
  Calls Tryz.prog 96 #[.agg #[.int .i64 cap, .slice A ys.length c, .int .i64 fuse, .bool down]] w (RFromPost w cap fuse down ys) := by
 have HI := Lib.hid (And.intro h (And.intro hd hn))
 clear h hd hn
 go_enter Tryz.func96, Tryz.ntmps96
 go_wp2_with fail
 obtain ⟨W, hW⟩ : ∃ W, w.alloc (.cells #[.int .i64 cap, .slice A ys.length c, .int .i64 fuse, .bool down] 59) = W := ⟨_, rfl⟩
 rw [hW]
 have nW : New w W := hW ▸ Kp.alloc _ _ _
 have bW : W.heap[w.heap.size]? = some (.cells #[.int .i64 cap, .slice A ys.length c, .int .i64 fuse, .bool down] 59 (0, 0)) := hW ▸ heap_alloc_new w _
 have HW := Lib.hid (And.intro nW bW)
 clear hW nW bW
 refine (RValid_calls W cap fuse down A c ys (HI.out.1.new HW.out.1) hl HI.out.2.1 HI.out.2.2).mono ?_
 rintro e w1 ⟨b, rfl, hb, n1⟩
 have n01 := HW.out.1.trans n1 fid fid
 have b1 := heap_kp HW.out.2 n1 id
 have c0 : w1.cell? ⟨w.heap.size, 0, none⟩ = some (.int .i64 cap) := (cell_of_block b1).trans rfl
 have c1 : w1.cell? ⟨w.heap.size, 1, none⟩ = some (.slice A ys.length c) := (cell_of_block b1).trans rfl
 have c2 : w1.cell? ⟨w.heap.size, 2, none⟩ = some (.int .i64 fuse) := (cell_of_block b1).trans rfl
 have c3 : w1.cell? ⟨w.heap.size, 3, none⟩ = some (.bool down) := (cell_of_block b1).trans rfl
 have HB := Lib.hid (And.intro hb n01)
 clear hb n01 b1 n1
 cases b with
 | false =>
  go_wp2_with fail
  go_ret2
  exact .inr ⟨fun h => absurd (HB.out.1.2 h) (by simp), rfl, HB.out.2⟩
 | true =>
  have hok := HB.out.1.1 rfl
  have HO := Lib.hid hok
  have h64 := hok.2.2.1
  have HC := Lib.hid (FI.toV hok.2.2.2.2.2.2.2)
  clear hok
  obtain ⟨xs, hxs⟩ : ∃ xs, xs = ys.map fun y => (⟨y.fl, y.A, y.c⟩ : FV) := ⟨_, rfl⟩
  have hrd : RdF w1 A xs := RdI.toF (by rw [hxs, HC.out]; exact HI.out.1.new HB.out.2)
  have hlen : ys.length = xs.length := by rw [hxs, List.length_map]
  have hdat : ∀ y ∈ xs, y.f.data.length ≤ 1048576 := fun y hy => by
   rw [hxs] at hy
   obtain ⟨z, hz, rfl⟩ := List.mem_map.1 hy
   have h1 := HO.out.2.2.2.2.2.2.1.used
   have h2 := HO.out.2.2.2.2.2.2.1.cap
   obtain ⟨l1, l2, he⟩ := List.append_of_mem (List.mem_map_of_mem (f := FI.fl) hz)
   unfold DS.used at h1
   simp only at h1 h2
   rw [he, used_app, used_cons] at h1
   show z.fl.data.length ≤ _
   omega
  have hfl : xs.map FV.f = ys.map FI.fl := by rw [hxs, List.map_map]; rfl
  have HX := Lib.hid (And.intro hrd (And.intro hdat hfl))
  clear hrd hdat hfl hxs
  go_wp2_with fail
  refine (Copied_calls w1 cap fuse down A c xs HX.out.1 (by omega) HX.out.2.1).mono ?_
  rintro e w2 ⟨A2, c2', zs, rfl, ho, hz, hf, n2⟩
  have H2 := Lib.hid (And.intro ho (And.intro hz (And.intro hf n2)))
  clear ho hz hf n2 c0 c1 c2 c3
  go_wp2_with fail
  go_ret2
  have na : New w2 (w2.alloc (.cells #[.int .i64 cap, .slice A2 zs.length c2', .int .i64 fuse, .bool down] 93)) := Kp.alloc _ _ _
  have z1 := HB.out.2.size
  have z2 := H2.out.2.2.2.size
  refine .inl ⟨HO.out, w2.heap.size, w2.heap.size :: nblks A2 zs, rfl, ⟨A2, c2', zs, ⟨?_, H2.out.1.toN.kp na (fun _ _ => id), fun hm => Nat.lt_irrefl _ (H2.out.1.lt _ hm), H2.out.2.1.trans HX.out.2.2, ?_⟩, rfl⟩, (HB.out.2.trans H2.out.2.2.2 fid fid).trans na fid fid, fun k hk => ?_⟩
  ·have := heap_alloc_new w2 (.cells #[.int .i64 cap, .slice A2 zs.length c2', .int .i64 fuse, .bool down] 93)
   have e : ((cap.toNat : Nat) : Int) = cap := by have := HO.out.1; omega
   simp only [e]
   exact this
  ·have q := HO.out
   have v := q.2.2.2.2.2.2.1
   exact ⟨v.cap, v.used, v.few, v.rise, v.good, v.syn, ⟨q.2.2.2.1, q.2.2.2.2.1⟩, q.2.2.2.2.2.1⟩
  ·rcases List.mem_cons.1 hk with rfl | hk
   ·omega
   ·have := H2.out.2.2.1 k hk
    omega
end Go.Proofs.YtekcoeonlfmebaaGreatDoor.Kit
