/- daybookkeep: a page of bytes, looked at. -/
import Derived.Test.YtdgpnpagbhikoaaGreatDoorBookD
namespace Go.Proofs.YtdgpnpagbhikoaaGreatDoor.Kit
open Go Go.RowKit

set_option maxHeartbeats 1000000 in
theorem showsB_kept (w : World) (A U : Option Addr) (n c un uc id : Nat) (l : List UInt8) (hA : RdB w A l) (hU : RdB w U l) (hn : n = l.length) (hu : un = l.length) (hb : n ≤ 1099511627776) :
    Calls Tryz.prog 256 #[.agg #[.slice A n c, .slice none 0 0, .slice U un uc, .int .i64 (id : Int), .bool false]] w fun e w' => e = .returned (.bool true) ∧ New w w' := by
  subst hn
  subst hu
  have H := Lib.hid (And.intro hA hU)
  clear hA hU
  go_enter Tryz.func256, Tryz.ntmps256
  go_wp2
  obtain ⟨W0, hW0⟩ : ∃ W0, w.alloc (.cells #[.slice A l.length c, .slice none 0 0, .slice U l.length uc, .int .i64 (id : Int), .bool false] 93) = W0 := ⟨_, rfl⟩
  rw [hW0]
  have hg : W0.heap[w.heap.size]? = some (.cells #[.slice A l.length c, .slice none 0 0, .slice U l.length uc, .int .i64 (id : Int), .bool false] 93 (0, 0)) := hW0 ▸ heap_alloc_new w _
  have hn0 : New w W0 := hW0 ▸ Kp.alloc _ _ _
  have f0 : W0.cell? ⟨w.heap.size, 0, none⟩ = some (.slice A l.length c) := (cell_of_block hg).trans rfl
  have f1 : W0.cell? ⟨w.heap.size, 1, none⟩ = some (.slice none 0 0) := (cell_of_block hg).trans rfl
  have f2 : W0.cell? ⟨w.heap.size, 2, none⟩ = some (.slice U l.length uc) := (cell_of_block hg).trans rfl
  have f4 : W0.cell? ⟨w.heap.size, 4, none⟩ = some (.bool false) := (cell_of_block hg).trans rfl
  have HN := Lib.hid (And.intro hn0 hg)
  have HR := Lib.hid (And.intro (H.out.1.new hn0) (H.out.2.new hn0))
  clear hg hn0 hW0
  go_loopw [4] (fun i wr => ∃ k q : Nat, k ≤ l.length ∧ i = .int .i64 (k : Int) ∧ wr = W0.drewN q) (fun i _ => l.length - (intOf i).toNat)
  case atStart => exact ⟨0, 0, Nat.zero_le _, rfl, rfl⟩
  case round =>
    obtain ⟨k, q, hk, rfl, rfl⟩ := hrel
    by_cases hlt : k < l.length
    · obtain ⟨b1, o1, rfl, hc1⟩ := HR.out.1.at_ hlt
      obtain ⟨b2, o2, rfl, hc2⟩ := HR.out.2.at_ hlt
      have e1 := hc1 k hlt
      have e2 := hc2 k hlt
      have HC := Lib.hid (And.intro hc1 hc2)
      clear hc1 hc2
      generalize hx : l[k] = x at e1 e2
      have HX := Lib.hid hx
      clear hx
      have hki : (k : Int) < (l.length : Int) := by omega
      have hk0 : (0 : Int) ≤ k := by omega
      have hmo : Tryz.prog.follows Departure.mixedOrders = true := by kernel_rfl
      go_wp2
      refine wp_region_line (fun w' => w'.cell? ⟨w.heap.size, 0, none⟩ = some (.slice (some ⟨b1, o1, none⟩) l.length c) ∧ w'.cell? ⟨w.heap.size, 2, none⟩ = some (.slice (some ⟨b2, o2, none⟩) l.length uc) ∧ w'.cell? ⟨w.heap.size, 4, none⟩ = some (.bool false) ∧ w'.cell? ⟨b1, o1 + k, none⟩ = some (.int .u8 (x.toNat : Int)) ∧ w'.cell? ⟨b2, o2 + k, none⟩ = some (.int .u8 (x.toNat : Int))) (pl := [(0, true), (1, true), (2, true), (3, true), (4, true), (5, true), (6, true), (7, true), (8, true), (9, true), (10, true), (11, true), (12, true), (13, true), (14, false), (15, true), (16, true)]) hmo (by kernel_rfl) ⟨by simpa using f0, by simpa using f2, by simpa using f4, by simpa using e1, by simpa using e2⟩ ?_
      iterate 14 (refine line_get rfl rfl (fun K hK => ?_); apply Exists.intro; refine ⟨fun w hS => ?_, ?_⟩; (first | (have hS' := hS rfl; go_simp; with_reducible rfl) | (go_simp; with_reducible rfl)); (go_simp; refine hK _ ?_; clear hK K))
      (refine line_do rfl rfl (fun K hK => ?_); go_simp)
      refine (sameBytes_calls _ x x).mono ?_
      rintro e w' ⟨rfl, rfl⟩
      rw [show decide (x = x) = true from decide_eq_true rfl]
      refine hK _ _ (fun _ => ⟨by simpa using f0, by simpa using f2, by simpa using f4, by simpa using e1, by simpa using e2⟩) ?_
      clear hK K
      iterate 2 (refine line_get rfl rfl (fun K hK => ?_); apply Exists.intro; refine ⟨fun w hS => ?_, ?_⟩; (first | (have hS' := hS rfl; go_simp; with_reducible rfl) | (go_simp; with_reducible rfl)); (go_simp; refine hK _ ?_; clear hK K))
      refine line_nil ?_
      go_wp2
      refine wp_region_line (fun w' => w'.cell? ⟨w.heap.size, 4, none⟩ = some (.bool false)) (pl := [(0, true), (1, true), (2, true), (3, true), (4, true), (5, true), (6, true), (7, true), (8, true), (9, true), (10, true), (11, false), (12, false), (13, true), (14, true), (15, true), (16, true), (17, true), (18, true), (19, true), (20, true), (21, true), (22, true), (23, true), (24, true), (25, true), (26, true), (27, true), (28, false), (29, false), (30, true), (31, true), (32, true), (33, true)]) hmo (by kernel_rfl) (by simpa using f4) ?_
      iterate 3 (refine line_get rfl rfl (fun K hK => ?_); apply Exists.intro; refine ⟨fun w hS => ?_, ?_⟩; (first | (have hS' := hS rfl; go_simp; with_reducible rfl) | (go_simp; with_reducible rfl)); (go_simp; refine hK _ ?_; clear hK K))
      iterate 8 (refine line_past rfl rfl (fun K hK => ?_); go_simp; refine hK _ ?_; clear hK K)
      iterate 2 (refine line_miss rfl rfl (fun _ => by simpa using f4) ?_; go_simp)
      iterate 15 (refine line_past rfl rfl (fun K hK => ?_); go_simp; refine hK _ ?_; clear hK K)
      iterate 2 (refine line_miss rfl rfl (fun _ => by simpa using f4) ?_; go_simp)
      iterate 3 (refine line_past rfl rfl (fun K hK => ?_); go_simp; refine hK _ ?_; clear hK K)
      (refine line_get rfl rfl (fun K hK => ?_); apply Exists.intro; refine ⟨fun w hS => ?_, ?_⟩; (first | (have hS' := hS rfl; go_simp; with_reducible rfl) | (go_simp; with_reducible rfl)); (go_simp; refine hK _ ?_; clear hK K))
      refine line_nil ?_
      go_wp2
      exact ⟨⟨k + 1, q + 2, by omega, by go_num, rfl⟩, by simp [intOf]; omega⟩
    · obtain rfl : k = l.length := by omega
      go_wp2
      go_loopw [5] (fun i wr => i = .int .i64 (l.length : Int) ∧ wr = W0.drewN q) (fun i _ => 0)
      case atStart => exact ⟨rfl, rfl⟩
      case round =>
        obtain ⟨rfl, rfl⟩ := hrel
        go_wp2
        go_ret
        exact ⟨rfl, HN.out.1.trans (Kp.drewN _ _ _) (fun _ _ h => h) (fun _ _ h => h)⟩

set_option maxHeartbeats 2000000 in
theorem showsB_done (w : World) (A G : Option Addr) (u : Value) (n c gn gc id : Nat) (hA : RdB w A (marksB id n)) (hG : RdB w G (marksB id n ++ marksB (id + 100000) 64)) (hg : gn = n + 64) (hid : id ≤ 800000) (hb : n ≤ 1099511627776) :
    Calls Tryz.prog 256 #[.agg #[.slice A n c, .slice G gn gc, u, .int .i64 (id : Int), .bool true]] w fun e w' => e = .returned (.bool true) ∧ New w w' := by
  subst hg
  have H := Lib.hid (And.intro hA hG)
  clear hA hG
  go_enter Tryz.func256, Tryz.ntmps256
  go_wp2
  obtain ⟨W0, hW0⟩ : ∃ W0, w.alloc (.cells #[.slice A n c, .slice G (n + 64) gc, u, .int .i64 (id : Int), .bool true] 93) = W0 := ⟨_, rfl⟩
  rw [hW0]
  have hg : W0.heap[w.heap.size]? = some (.cells #[.slice A n c, .slice G (n + 64) gc, u, .int .i64 (id : Int), .bool true] 93 (0, 0)) := hW0 ▸ heap_alloc_new w _
  have hn0 : New w W0 := hW0 ▸ Kp.alloc _ _ _
  have f0 : W0.cell? ⟨w.heap.size, 0, none⟩ = some (.slice A n c) := (cell_of_block hg).trans rfl
  have f1 : W0.cell? ⟨w.heap.size, 1, none⟩ = some (.slice G (n + 64) gc) := (cell_of_block hg).trans rfl
  have f3 : W0.cell? ⟨w.heap.size, 3, none⟩ = some (.int .i64 (id : Int)) := (cell_of_block hg).trans rfl
  have f4 : W0.cell? ⟨w.heap.size, 4, none⟩ = some (.bool true) := (cell_of_block hg).trans rfl
  have HN := Lib.hid (And.intro hn0 hg)
  have HR := Lib.hid (And.intro (H.out.1.new hn0) (H.out.2.new hn0))
  have hmo : Tryz.prog.follows Departure.mixedOrders = true := by kernel_rfl
  clear hg hn0 hW0
  go_loopw [4] (fun i wr => ∃ k q : Nat, k ≤ n ∧ i = .int .i64 (k : Int) ∧ wr = W0.drewN q) (fun i _ => n - (intOf i).toNat)
  case atStart => exact ⟨0, 0, Nat.zero_le _, rfl, rfl⟩
  case round =>
    obtain ⟨k, q, hk, rfl, rfl⟩ := hrel
    by_cases hlt : k < n
    · obtain ⟨b1, o1, rfl, hc1⟩ := HR.out.1.at_ (k := k) (by rw [marksB_length]; exact hlt)
      obtain ⟨b2, o2, rfl, hc2⟩ := HR.out.2.at_ (k := k) (by rw [List.length_append, marksB_length]; omega)
      have e1 := hc1 k (by rw [marksB_length]; exact hlt)
      have e2 := hc2 k (by rw [List.length_append, marksB_length]; omega)
      rw [List.getElem_append_left (by rw [marksB_length]; exact hlt)] at e2
      have HC := Lib.hid (And.intro hc1 hc2)
      clear hc1 hc2
      have hx : (marksB id n)[k]'(by rw [marksB_length]; exact hlt) = markB id k := by simp [marksB]
      rw [hx] at e1 e2
      clear hx
      generalize hx : markB id k = x at e1 e2
      have HX := Lib.hid hx
      clear hx
      have hxl := x.toNat_lt
      have hki : (k : Int) < n := by omega
      have hki2 : (k : Int) < (n : Int) + 64 := by omega
      have hk0 : (0 : Int) ≤ k := by omega
      have hgp : (0 : Int) < (n : Int) + 64 := by omega
      go_wp2
      refine wp_region_line (fun w' => w'.cell? ⟨w.heap.size, 4, none⟩ = some (.bool true)) (pl := [(0, true), (1, true), (2, true), (3, true), (4, true), (5, true), (6, true), (7, true), (8, true), (9, true), (10, true), (11, true), (12, true), (13, true), (14, false), (15, true), (16, true)]) hmo (by kernel_rfl) (by simpa using f4) ?_
      iterate 4 (refine line_get rfl rfl (fun K hK => ?_); apply Exists.intro; refine ⟨fun w hS => ?_, ?_⟩; (first | (have hS' := hS rfl; go_simp; with_reducible rfl) | (go_simp; with_reducible rfl)); (go_simp; refine hK _ ?_; clear hK K))
      iterate 10 (refine line_past rfl rfl (fun K hK => ?_); go_simp; refine hK _ ?_; clear hK K)
      refine line_miss rfl rfl (fun _ => by simpa using f4) ?_
      go_simp
      (refine line_past rfl rfl (fun K hK => ?_); go_simp; refine hK _ ?_; clear hK K)
      (refine line_get rfl rfl (fun K hK => ?_); apply Exists.intro; refine ⟨fun w hS => ?_, ?_⟩; (first | (have hS' := hS rfl; go_simp; with_reducible rfl) | (go_simp; with_reducible rfl)); (go_simp; refine hK _ ?_; clear hK K))
      refine line_nil ?_
      go_wp2
      refine wp_region_line (fun w' => w'.cell? ⟨w.heap.size, 0, none⟩ = some (.slice (some ⟨b1, o1, none⟩) n c) ∧ w'.cell? ⟨w.heap.size, 1, none⟩ = some (.slice (some ⟨b2, o2, none⟩) (n + 64) gc) ∧ w'.cell? ⟨w.heap.size, 3, none⟩ = some (.int .i64 (id : Int)) ∧ w'.cell? ⟨w.heap.size, 4, none⟩ = some (.bool true) ∧ w'.cell? ⟨b1, o1 + k, none⟩ = some (.int .u8 (x.toNat : Int)) ∧ w'.cell? ⟨b2, o2 + k, none⟩ = some (.int .u8 (x.toNat : Int))) (pl := [(0, true), (1, true), (2, true), (3, true), (4, true), (5, true), (6, true), (7, true), (8, true), (9, true), (10, true), (11, false), (12, false), (13, true), (14, true), (15, true), (16, true), (17, true), (18, true), (19, true), (20, true), (21, true), (22, true), (23, true), (24, true), (25, true), (26, true), (27, true), (28, false), (29, false), (30, true), (31, true), (32, true), (33, true)]) hmo (by kernel_rfl) ⟨by simpa using f0, by simpa using f1, by simpa using f3, by simpa using f4, by simpa using e1, by simpa using e2⟩ ?_
      iterate 11 (refine line_get rfl rfl (fun K hK => ?_); apply Exists.intro; refine ⟨fun w hS => ?_, ?_⟩; (first | (have hS' := hS rfl; go_simp; with_reducible rfl) | (go_simp; with_reducible rfl)); (go_simp; refine hK _ ?_; clear hK K))
      (refine line_do rfl rfl (fun K hK => ?_); go_simp)
      refine (markBytes_calls _ id k _ _ rfl rfl (by omega) (by omega)).mono ?_
      rintro e w' ⟨rfl, rfl⟩
      rw [HX.out]
      refine hK _ _ (fun _ => ⟨by simpa using f0, by simpa using f1, by simpa using f3, by simpa using f4, by simpa using e1, by simpa using e2⟩) ?_
      clear hK K
      (refine line_do rfl rfl (fun K hK => ?_); go_simp)
      refine (sameBytes_calls _ x x).mono ?_
      rintro e w' ⟨rfl, rfl⟩
      rw [show decide (x = x) = true from decide_eq_true rfl]
      refine hK _ _ (fun _ => ⟨by simpa using f0, by simpa using f1, by simpa using f3, by simpa using f4, by simpa using e1, by simpa using e2⟩) ?_
      clear hK K
      iterate 15 (refine line_get rfl rfl (fun K hK => ?_); apply Exists.intro; refine ⟨fun w hS => ?_, ?_⟩; (first | (have hS' := hS rfl; go_simp; with_reducible rfl) | (go_simp; with_reducible rfl)); (go_simp; refine hK _ ?_; clear hK K))
      (refine line_do rfl rfl (fun K hK => ?_); go_simp)
      refine (markBytes_calls _ id k _ _ rfl rfl (by omega) (by omega)).mono ?_
      rintro e w' ⟨rfl, rfl⟩
      rw [HX.out]
      refine hK _ _ (fun _ => ⟨by simpa using f0, by simpa using f1, by simpa using f3, by simpa using f4, by simpa using e1, by simpa using e2⟩) ?_
      clear hK K
      (refine line_do rfl rfl (fun K hK => ?_); go_simp)
      refine (sameBytes_calls _ x x).mono ?_
      rintro e w' ⟨rfl, rfl⟩
      rw [show decide (x = x) = true from decide_eq_true rfl]
      refine hK _ _ (fun _ => ⟨by simpa using f0, by simpa using f1, by simpa using f3, by simpa using f4, by simpa using e1, by simpa using e2⟩) ?_
      clear hK K
      iterate 4 (refine line_get rfl rfl (fun K hK => ?_); apply Exists.intro; refine ⟨fun w hS => ?_, ?_⟩; (first | (have hS' := hS rfl; go_simp; with_reducible rfl) | (go_simp; with_reducible rfl)); (go_simp; refine hK _ ?_; clear hK K))
      refine line_nil ?_
      go_wp2
      exact ⟨⟨k + 1, q + 2, by omega, by go_num, rfl⟩, by simp [intOf]; omega⟩
    · have hkn : n = k := by omega
      subst hkn
      go_wp2
      go_loopw [5] (fun i wr => ∃ j q : Nat, j ≤ 64 ∧ i = .int .i64 ((n : Int) + j) ∧ wr = W0.drewN q) (fun i _ => n + 64 - (intOf i).toNat)
      case atStart => exact ⟨0, q, by omega, by simp, rfl⟩
      case round =>
        obtain ⟨j, q, hj, rfl, rfl⟩ := hrel
        by_cases hlt2 : j < 64
        · obtain ⟨b2, o2, rfl, hc2⟩ := HR.out.2.at_ (k := n + j) (by rw [List.length_append, marksB_length, marksB_length]; omega)
          have e2 := hc2 (n + j) (by rw [List.length_append, marksB_length, marksB_length]; omega)
          rw [List.getElem_append_right (by rw [marksB_length]; omega)] at e2
          have hx : (marksB (id + 100000) 64)[n + j - (marksB id n).length]'(by rw [marksB_length, marksB_length]; omega) = markB (id + 100000) j := by simp [marksB]
          rw [hx] at e2
          clear hx
          have HC := Lib.hid hc2
          clear hc2
          generalize hx : markB (id + 100000) j = x at e2
          have HX := Lib.hid hx
          clear hx
          rw [show n + j = ((n : Int) + (j : Int)).toNat by omega] at e2
          have hxl := x.toNat_lt
          have hj0 : (0 : Int) ≤ (n : Int) + j := by omega
          have hj1 : (n : Int) + j < (n : Int) + 64 := by omega
          go_wp2
          refine wp_region_line (fun w' => w'.cell? ⟨w.heap.size, 1, none⟩ = some (.slice (some ⟨b2, o2, none⟩) (n + 64) gc) ∧ w'.cell? ⟨w.heap.size, 3, none⟩ = some (.int .i64 (id : Int)) ∧ w'.cell? ⟨b2, o2 + ((n : Int) + (j : Int)).toNat, none⟩ = some (.int .u8 (x.toNat : Int))) (pl := [(0, true), (1, true), (2, true), (3, true), (4, true), (5, true), (6, true), (8, true), (9, true), (10, true), (7, false), (11, false), (12, false), (13, true)]) hmo (by kernel_rfl) ⟨by simpa using f1, by simpa using f3, by simpa using e2⟩ ?_
          iterate 10 (refine line_get rfl rfl (fun K hK => ?_); apply Exists.intro; refine ⟨fun w hS => ?_, ?_⟩; (first | (have hS' := hS rfl; go_simp; with_reducible rfl) | (go_simp; with_reducible rfl)); (go_simp; refine hK _ ?_; clear hK K))
          (refine line_do rfl rfl (fun K hK => ?_); go_simp)
          refine (behind_calls _ id _ rfl (by omega)).mono ?_
          rintro e w' ⟨rfl, rfl⟩
          refine hK _ _ (fun _ => ⟨by simpa using f1, by simpa using f3, by simpa using e2⟩) ?_
          clear hK K
          (refine line_do rfl rfl (fun K hK => ?_); go_simp)
          refine (markBytes_calls _ (id + 100000) j _ _ rfl (by rw [IntKind.wrap_i64]; omega) (by omega) (by omega)).mono ?_
          rintro e w' ⟨rfl, rfl⟩
          rw [HX.out]
          refine hK _ _ (fun _ => ⟨by simpa using f1, by simpa using f3, by simpa using e2⟩) ?_
          clear hK K
          (refine line_do rfl rfl (fun K hK => ?_); go_simp)
          refine (sameBytes_calls _ x x).mono ?_
          rintro e w' ⟨rfl, rfl⟩
          rw [show decide (x = x) = true from decide_eq_true rfl]
          refine hK _ _ (fun _ => ⟨by simpa using f1, by simpa using f3, by simpa using e2⟩) ?_
          clear hK K
          (refine line_get rfl rfl (fun K hK => ?_); apply Exists.intro; refine ⟨fun w hS => ?_, ?_⟩; (first | (have hS' := hS rfl; go_simp; with_reducible rfl) | (go_simp; with_reducible rfl)); (go_simp; refine hK _ ?_; clear hK K))
          refine line_nil ?_
          go_wp2
          exact ⟨⟨j + 1, q + 1, by omega, by go_num, rfl⟩, by simp [intOf]; omega⟩
        · obtain rfl : j = 64 := by omega
          go_wp2
          go_ret
          exact ⟨rfl, HN.out.1.trans (Kp.drewN _ _ _) (fun _ _ h => h) (fun _ _ h => h)⟩
end Go.Proofs.YtdgpnpagbhikoaaGreatDoor.Kit
