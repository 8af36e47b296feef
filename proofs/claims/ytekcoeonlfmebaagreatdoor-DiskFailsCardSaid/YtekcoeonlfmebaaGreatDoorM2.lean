/- 5 texts in one: daybookkeep: a page of bytes, looked at.; daybookkeep: a book's pages of bytes.; daybookkeep: all pages of bytes of a book: looked at, written full, appended to.; daybookkeep: pages of elements of any flat kind, in rows; what a step over all pages does.; The contracts of the library's functions that this seat uses, laid at its dump (by the shelf's own tools). -/
import Derived.Test.YtekcoeonlfmebaaGreatDoorM1
import Derived.Test.YtekcoeonlfmebaaGreatDoorM0
import Derived.Shelf.LaysM
import Derived.Shelf.Strconv.Itoa3
import Derived.Shelf.Sort.Plain
import Derived.Shelf.Slices.In.SortNone
import Derived.Test.YtekcoeonlfmebaaGreatDoorProg
namespace Go.Proofs.YtekcoeonlfmebaaGreatDoor.Kit
open Go Go.RowKit
set_option maxHeartbeats 1000000 in
theorem showsB_kept (w : World) (A U : Option Addr) (n c un uc id : Nat) (l : List UInt8) (hA : RdB w A l) (hU : RdB w U l) (hn : n = l.length) (hu : un = l.length) (hb : n ≤ 1099511627776) :
  Calls Tryz.prog 125 #[.agg #[.slice A n c, .slice none 0 0, .slice U un uc, .int .i64 (id : Int), .bool false]] w fun e w' => e = .returned (.bool true) ∧ New w w' := by
 subst hn
 subst hu
 have H := Lib.hid (And.intro hA hU)
 clear hA hU
 go_enter Tryz.func125, Tryz.ntmps125
 go_wp2
 obtain ⟨W0, hW0⟩ : ∃ W0, w.alloc (.cells #[.slice A l.length c, .slice none 0 0, .slice U l.length uc, .int .i64 (id : Int), .bool false] 116) = W0 := ⟨_, rfl⟩
 rw [hW0]
 have hg : W0.heap[w.heap.size]? = some (.cells #[.slice A l.length c, .slice none 0 0, .slice U l.length uc, .int .i64 (id : Int), .bool false] 116 (0, 0)) := hW0 ▸ heap_alloc_new w _
 have hn0 : New w W0 := hW0 ▸ Kp.alloc _ _ _
 have f0 : W0.cell? ⟨w.heap.size, 0, none⟩ = some (.slice A l.length c) := (cell_of_block hg).trans rfl
 have f1 : W0.cell? ⟨w.heap.size, 1, none⟩ = some (.slice none 0 0) := (cell_of_block hg).trans rfl
 have f2 : W0.cell? ⟨w.heap.size, 2, none⟩ = some (.slice U l.length uc) := (cell_of_block hg).trans rfl
 have f4 : W0.cell? ⟨w.heap.size, 4, none⟩ = some (.bool false) := (cell_of_block hg).trans rfl
 have HN := Lib.hid (And.intro hn0 hg)
 have HR := Lib.hid (And.intro (H.out.1.new hn0) (H.out.2.new hn0))
 clear hg hn0 hW0
 go_loopw [4] (fun i wr => ∃ k q : Nat, k ≤ l.length ∧ i = .int .i64 (k : Int) ∧ wr = W0.drewN q) (fun i _ => l.length - (intOf i).toNat)
 case atStart => exact ⟨0, 0, Nat.zero_le _, rfl, rfl⟩
 case round =>
  obtain ⟨k, q, hk, rfl, rfl⟩ := hrel
  by_cases hlt : k < l.length
  ·obtain ⟨b1, o1, rfl, hc1⟩ := HR.out.1.at_ hlt
   obtain ⟨b2, o2, rfl, hc2⟩ := HR.out.2.at_ hlt
   have e1 := hc1 k hlt
   have e2 := hc2 k hlt
   have HC := Lib.hid (And.intro hc1 hc2)
   clear hc1 hc2
   generalize hx : l[k] = x at e1 e2
   have HX := Lib.hid hx
   clear hx
   have hki : (k : Int) < (l.length : Int) := by omega
   have hk0 : (0 : Int) ≤ k := by omega
   have hmo : Tryz.prog.follows Departure.mixedOrders = true := by kernel_rfl
   go_wp2
   refine wp_region_line (fun w' => w'.cell? ⟨w.heap.size, 0, none⟩ = some (.slice (some ⟨b1, o1, none⟩) l.length c) ∧ w'.cell? ⟨w.heap.size, 2, none⟩ = some (.slice (some ⟨b2, o2, none⟩) l.length uc) ∧ w'.cell? ⟨w.heap.size, 4, none⟩ = some (.bool false) ∧ w'.cell? ⟨b1, o1 + k, none⟩ = some (.int .u8 (x.toNat : Int)) ∧ w'.cell? ⟨b2, o2 + k, none⟩ = some (.int .u8 (x.toNat : Int))) (pl := [(0, true), (1, true), (2, true), (3, true), (4, true), (5, true), (6, true), (7, true), (8, true), (9, true), (10, true), (11, true), (12, true), (13, true), (14, false), (15, true), (16, true)]) hmo (by kernel_rfl) ⟨by simpa using f0, by simpa using f2, by simpa using f4, by simpa using e1, by simpa using e2⟩ ?_
   iterate 14 (refine line_get rfl rfl (fun K hK => ?_); apply Exists.intro; refine ⟨fun w s => ?_, ?_⟩; (first | (have q := s rfl; go_simp; with_reducible rfl) | (go_simp; with_reducible rfl)); (go_simp; refine hK _ ?_; clear hK K))
   (refine line_do rfl rfl (fun K hK => ?_); go_simp)
   refine (sameBytes_calls _ x x).mono ?_
   rintro e w' ⟨rfl, rfl⟩
   rw [show decide (x = x) = true from decide_eq_true rfl]
   refine hK _ _ (fun _ => ⟨by simpa using f0, by simpa using f2, by simpa using f4, by simpa using e1, by simpa using e2⟩) ?_
   clear hK K
   iterate 2 (refine line_get rfl rfl (fun K hK => ?_); apply Exists.intro; refine ⟨fun w s => ?_, ?_⟩; (first | (have q := s rfl; go_simp; with_reducible rfl) | (go_simp; with_reducible rfl)); (go_simp; refine hK _ ?_; clear hK K))
   refine line_nil ?_
   go_wp2
   refine wp_region_line (fun w' => w'.cell? ⟨w.heap.size, 4, none⟩ = some (.bool false)) (pl := [(0, true), (1, true), (2, true), (3, true), (4, true), (5, true), (6, true), (7, true), (8, true), (9, true), (10, true), (11, false), (12, false), (13, true), (14, true), (15, true), (16, true), (17, true), (18, true), (19, true), (20, true), (21, true), (22, true), (23, true), (24, true), (25, true), (26, true), (27, true), (28, false), (29, false), (30, true), (31, true), (32, true), (33, true)]) hmo (by kernel_rfl) (by simpa using f4) ?_
   iterate 3 (refine line_get rfl rfl (fun K hK => ?_); apply Exists.intro; refine ⟨fun w s => ?_, ?_⟩; (first | (have q := s rfl; go_simp; with_reducible rfl) | (go_simp; with_reducible rfl)); (go_simp; refine hK _ ?_; clear hK K))
   iterate 8 (refine line_past rfl rfl (fun K hK => ?_); go_simp; refine hK _ ?_; clear hK K)
   iterate 2 (refine line_miss rfl rfl (fun _ => by simpa using f4) ?_; go_simp)
   iterate 15 (refine line_past rfl rfl (fun K hK => ?_); go_simp; refine hK _ ?_; clear hK K)
   iterate 2 (refine line_miss rfl rfl (fun _ => by simpa using f4) ?_; go_simp)
   iterate 3 (refine line_past rfl rfl (fun K hK => ?_); go_simp; refine hK _ ?_; clear hK K)
   (refine line_get rfl rfl (fun K hK => ?_); apply Exists.intro; refine ⟨fun w s => ?_, ?_⟩; (first | (have q := s rfl; go_simp; with_reducible rfl) | (go_simp; with_reducible rfl)); (go_simp; refine hK _ ?_; clear hK K))
   refine line_nil ?_
   go_wp2
   exact ⟨⟨k + 1, q + 2, by omega, by go_num, rfl⟩, by simp [intOf]; omega⟩
  ·obtain rfl : k = l.length := by omega
   go_wp2
   go_loopw [5] (fun i wr => i = .int .i64 (l.length : Int) ∧ wr = W0.drewN q) (fun i _ => 0)
   case atStart => exact ⟨rfl, rfl⟩
   case round =>
    obtain ⟨rfl, rfl⟩ := hrel
    go_wp2
    go_ret
    exact ⟨rfl, HN.out.1.trans (Kp.drewN _ _ _) fid fid⟩
set_option maxHeartbeats 2000000 in
theorem showsB_done (w : World) (A G : Option Addr) (u : Value) (n c gn gc id : Nat) (hA : RdB w A (marksB id n)) (hG : RdB w G (marksB id n ++ marksB (id + 100000) 64)) (hg : gn = n + 64) (hid : id ≤ 800000) (hb : n ≤ 1099511627776) :
  Calls Tryz.prog 125 #[.agg #[.slice A n c, .slice G gn gc, u, .int .i64 (id : Int), .bool true]] w fun e w' => e = .returned (.bool true) ∧ New w w' := by
 subst hg
 have H := Lib.hid (And.intro hA hG)
 clear hA hG
 go_enter Tryz.func125, Tryz.ntmps125
 go_wp2
 obtain ⟨W0, hW0⟩ : ∃ W0, w.alloc (.cells #[.slice A n c, .slice G (n + 64) gc, u, .int .i64 (id : Int), .bool true] 116) = W0 := ⟨_, rfl⟩
 rw [hW0]
 have hg : W0.heap[w.heap.size]? = some (.cells #[.slice A n c, .slice G (n + 64) gc, u, .int .i64 (id : Int), .bool true] 116 (0, 0)) := hW0 ▸ heap_alloc_new w _
 have hn0 : New w W0 := hW0 ▸ Kp.alloc _ _ _
 have f0 : W0.cell? ⟨w.heap.size, 0, none⟩ = some (.slice A n c) := (cell_of_block hg).trans rfl
 have f1 : W0.cell? ⟨w.heap.size, 1, none⟩ = some (.slice G (n + 64) gc) := (cell_of_block hg).trans rfl
 have f3 : W0.cell? ⟨w.heap.size, 3, none⟩ = some (.int .i64 (id : Int)) := (cell_of_block hg).trans rfl
 have f4 : W0.cell? ⟨w.heap.size, 4, none⟩ = some (.bool true) := (cell_of_block hg).trans rfl
 have HN := Lib.hid (And.intro hn0 hg)
 have HR := Lib.hid (And.intro (H.out.1.new hn0) (H.out.2.new hn0))
 have hmo : Tryz.prog.follows Departure.mixedOrders = true := by kernel_rfl
 clear hg hn0 hW0
 go_loopw [4] (fun i wr => ∃ k q : Nat, k ≤ n ∧ i = .int .i64 (k : Int) ∧ wr = W0.drewN q) (fun i _ => n - (intOf i).toNat)
 case atStart => exact ⟨0, 0, Nat.zero_le _, rfl, rfl⟩
 case round =>
  obtain ⟨k, q, hk, rfl, rfl⟩ := hrel
  by_cases hlt : k < n
  ·obtain ⟨b1, o1, rfl, hc1⟩ := HR.out.1.at_ (k := k) (by rw [marksB_length]; exact hlt)
   obtain ⟨b2, o2, rfl, hc2⟩ := HR.out.2.at_ (k := k) (by rw [List.length_append, marksB_length]; omega)
   have e1 := hc1 k (by rw [marksB_length]; exact hlt)
   have e2 := hc2 k (by rw [List.length_append, marksB_length]; omega)
   rw [List.getElem_append_left (by rw [marksB_length]; exact hlt)] at e2
   have HC := Lib.hid (And.intro hc1 hc2)
   clear hc1 hc2
   have hx : (marksB id n)[k]'(by rw [marksB_length]; exact hlt) = markB id k := by simp [marksB]
   rw [hx] at e1 e2
   clear hx
   generalize hx : markB id k = x at e1 e2
   have HX := Lib.hid hx
   clear hx
   have hxl := x.toNat_lt
   have hki : (k : Int) < n := by omega
   have hki2 : (k : Int) < (n : Int) + 64 := by omega
   have hk0 : (0 : Int) ≤ k := by omega
   have hgp : (0 : Int) < (n : Int) + 64 := by omega
   go_wp2
   refine wp_region_line (fun w' => w'.cell? ⟨w.heap.size, 4, none⟩ = some (.bool true)) (pl := [(0, true), (1, true), (2, true), (3, true), (4, true), (5, true), (6, true), (7, true), (8, true), (9, true), (10, true), (11, true), (12, true), (13, true), (14, false), (15, true), (16, true)]) hmo (by kernel_rfl) (by simpa using f4) ?_
   iterate 4 (refine line_get rfl rfl (fun K hK => ?_); apply Exists.intro; refine ⟨fun w s => ?_, ?_⟩; (first | (have q := s rfl; go_simp; with_reducible rfl) | (go_simp; with_reducible rfl)); (go_simp; refine hK _ ?_; clear hK K))
   iterate 10 (refine line_past rfl rfl (fun K hK => ?_); go_simp; refine hK _ ?_; clear hK K)
   refine line_miss rfl rfl (fun _ => by simpa using f4) ?_
   go_simp
   (refine line_past rfl rfl (fun K hK => ?_); go_simp; refine hK _ ?_; clear hK K)
   (refine line_get rfl rfl (fun K hK => ?_); apply Exists.intro; refine ⟨fun w s => ?_, ?_⟩; (first | (have q := s rfl; go_simp; with_reducible rfl) | (go_simp; with_reducible rfl)); (go_simp; refine hK _ ?_; clear hK K))
   refine line_nil ?_
   go_wp2
   refine wp_region_line (fun w' => w'.cell? ⟨w.heap.size, 0, none⟩ = some (.slice (some ⟨b1, o1, none⟩) n c) ∧ w'.cell? ⟨w.heap.size, 1, none⟩ = some (.slice (some ⟨b2, o2, none⟩) (n + 64) gc) ∧ w'.cell? ⟨w.heap.size, 3, none⟩ = some (.int .i64 (id : Int)) ∧ w'.cell? ⟨w.heap.size, 4, none⟩ = some (.bool true) ∧ w'.cell? ⟨b1, o1 + k, none⟩ = some (.int .u8 (x.toNat : Int)) ∧ w'.cell? ⟨b2, o2 + k, none⟩ = some (.int .u8 (x.toNat : Int))) (pl := [(0, true), (1, true), (2, true), (3, true), (4, true), (5, true), (6, true), (7, true), (8, true), (9, true), (10, true), (11, false), (12, false), (13, true), (14, true), (15, true), (16, true), (17, true), (18, true), (19, true), (20, true), (21, true), (22, true), (23, true), (24, true), (25, true), (26, true), (27, true), (28, false), (29, false), (30, true), (31, true), (32, true), (33, true)]) hmo (by kernel_rfl) ⟨by simpa using f0, by simpa using f1, by simpa using f3, by simpa using f4, by simpa using e1, by simpa using e2⟩ ?_
   iterate 11 (refine line_get rfl rfl (fun K hK => ?_); apply Exists.intro; refine ⟨fun w s => ?_, ?_⟩; (first | (have q := s rfl; go_simp; with_reducible rfl) | (go_simp; with_reducible rfl)); (go_simp; refine hK _ ?_; clear hK K))
   (refine line_do rfl rfl (fun K hK => ?_); go_simp)
   refine (markBytes_calls _ id k _ _ rfl rfl (by omega) (by omega)).mono ?_
   rintro e w' ⟨rfl, rfl⟩
   rw [HX.out]
   refine hK _ _ (fun _ => ⟨by simpa using f0, by simpa using f1, by simpa using f3, by simpa using f4, by simpa using e1, by simpa using e2⟩) ?_
   clear hK K
   (refine line_do rfl rfl (fun K hK => ?_); go_simp)
   refine (sameBytes_calls _ x x).mono ?_
   rintro e w' ⟨rfl, rfl⟩
   rw [show decide (x = x) = true from decide_eq_true rfl]
   refine hK _ _ (fun _ => ⟨by simpa using f0, by simpa using f1, by simpa using f3, by simpa using f4, by simpa using e1, by simpa using e2⟩) ?_
   clear hK K
   iterate 15 (refine line_get rfl rfl (fun K hK => ?_); apply Exists.intro; refine ⟨fun w s => ?_, ?_⟩; (first | (have q := s rfl; go_simp; with_reducible rfl) | (go_simp; with_reducible rfl)); (go_simp; refine hK _ ?_; clear hK K))
   (refine line_do rfl rfl (fun K hK => ?_); go_simp)
   refine (markBytes_calls _ id k _ _ rfl rfl (by omega) (by omega)).mono ?_
   rintro e w' ⟨rfl, rfl⟩
   rw [HX.out]
   refine hK _ _ (fun _ => ⟨by simpa using f0, by simpa using f1, by simpa using f3, by simpa using f4, by simpa using e1, by simpa using e2⟩) ?_
   clear hK K
   (refine line_do rfl rfl (fun K hK => ?_); go_simp)
   refine (sameBytes_calls _ x x).mono ?_
   rintro e w' ⟨rfl, rfl⟩
   rw [show decide (x = x) = true from decide_eq_true rfl]
   refine hK _ _ (fun _ => ⟨by simpa using f0, by simpa using f1, by simpa using f3, by simpa using f4, by simpa using e1, by simpa using e2⟩) ?_
   clear hK K
   iterate 4 (refine line_get rfl rfl (fun K hK => ?_); apply Exists.intro; refine ⟨fun w s => ?_, ?_⟩; (first | (have q := s rfl; go_simp; with_reducible rfl) | (go_simp; with_reducible rfl)); (go_simp; refine hK _ ?_; clear hK K))
   refine line_nil ?_
   go_wp2
   exact ⟨⟨k + 1, q + 2, by omega, by go_num, rfl⟩, by simp [intOf]; omega⟩
  ·have hkn : n = k := by omega
   subst hkn
   go_wp2
   go_loopw [5] (fun i wr => ∃ j q : Nat, j ≤ 64 ∧ i = .int .i64 ((n : Int) + j) ∧ wr = W0.drewN q) (fun i _ => n + 64 - (intOf i).toNat)
   case atStart => exact ⟨0, q, by omega, by simp, rfl⟩
   case round =>
    obtain ⟨j, q, hj, rfl, rfl⟩ := hrel
    by_cases hlt2 : j < 64
    ·obtain ⟨b2, o2, rfl, hc2⟩ := HR.out.2.at_ (k := n + j) (by rw [List.length_append, marksB_length, marksB_length]; omega)
     have e2 := hc2 (n + j) (by rw [List.length_append, marksB_length, marksB_length]; omega)
     rw [List.getElem_append_right (by rw [marksB_length]; omega)] at e2
     have hx : (marksB (id + 100000) 64)[n + j - (marksB id n).length]'(by rw [marksB_length, marksB_length]; omega) = markB (id + 100000) j := by simp [marksB]
     rw [hx] at e2
     clear hx
     have HC := Lib.hid hc2
     clear hc2
     generalize hx : markB (id + 100000) j = x at e2
     have HX := Lib.hid hx
     clear hx
     rw [show n + j = ((n : Int) + (j : Int)).toNat by omega] at e2
     have hxl := x.toNat_lt
     have hj0 : (0 : Int) ≤ (n : Int) + j := by omega
     have hj1 : (n : Int) + j < (n : Int) + 64 := by omega
     go_wp2
     refine wp_region_line (fun w' => w'.cell? ⟨w.heap.size, 1, none⟩ = some (.slice (some ⟨b2, o2, none⟩) (n + 64) gc) ∧ w'.cell? ⟨w.heap.size, 3, none⟩ = some (.int .i64 (id : Int)) ∧ w'.cell? ⟨b2, o2 + ((n : Int) + (j : Int)).toNat, none⟩ = some (.int .u8 (x.toNat : Int))) (pl := [(0, true), (1, true), (2, true), (3, true), (4, true), (5, true), (6, true), (8, true), (9, true), (10, true), (7, false), (11, false), (12, false), (13, true)]) hmo (by kernel_rfl) ⟨by simpa using f1, by simpa using f3, by simpa using e2⟩ ?_
     iterate 10 (refine line_get rfl rfl (fun K hK => ?_); apply Exists.intro; refine ⟨fun w s => ?_, ?_⟩; (first | (have q := s rfl; go_simp; with_reducible rfl) | (go_simp; with_reducible rfl)); (go_simp; refine hK _ ?_; clear hK K))
     (refine line_do rfl rfl (fun K hK => ?_); go_simp)
     refine (behind_calls _ id _ rfl (by omega)).mono ?_
     rintro e w' ⟨rfl, rfl⟩
     refine hK _ _ (fun _ => ⟨by simpa using f1, by simpa using f3, by simpa using e2⟩) ?_
     clear hK K
     (refine line_do rfl rfl (fun K hK => ?_); go_simp)
     refine (markBytes_calls _ (id + 100000) j _ _ rfl (by rw [IntKind.wrap_i64]; omega) (by omega) (by omega)).mono ?_
     rintro e w' ⟨rfl, rfl⟩
     rw [HX.out]
     refine hK _ _ (fun _ => ⟨by simpa using f1, by simpa using f3, by simpa using e2⟩) ?_
     clear hK K
     (refine line_do rfl rfl (fun K hK => ?_); go_simp)
     refine (sameBytes_calls _ x x).mono ?_
     rintro e w' ⟨rfl, rfl⟩
     rw [show decide (x = x) = true from decide_eq_true rfl]
     refine hK _ _ (fun _ => ⟨by simpa using f1, by simpa using f3, by simpa using e2⟩) ?_
     clear hK K
     (refine line_get rfl rfl (fun K hK => ?_); apply Exists.intro; refine ⟨fun w s => ?_, ?_⟩; (first | (have q := s rfl; go_simp; with_reducible rfl) | (go_simp; with_reducible rfl)); (go_simp; refine hK _ ?_; clear hK K))
     refine line_nil ?_
     go_wp2
     exact ⟨⟨j + 1, q + 1, by omega, by go_num, rfl⟩, by simp [intOf]; omega⟩
    ·obtain rfl : j = 64 := by omega
     go_wp2
     go_ret
     exact ⟨rfl, HN.out.1.trans (Kp.drewN _ _ _) fid fid⟩
structure Pg where
 L : Option Addr
 n : Nat
 c : Nat
 G : Option Addr
 gn : Nat
 gc : Nat
 U : Option Addr
 un : Nat
 uc : Nat
 id : Nat
 done : Bool
def Pg.vals (p : Pg) : List Value := [.slice p.L p.n p.c, .slice p.G p.gn p.gc, .slice p.U p.un p.uc, .int .i64 (p.id : Int), .bool p.done]
def Pg.Fp (p : Pg) (k : Nat) : Prop := Bk p.L k ∨ Bk p.G k ∨ Bk p.U k
theorem flat_get (ps : List Pg) : ∀ (i j : Nat) (p : Pg), ps[i]? = some p → j < 5 → (ps.flatMap Pg.vals)[i * 5 + j]? = p.vals[j]? := by
 induction ps with
 | nil => intro i j p h; simp at h
 | cons q ps ih =>
  intro i j p h hj
  rw [List.flatMap_cons]
  cases i with
  | zero =>
   simp only [List.getElem?_cons_zero, Option.some.injEq] at h
   subst h
   rw [Nat.zero_mul, Nat.zero_add, List.getElem?_append_left (by simpa [Pg.vals] using hj)]
  | succ i =>
   rw [List.getElem?_cons_succ] at h
   rw [List.getElem?_append_right (by simp [Pg.vals]; omega), ← ih i j p h hj]
   congr 1
   simp [Pg.vals]
   omega
theorem flat_set (ps : List Pg) : ∀ (i j : Nat) (p p' : Pg) (v : Value), ps[i]? = some p → j < 5 → p'.vals = p.vals.set j v → (ps.flatMap Pg.vals).set (i * 5 + j) v = (ps.set i p').flatMap Pg.vals := by
 induction ps with
 | nil => intro i j p p' v h; simp at h
 | cons q ps ih =>
  intro i j p p' v h hj he
  cases i with
  | zero =>
   simp only [List.getElem?_cons_zero, Option.some.injEq] at h
   subst h
   rw [List.set_cons_zero, List.flatMap_cons, List.flatMap_cons, he, Nat.zero_mul, Nat.zero_add, List.set_append_left _ _ (by simpa [Pg.vals] using hj)]
  | succ i =>
   rw [List.getElem?_cons_succ] at h
   rw [List.set_cons_succ, List.flatMap_cons, List.flatMap_cons, ← ih i j p p' v h hj he, List.set_append_right _ _ (by simp [Pg.vals]; omega)]
   congr 2
   simp [Pg.vals]
   omega
theorem pg_length (ps : List Pg) : (ps.flatMap Pg.vals).length = ps.length * 5 := by
 induction ps with
 | nil => rfl
 | cons p ps ih => rw [List.flatMap_cons, List.length_append, ih, List.length_cons]; simp [Pg.vals]; omega
def Kept (w : World) (p : Pg) : Prop := p.done = false ∧ p.G = none ∧ p.gn = 0 ∧ p.gc = 0 ∧ p.id ≤ 800000 ∧ p.n ≤ 1099511627776 ∧ ∃ l : List UInt8, p.n = l.length ∧ p.un = l.length ∧ Own w 5 1 p.L p.c p.n (bcs l) ∧ RdB w p.U l
def Full (w : World) (p : Pg) : Prop := p.done = true ∧ p.G = none ∧ p.gn = 0 ∧ p.gc = 0 ∧ p.id ≤ 800000 ∧ p.n ≤ 1099511627776 ∧ Own w 5 1 p.L p.c p.n (bcs (marksB p.id p.n))
def Grown (w : World) (p : Pg) : Prop := p.done = true ∧ p.gn = p.n + 64 ∧ p.id ≤ 800000 ∧ p.n ≤ 1099511627776 ∧ RdB w p.L (marksB p.id p.n) ∧ RdB w p.G (marksB p.id p.n ++ marksB (p.id + 100000) 64)
theorem Kept.kp {w w' : World} {S : Nat → Prop} {p : Pg} (h : Kept w p) (hk : Kp S w w') (hS : ∀ k, p.Fp k → ¬ S k) : Kept w' p := by
 obtain ⟨h1, h2, h3, h4, h5, h6, l, h7, h8, h9, h10⟩ := h
 exact ⟨h1, h2, h3, h4, h5, h6, l, h7, h8, h9.kp hk (fun k hb => hS k (.inl hb)), h10.kp hk (fun k hb => hS k (.inr (.inr hb)))⟩
theorem Full.kp {w w' : World} {S : Nat → Prop} {p : Pg} (h : Full w p) (hk : Kp S w w') (hS : ∀ k, p.Fp k → ¬ S k) : Full w' p := by
 obtain ⟨h1, h2, h3, h4, h5, h6, h9⟩ := h
 exact ⟨h1, h2, h3, h4, h5, h6, h9.kp hk (fun k hb => hS k (.inl hb))⟩
theorem Grown.kp {w w' : World} {S : Nat → Prop} {p : Pg} (h : Grown w p) (hk : Kp S w w') (hS : ∀ k, p.Fp k → ¬ S k) : Grown w' p := by
 obtain ⟨h1, h2, h3, h4, h5, h6⟩ := h
 exact ⟨h1, h2, h3, h4, h5.kp hk (fun k hb => hS k (.inl hb)), h6.kp hk (fun k hb => hS k (.inr (.inl hb)))⟩
def Stable (P : World → Pg → Prop) : Prop := ∀ {w w' : World} {S : Nat → Prop} {p : Pg}, P w p → Kp S w w' → (∀ k, p.Fp k → ¬ S k) → P w' p
theorem Stable.or {P Q : World → Pg → Prop} (hP : Stable P) (hQ : Stable Q) : Stable (fun w p => P w p ∨ Q w p) := by
 intro w w' S p h hk hS
 exact h.imp (fun h => hP h hk hS) (fun h => hQ h hk hS)
def Pages (P : Nat → World → Pg → Prop) (w : World) (g : Nat) (A : Option Addr) (c : Nat) (ps : List Pg) : Prop :=
 Own w 116 5 A c ps.length (ps.flatMap Pg.vals) ∧ ¬ Bk A g ∧ (∀ (i : Nat) (p : Pg), ps[i]? = some p → P i w p ∧ ¬ p.Fp g ∧ ∀ k, p.Fp k → k < w.heap.size ∧ ¬ Bk A k) ∧
  ∀ (i j : Nat) (p q : Pg), ps[i]? = some p → ps[j]? = some q → i ≠ j → ∀ k, p.Fp k → ¬ q.Fp k
theorem Pages.kp {P : Nat → World → Pg → Prop} {w w' : World} {g c : Nat} {A : Option Addr} {ps : List Pg} {S : Nat → Prop} (h : Pages P w g A c ps) (hP : ∀ i, Stable (P i)) (hk : Kp S w w') (hA : ∀ k, Bk A k → ¬ S k) (hS : ∀ p ∈ ps, ∀ k, p.Fp k → ¬ S k) : Pages P w' g A c ps := by
 obtain ⟨h1, h2, h3, h4⟩ := h
 refine ⟨h1.kp hk hA, h2, fun i p hp => ?_, h4⟩
 obtain ⟨k1, k2, k3⟩ := h3 i p hp
 exact ⟨hP i k1 hk (hS p (List.mem_of_getElem? hp)), k2, fun k hf => ⟨Nat.lt_of_lt_of_le (k3 k hf).1 hk.size, (k3 k hf).2⟩⟩
theorem Pages.new {P : Nat → World → Pg → Prop} {w w' : World} {g c : Nat} {A : Option Addr} {ps : List Pg} (h : Pages P w g A c ps) (hP : ∀ i, Stable (P i)) (hk : New w w') : Pages P w' g A c ps :=
 h.kp hP hk (fun _ _ => id) (fun _ _ _ _ => id)
theorem Pages.turn {P P' : Nat → World → Pg → Prop} {w w' : World} {g c i j hA : Nat} {ps : List Pg} {p p' : Pg} {v : Value} {cur : Array Value} (h : Pages P w g (some ⟨hA, 0, none⟩) c ps) (hP : ∀ i, Stable (P i)) (hi : ps[i]? = some p) (hj : j < 5) (hv : p'.vals = p.vals.set j v)
  (hcur : w.heap[hA]? = some (.cells cur 116 (0, 0))) (hh : w'.heap[hA]? = some (.cells (cur.setIfInBounds (i * 5 + j) v) 116 (0, 0)))
  (hk : Kp (fun k => k = hA ∨ Bk p.L k) w w') (hPP : ∀ k q, k ≠ i → P k w' q → P' k w' q) (hp' : P' i w' p') (hf : ∀ k, p'.Fp k → p.Fp k ∨ w.heap.size ≤ k) (hlt : ∀ k, p'.Fp k → k < w'.heap.size) (hg : g < w.heap.size) : Pages P' w' g (some ⟨hA, 0, none⟩) c (ps.set i p') := by
 obtain ⟨h1, h2, h3, h4⟩ := h
 have hAl : hA < w.heap.size := (Array.getElem?_eq_some_iff.1 hcur).1
 have hil : i < ps.length := (List.getElem?_eq_some_iff.1 hi).1
 have hne : ∀ k q, ps[k]? = some q → k ≠ i → ∀ x, q.Fp x → ¬ (x = hA ∨ Bk p.L x) := by
  intro k q hq hki x hx
  rintro (rfl | hb)
  ·exact ((h3 k q hq).2.2 x hx).2 (Bk.some_.2 rfl)
  ·exact h4 k i q p hq hi hki x hx (.inl hb)
 refine ⟨?_, h2, fun k q hq => ?_, fun a b q r hq hr hab k hk1 hk2 => ?_⟩
 ·rw [List.length_set, ← flat_set ps i j p p' v hi hj hv]
  refine ⟨by rw [List.length_set]; exact h1.1, ?_⟩
  rcases h1.2 with ⟨h, _⟩ | ⟨g', cur', e', hg', c1, c2, c3, c4⟩
  ·cases h
  ·cases e'
   rw [hcur] at hg'
   cases hg'
   refine .inr ⟨hA, _, rfl, hh, c1, c2, by rw [Array.size_setIfInBounds]; exact c3, ?_⟩
   rw [Array.toList_setIfInBounds, List.take_set, c4]
 ·by_cases hki : k = i
  ·subst hki
   rw [List.getElem?_set_self hil] at hq
   cases hq
   refine ⟨hp', fun hf' => ?_, fun x hx => ⟨hlt x hx, fun hb => ?_⟩⟩
   ·rcases hf g hf' with hf' | hf'
    ·exact (h3 k p hi).2.1 hf'
    ·omega
   ·have hxA : hA = x := Bk.some_.1 hb
    rcases hf x hx with hf' | hf'
    ·exact ((h3 k p hi).2.2 x hf').2 hb
    ·omega
  ·rw [List.getElem?_set_ne (fun e => hki e.symm)] at hq
   obtain ⟨k1, k2, k3⟩ := h3 k q hq
   exact ⟨hPP k q hki (hP k k1 hk (hne k q hq hki)), k2, fun x hx => ⟨Nat.lt_of_lt_of_le (k3 x hx).1 hk.size, (k3 x hx).2⟩⟩
 ·by_cases ha : a = i
  ·subst ha
   rw [List.getElem?_set_self hil] at hq
   rw [List.getElem?_set_ne hab] at hr
   cases hq
   rcases hf k hk1 with hf' | hf'
   ·exact h4 a b p r hi hr hab k hf' hk2
   ·have := ((h3 b r hr).2.2 k hk2).1
    omega
  ·rw [List.getElem?_set_ne (fun e => ha e.symm)] at hq
   by_cases hb : b = i
   ·subst hb
    rw [List.getElem?_set_self hil] at hr
    cases hr
    rcases hf k hk2 with hf' | hf'
    ·exact h4 a b q p hq hi hab k hk1 hf'
    ·have := ((h3 a q hq).2.2 k hk1).1
     omega
   ·rw [List.getElem?_set_ne (fun e => hb e.symm)] at hr
    exact h4 a b q r hq hr hab k hk1 hk2
def BookB (P : Nat → World → Pg → Prop) (w : World) (g : Nat) (cur : Array Value) (A : Option Addr) (c : Nat) (ps : List Pg) : Prop :=
 w.heap[g]? = some (.cells cur 53 (0, 0)) ∧ cur[7]? = some (.slice A ps.length c) ∧ Pages P w g A c ps
def Look : Nat → World → Pg → Prop := fun _ w p => Kept w p ∨ Grown w p
theorem Look.stable (i : Nat) : Stable (Look i) := Stable.or Kept.kp Grown.kp
theorem showsB_look (w : World) (p : Pg) (h : Kept w p ∨ Grown w p) (v : Value) (hv : v = .agg #[.slice p.L p.n p.c, .slice p.G p.gn p.gc, .slice p.U p.un p.uc, .int .i64 (p.id : Int), .bool p.done]) :
  Calls Tryz.prog 125 #[v] w fun e w' => e = .returned (.bool true) ∧ New w w' := by
 subst hv
 obtain ⟨L, n, c, G, gn, gc, U, un, uc, id, done⟩ := p
 rcases h with h | h
 ·obtain ⟨h1, h2, h3, h4, h5, h6, l, h7, h8, h9, h10⟩ := h
  simp only at h1 h2 h3 h4 h7
  subst h1 h2 h3 h4 h7
  exact showsB_kept w L U l.length c un uc id l h9.rd h10 rfl h8 h6
 ·obtain ⟨h1, h2, h3, h4, h5, h6⟩ := h
  simp only at h1 h2
  subst h1 h2
  exact showsB_done w L G _ n c (n + 64) gc id h5 h6 rfl h3 h4
set_option maxHeartbeats 1000000 in
theorem intactB_calls (w : World) (g : Nat) (cur : Array Value) (A : Option Addr) (c : Nat) (ps : List Pg) (hB : BookB Look w g cur A c ps) (hps : ps.length ≤ 96) :
  Calls Tryz.prog 20 #[.pointer (some ⟨g, 6, none⟩)] w fun e w' => e = .returned (.bool true) ∧ New w w' := by
 have H := Lib.hid hB
 clear hB
 go_enter Tryz.func20, Tryz.ntmps20
 go_wp2
 go_loopw [3] (fun i wr => ∃ k : Nat, k ≤ ps.length ∧ i = .int .i64 (k : Int) ∧ Hid (New w wr)) (fun i _ => ps.length - (intOf i).toNat)
 case atStart => exact ⟨0, Nat.zero_le _, rfl, Lib.hid (Kp.refl _ _)⟩
 case round =>
  obtain ⟨k, hk, rfl, HI⟩ := hrel
  have hPg := H.out.2.2.new Look.stable HI.out
  have hlt0 := (Array.getElem?_eq_some_iff.1 H.out.1).1
  have hb : wr.heap[g]? = some (.cells cur 53 (0, 0)) := (HI.out.block g hlt0 id).trans H.out.1
  have f1 : wr.cell? ⟨g, 7, none⟩ = some (.slice A ps.length c) := (cell_of_block hb).trans H.out.2.1
  clear hb hlt0
  by_cases hlt : k < ps.length
  ·obtain ⟨hA, rfl⟩ := hPg.1.some_ (by omega)
   have hp : ps[k]? = some ps[k] := List.getElem?_eq_getElem hlt
   generalize ps[k] = p at hp
   have hc : ∀ j u, j < 5 → p.vals[j]? = some u → wr.cell? ⟨hA, k * 5 + j, none⟩ = some u := fun j u hj hu => hPg.1.cell ((flat_get ps k j p hp hj).trans hu)
   have e0 := hc 0 _ (by omega) rfl
   have e1 := hc 1 _ (by omega) rfl
   have e2 := hc 2 _ (by omega) rfl
   have e3 := hc 3 _ (by omega) rfl
   have e4 := hc 4 _ (by omega) rfl
   rw [Nat.add_zero] at e0
   have HP := Lib.hid (And.intro hp hPg)
   clear hc hp hPg
   have hki : (k : Int) < (ps.length : Int) := by omega
   have hk0 : (0 : Int) ≤ k := by omega
   go_wp2_with (go_at_call 125; refine (showsB_look _ p (HP.out.2.2.2.1 k p HP.out.1).1 _ rfl).mono ?_; rintro e w' ⟨rfl, hn⟩; have HN := Lib.hid hn; clear hn)
   exact ⟨⟨k + 1, by omega, by go_num, Lib.hid (HI.out.trans HN.out fid fid)⟩, by simp [intOf]; omega⟩
  ·obtain rfl : k = ps.length := by omega
   clear hPg
   go_wp2
   go_ret
   exact ⟨rfl, HI.out⟩
theorem Own.block {w : World} {e : TypeId} {sz n c g : Nat} {xs : List Value} (h : Own w e sz (some ⟨g, 0, none⟩) c n xs) : ∃ cur, w.heap[g]? = some (.cells cur e (0, 0)) ∧ ∀ (j : Nat) (u : Value), xs[j]? = some u → cur[j]? = some u := by
 rcases h.2 with ⟨h, _⟩ | ⟨g', cur, e', hg, h1, h2, h3, h4⟩
 ·cases h
 ·cases e'
  refine ⟨cur, hg, fun j u hu => ?_⟩
  rw [← h4, List.getElem?_take] at hu
  split at hu
  ·simpa using hu
  ·cases hu
theorem Pages.imp {P P' : Nat → World → Pg → Prop} {w : World} {g c : Nat} {A : Option Addr} {ps : List Pg} (h : Pages P w g A c ps) (hi : ∀ (i : Nat) (p : Pg), ps[i]? = some p → P i w p → P' i w p) : Pages P' w g A c ps :=
 ⟨h.1, h.2.1, fun i p hp => ⟨hi i p hp (h.2.2.1 i p hp).1, (h.2.2.1 i p hp).2⟩, h.2.2.2⟩
def PsFp (A : Option Addr) (ps : List Pg) (x : Nat) : Prop := Bk A x ∨ ∃ p ∈ ps, p.Fp x
def FillI (t : Nat) : Nat → World → Pg → Prop := fun i w p => if i < t then Full w p ∨ Grown w p else Kept w p ∨ Grown w p
theorem FillI.stable (t i : Nat) : Stable (FillI t i) := by
 unfold FillI
 intro w w' S p h hk hS
 split at h
 ·rw [if_pos (by assumption)]
  exact Stable.or Full.kp Grown.kp h hk hS
 ·rw [if_neg (by assumption)]
  exact Stable.or Kept.kp Grown.kp h hk hS
def GrowI (t : Nat) : Nat → World → Pg → Prop := fun i w p => if i < t then Grown w p else Full w p ∨ Grown w p
theorem GrowI.stable (t i : Nat) : Stable (GrowI t i) := by
 unfold GrowI
 intro w w' S p h hk hS
 split at h
 ·rw [if_pos (by assumption)]
  exact Grown.kp h hk hS
 ·rw [if_neg (by assumption)]
  exact Stable.or Full.kp Grown.kp h hk hS
def PsSo (P : Nat → World → Pg → Prop) (w : World) (g : Nat) (A : Option Addr) (c : Nat) (ps : List Pg) (w' : World) : Prop :=
 ∃ ps' : List Pg, ps'.length = ps.length ∧ Pages P w' g A c ps' ∧ (∀ q ∈ ps', ∀ x, q.Fp x → PsFp A ps x ∨ w.heap.size ≤ x) ∧ Kp (PsFp A ps) w w'
theorem PsSo.imp {P P' : Nat → World → Pg → Prop} {w w' : World} {g c : Nat} {A : Option Addr} {ps : List Pg} (h : PsSo P w g A c ps w') (hi : ∀ (i : Nat) (p : Pg), i < ps.length → P i w' p → P' i w' p) : PsSo P' w g A c ps w' := by
 obtain ⟨ps', h1, h2, h3, h4⟩ := h
 exact ⟨ps', h1, h2.imp (fun i p hp => hi i p (by rw [← h1]; exact (List.getElem?_eq_some_iff.1 hp).1)), h3, h4⟩
theorem PsSo.turn {P P' : Nat → World → Pg → Prop} {w w1 w2 : World} {g c i j hA : Nat} {ps ps' : List Pg} {p p' : Pg} {v : Value} {cur : Array Value} (hlen : ps'.length = ps.length) (h : Pages P w1 g (some ⟨hA, 0, none⟩) c ps') (hfp : ∀ q ∈ ps', ∀ x, q.Fp x → PsFp (some ⟨hA, 0, none⟩) ps x ∨ w.heap.size ≤ x) (hkp : Kp (PsFp (some ⟨hA, 0, none⟩) ps) w w1)
  (hP : ∀ i, Stable (P i)) (hi : ps'[i]? = some p) (hj : j < 5) (hv : p'.vals = p.vals.set j v)
  (hcur : w1.heap[hA]? = some (.cells cur 116 (0, 0))) (hh : w2.heap[hA]? = some (.cells (cur.setIfInBounds (i * 5 + j) v) 116 (0, 0)))
  (hk : Kp (fun k => k = hA ∨ Bk p.L k) w1 w2) (hPP : ∀ k q, k ≠ i → P k w2 q → P' k w2 q) (hp' : P' i w2 p') (hf : ∀ k, p'.Fp k → p.Fp k ∨ w1.heap.size ≤ k) (hlt : ∀ k, p'.Fp k → k < w2.heap.size) (hg : g < w1.heap.size) : PsSo P' w g (some ⟨hA, 0, none⟩) c ps w2 := by
 have hm := List.mem_of_getElem? hi
 refine ⟨ps'.set i p', by rw [List.length_set]; exact hlen, h.turn hP hi hj hv hcur hh hk hPP hp' hf hlt hg, fun q hq x hx => ?_, hkp.trans hk fid (fun x hx hb => ?_)⟩
 ·have hws := hkp.size
  rcases List.mem_or_eq_of_mem_set hq with hq | rfl
  ·exact hfp q hq x hx
  ·rcases hf x hx with h' | h'
   ·exact hfp p hm x h'
   ·exact .inr (by omega)
 ·rcases hb with rfl | hb
  ·exact .inl (Bk.some_.2 rfl)
  ·rcases hfp p hm x (.inl hb) with h' | h'
   ·exact h'
   ·omega
set_option maxHeartbeats 1000000 in
theorem fillsB_calls (w : World) (g : Nat) (cur : Array Value) (A : Option Addr) (c : Nat) (ps : List Pg) (hB : BookB Look w g cur A c ps) (hps : ps.length ≤ 96) :
  Calls Tryz.prog 53 #[.pointer (some ⟨g, 6, none⟩)] w fun e w' => e = .returned (.tuple #[]) ∧ PsSo (FillI ps.length) w g A c ps w' := by
 have H := Lib.hid hB
 clear hB
 go_enter Tryz.func53, Tryz.ntmps53
 go_wp2
 go_loopw [2] (fun i wr => ∃ k : Nat, k ≤ ps.length ∧ i = .int .i64 (k : Int) ∧ Hid (PsSo (FillI k) w g A c ps wr)) (fun i _ => ps.length - (intOf i).toNat)
 case atStart => exact ⟨0, Nat.zero_le _, rfl, Lib.hid ⟨ps, rfl, H.out.2.2.imp (fun i p hp h => by unfold FillI; rw [if_neg (by omega)]; exact h), fun q hq x hx => .inl (.inr ⟨q, hq, hx⟩), Kp.refl _ _⟩⟩
 case round =>
  obtain ⟨k, hk, rfl, HI⟩ := hrel
  obtain ⟨ps', hlen, hPg, hfp, hkp⟩ := HI.out
  have hlt0 := (Array.getElem?_eq_some_iff.1 H.out.1).1
  have hgn : ¬ PsFp A ps g := fun h => h.elim H.out.2.2.2.1 (fun ⟨p, hp, hf⟩ => by obtain ⟨i, hi⟩ := List.mem_iff_getElem?.1 hp; exact (H.out.2.2.2.2.1 i p hi).2.1 hf)
  have hb : wr.heap[g]? = some (.cells cur 53 (0, 0)) := (hkp.block g hlt0 hgn).trans H.out.1
  have f1 : wr.cell? ⟨g, 7, none⟩ = some (.slice A ps.length c) := (cell_of_block hb).trans H.out.2.1
  have hgl : g < wr.heap.size := Nat.lt_of_lt_of_le hlt0 hkp.size
  clear hb hlt0 hgn
  by_cases hlt : k < ps.length
  ·obtain ⟨hA, rfl⟩ := hPg.1.some_ (by omega)
   have hp : ps'[k]? = some (ps'[k]'(by omega)) := List.getElem?_eq_getElem (by omega)
   generalize ps'[k]'(by omega) = p at hp
   obtain ⟨curA, hcA, hcv⟩ := hPg.1.block
   have hc : ∀ j u, j < 5 → p.vals[j]? = some u → curA[k * 5 + j]? = some u := fun j u hj hu => hcv _ _ ((flat_get ps' k j p hp hj).trans hu)
   have e4 : wr.cell? ⟨hA, k * 5 + 4, none⟩ = some (.bool p.done) := (cell_of_block hcA).trans (hc 4 _ (by omega) rfl)
   have hpk := (hPg.2.2.1 k p hp).1
   unfold FillI at hpk
   rw [if_neg (by omega)] at hpk
   have hki : (k : Int) < (ps.length : Int) := by omega
   have hk0 : (0 : Int) ≤ k := by omega
   have hLA : ∀ x, p.Fp x → ¬ Bk (some ⟨hA, 0, none⟩) x := fun x hx => ((hPg.2.2.1 k p hp).2.2 x hx).2
   have hLl : ∀ x, p.Fp x → x < wr.heap.size := fun x hx => ((hPg.2.2.1 k p hp).2.2 x hx).1
   have HP := Lib.hid (And.intro hlen (And.intro hPg (And.intro hfp (And.intro hkp (And.intro hp (And.intro hcA (And.intro hc (And.intro hLA (And.intro hLl hpk)))))))))
   clear hlen hPg hfp hkp hp hcA hcv hc hLA hLl HI
   rcases hpk with hpk | hpk
   ·have hd := hpk.1
    have HK := Lib.hid hpk
    clear hpk
    rw [hd] at e4
    have HD := Lib.hid hd
    clear hd
    go_wp2_with fail
    have hcv := HP.out.2.2.2.2.2.2.1
    obtain ⟨_, q2, q3, q4, q5, q6, l, q7, q8, q9, q10⟩ := HK.out
    have hi := hcv 3 (.int .i64 (p.id : Int)) (by omega) rfl
    refine (fillB_calls wr hA (k * 5) curA p.L p.c p.n p.id p.done (bcs l) HP.out.2.2.2.2.2.1 (by have := hcv 0 _ (by omega) (rfl : p.vals[0]? = some (.slice p.L p.n p.c)); rwa [Nat.add_zero] at this) hi (hcv 4 _ (by omega) rfl) q9 (fun hb => HP.out.2.2.2.2.2.2.2.1 hA (.inl hb) (Bk.some_.2 rfl)) (by omega) q6).mono ?_
    rintro e w2 ⟨rfl, r1, r2, r3⟩
    have HW := Lib.hid (And.intro r1 (And.intro r2 r3))
    clear r1 r2 r3 hi hcv
    go_wp2_with fail
    refine ⟨⟨k + 1, by omega, by go_num, Lib.hid ?_⟩, by simp [intOf]; omega⟩
    refine PsSo.turn (i := k) (j := 4) (p := p) (p' := { p with done := true }) (v := .bool true) (P := FillI k) HP.out.1 HP.out.2.1 HP.out.2.2.1 HP.out.2.2.2.1 (FillI.stable k) HP.out.2.2.2.2.1 (by omega) rfl HP.out.2.2.2.2.2.1 HW.out.2.2 HW.out.2.1 (fun i q hik h => ?_) ?_ (fun x hx => .inl hx) (fun x hx => Nat.lt_of_lt_of_le (HP.out.2.2.2.2.2.2.2.2.1 x hx) HW.out.2.1.size) hgl
    ·unfold FillI at h ⊢
     by_cases hik2 : i < k
     ·rw [if_pos hik2] at h
      rw [if_pos (by omega)]
      exact h
     ·rw [if_neg hik2] at h
      rw [if_neg (by omega)]
      exact h
    ·unfold FillI
     rw [if_pos (by omega)]
     exact .inl ⟨rfl, q2, q3, q4, q5, q6, HW.out.1⟩
   ·have hd := hpk.1
    have HK := Lib.hid hpk
    clear hpk
    rw [hd] at e4
    have HD := Lib.hid hd
    clear hd
    go_wp2_with fail
    refine ⟨⟨k + 1, by omega, by go_num, Lib.hid ⟨ps', HP.out.1, HP.out.2.1.imp (fun i q hq h => ?_), HP.out.2.2.1, HP.out.2.2.2.1⟩⟩, by simp [intOf]; omega⟩
    unfold FillI at h ⊢
    by_cases hik2 : i < k
    ·rw [if_pos hik2] at h
     rw [if_pos (by omega)]
     exact h
    ·rw [if_neg hik2] at h
     by_cases hik : i = k
     ·subst hik
      rw [if_pos (by omega)]
      rw [HP.out.2.2.2.2.1] at hq
      cases hq
      exact .inr HK.out
     ·rw [if_neg (by omega)]
      exact h
  ·obtain rfl : k = ps.length := by omega
   clear hPg hlen hfp hkp
   go_wp2
   go_end0
   exact ⟨rfl, HI.out⟩
set_option maxHeartbeats 1000000 in
theorem growsB_calls (w : World) (g : Nat) (cur : Array Value) (A : Option Addr) (c : Nat) (ps : List Pg) (hB : BookB (fun _ w p => Full w p ∨ Grown w p) w g cur A c ps) (hps : ps.length ≤ 96) :
  Calls Tryz.prog 73 #[.pointer (some ⟨g, 6, none⟩)] w fun e w' => e = .returned (.tuple #[]) ∧ PsSo (GrowI ps.length) w g A c ps w' := by
 have H := Lib.hid hB
 clear hB
 go_enter Tryz.func73, Tryz.ntmps73
 go_wp2
 go_loopw [2] (fun i wr => ∃ k : Nat, k ≤ ps.length ∧ i = .int .i64 (k : Int) ∧ Hid (PsSo (GrowI k) w g A c ps wr)) (fun i _ => ps.length - (intOf i).toNat)
 case atStart => exact ⟨0, Nat.zero_le _, rfl, Lib.hid ⟨ps, rfl, H.out.2.2.imp (fun i p hp h => by unfold GrowI; rw [if_neg (by omega)]; exact h), fun q hq x hx => .inl (.inr ⟨q, hq, hx⟩), Kp.refl _ _⟩⟩
 case round =>
  obtain ⟨k, hk, rfl, HI⟩ := hrel
  obtain ⟨ps', hlen, hPg, hfp, hkp⟩ := HI.out
  have hlt0 := (Array.getElem?_eq_some_iff.1 H.out.1).1
  have hgn : ¬ PsFp A ps g := fun h => h.elim H.out.2.2.2.1 (fun ⟨p, hp, hf⟩ => by obtain ⟨i, hi⟩ := List.mem_iff_getElem?.1 hp; exact (H.out.2.2.2.2.1 i p hi).2.1 hf)
  have hb : wr.heap[g]? = some (.cells cur 53 (0, 0)) := (hkp.block g hlt0 hgn).trans H.out.1
  have f1 : wr.cell? ⟨g, 7, none⟩ = some (.slice A ps.length c) := (cell_of_block hb).trans H.out.2.1
  have hgl : g < wr.heap.size := Nat.lt_of_lt_of_le hlt0 hkp.size
  clear hb hlt0 hgn
  by_cases hlt : k < ps.length
  ·obtain ⟨hA, rfl⟩ := hPg.1.some_ (by omega)
   have hp : ps'[k]? = some (ps'[k]'(by omega)) := List.getElem?_eq_getElem (by omega)
   generalize ps'[k]'(by omega) = p at hp
   obtain ⟨curA, hcA, hcv⟩ := hPg.1.block
   have hc : ∀ j u, j < 5 → p.vals[j]? = some u → curA[k * 5 + j]? = some u := fun j u hj hu => hcv _ _ ((flat_get ps' k j p hp hj).trans hu)
   have e4 : wr.cell? ⟨hA, k * 5 + 1, none⟩ = some (.slice p.G p.gn p.gc) := (cell_of_block hcA).trans (hc 1 _ (by omega) rfl)
   have hpk := (hPg.2.2.1 k p hp).1
   unfold GrowI at hpk
   rw [if_neg (by omega)] at hpk
   have hki : (k : Int) < (ps.length : Int) := by omega
   have hk0 : (0 : Int) ≤ k := by omega
   have hLA : ∀ x, p.Fp x → ¬ Bk (some ⟨hA, 0, none⟩) x := fun x hx => ((hPg.2.2.1 k p hp).2.2 x hx).2
   have hLl : ∀ x, p.Fp x → x < wr.heap.size := fun x hx => ((hPg.2.2.1 k p hp).2.2 x hx).1
   have HP := Lib.hid (And.intro hlen (And.intro hPg (And.intro hfp (And.intro hkp (And.intro hp (And.intro hcA (And.intro hc (And.intro hLA (And.intro hLl hpk)))))))))
   clear hlen hPg hfp hkp hp hcA hcv hc hLA hLl HI
   rcases hpk with hpk | hpk
   ·have hd : p.gn = 0 := hpk.2.2.1
    have HK := Lib.hid hpk
    clear hpk
    rw [hd] at e4
    have HD := Lib.hid hd
    clear hd
    go_wp2_with fail
    have hcv := HP.out.2.2.2.2.2.2.1
    obtain ⟨q1, q2, q3, q4, q5, q6, q9⟩ := HK.out
    have hi := hcv 3 (.int .i64 (p.id : Int)) (by omega) rfl
    refine (growB_calls wr hA (k * 5) curA p.L p.c p.n p.id (.slice p.G p.gn p.gc) (bcs (marksB p.id p.n)) HP.out.2.2.2.2.2.1 (by have := hcv 0 _ (by omega) (rfl : p.vals[0]? = some (.slice p.L p.n p.c)); rwa [Nat.add_zero] at this) (hcv 1 _ (by omega) rfl) hi q9 (fun hb => HP.out.2.2.2.2.2.2.2.1 hA (.inl hb) (Bk.some_.2 rfl)) q5 q6).mono ?_
    rintro e w2 ⟨rfl, G2, cG2, r1, r2, r3, r4, r5⟩
    have HW := Lib.hid (And.intro r1 (And.intro r2 (And.intro r3 (And.intro r4 r5))))
    clear r1 r2 r3 r4 r5 hi hcv
    go_wp2_with fail
    have hz := HW.out.2.2.1.size
    refine ⟨⟨k + 1, by omega, by go_num, Lib.hid ?_⟩, by simp [intOf]; omega⟩
    refine PsSo.turn (i := k) (j := 1) (p := p) (p' := { p with G := G2, gn := p.n + 64, gc := cG2 }) (v := .slice G2 (p.n + 64) cG2) (P := GrowI k) HP.out.1 HP.out.2.1 HP.out.2.2.1 HP.out.2.2.2.1 (GrowI.stable k) HP.out.2.2.2.2.1 (by omega) rfl HP.out.2.2.2.2.2.1 HW.out.2.2.2.2 HW.out.2.2.1 (fun i q hik h => ?_) ?_ (fun x hx => ?_) (fun x hx => ?_) hgl
    ·unfold GrowI at h ⊢
     by_cases hik2 : i < k
     ·rw [if_pos hik2] at h
      rw [if_pos (by omega)]
      exact h
     ·rw [if_neg hik2] at h
      rw [if_neg (by omega)]
      exact h
    ·unfold GrowI
     rw [if_pos (by omega)]
     refine ⟨q1, rfl, q5, q6, HW.out.2.1.rd2, ?_⟩
     have := HW.out.1
     rw [← bcs_append] at this
     exact this.rd2
    ·rcases hx with hx | hx | hx
     ·exact .inl (.inl hx)
     ·exact (HW.out.2.2.2.1 x hx).imp (fun h => .inl h) id
     ·exact .inl (.inr (.inr hx))
    ·rcases hx with hx | hx | hx
     ·exact HW.out.2.1.lt x hx
     ·exact HW.out.1.lt x hx
     ·exact Nat.lt_of_lt_of_le (HP.out.2.2.2.2.2.2.2.2.1 x (.inr (.inr hx))) hz
   ·have hd : p.gn = p.n + 64 := hpk.2.1
    have HK := Lib.hid hpk
    clear hpk
    rw [hd] at e4
    have HD := Lib.hid hd
    clear hd
    have hnz : ((p.n : Int) + 64 == 0) = false := by rw [beq_eq_false_iff_ne]; omega
    go_wp2_with fail
    refine ⟨⟨k + 1, by omega, by go_num, Lib.hid ⟨ps', HP.out.1, HP.out.2.1.imp (fun i q hq h => ?_), HP.out.2.2.1, HP.out.2.2.2.1⟩⟩, by simp [intOf]; omega⟩
    unfold GrowI at h ⊢
    by_cases hik2 : i < k
    ·rw [if_pos hik2] at h
     rw [if_pos (by omega)]
     exact h
    ·rw [if_neg hik2] at h
     by_cases hik : i = k
     ·subst hik
      rw [if_pos (by omega)]
      rw [HP.out.2.2.2.2.1] at hq
      cases hq
      exact HK.out
     ·rw [if_neg (by omega)]
      exact h
  ·obtain rfl : k = ps.length := by omega
   clear hPg hlen hfp hkp
   go_wp2
   go_end0
   exact ⟨rfl, HI.out⟩
structure EK where
 e : TypeId
 pt : TypeId
 sz : Nat
 wf : List Value → Prop
 mark : Nat → Nat → List Value
def EK.marks (K : EK) (id n : Nat) : List Value := (List.range n).flatMap (K.mark id)
def elt (xs : List Value) (sz i : Nat) : List Value := (xs.drop (i * sz)).take sz
structure EK.Ok (K : EK) : Prop where
 pos : 0 < K.sz
 len : ∀ a, K.wf a → a.length = K.sz
 mark : ∀ id k, K.wf (K.mark id k)
 one : ∀ a, K.wf a → ∀ u ∈ a, u.oneCell' = true
theorem EK.Ok.markLen {K : EK} (h : K.Ok) (id k : Nat) : (K.mark id k).length = K.sz := h.len _ (h.mark id k)
theorem EK.marks_length {K : EK} (h : K.Ok) (id n : Nat) : (K.marks id n).length = n * K.sz := by
 induction n with
 | zero => simp [EK.marks]
 | succ n ih =>
  unfold EK.marks at *
  rw [List.range_succ, List.flatMap_append, List.length_append, ih]
  simp [h.markLen, Nat.succ_mul]
theorem EK.marks_snoc (K : EK) (id n : Nat) : K.marks id (n + 1) = K.marks id n ++ K.mark id n := by simp [EK.marks, List.range_succ]
theorem elt_marks {K : EK} (h : K.Ok) (id n k : Nat) (hk : k < n) : elt (K.marks id n) K.sz k = K.mark id k := by
 induction n with
 | zero => omega
 | succ n ih =>
  have hl := EK.marks_length h id n
  unfold elt at *
  rw [EK.marks_snoc]
  by_cases hkn : k < n
  ·have h1 : k * K.sz + K.sz ≤ n * K.sz := by rw [← Nat.succ_mul]; exact Nat.mul_le_mul_right _ hkn
   rw [List.drop_append_of_le_length (by omega), List.take_append_of_le_length (by rw [List.length_drop]; omega)]
   exact ih hkn
  ·obtain rfl : k = n := by omega
   rw [List.drop_append, hl, Nat.sub_self, List.drop_of_length_le (by omega), List.nil_append, List.drop_zero, List.take_of_length_le (by rw [h.markLen]; omega)]
theorem elt_get {xs : List Value} {sz i j : Nat} (hj : j < sz) : (elt xs sz i)[j]? = xs[i * sz + j]? := by
 unfold elt
 rw [List.getElem?_take, if_pos hj, List.getElem?_drop]
theorem elt_app_left {xs ys : List Value} {sz i n : Nat} (hl : xs.length = n * sz) (hi : i < n) : elt (xs ++ ys) sz i = elt xs sz i := by
 have h1 : i * sz + sz ≤ n * sz := by rw [← Nat.succ_mul]; exact Nat.mul_le_mul_right _ hi
 unfold elt
 rw [List.drop_append_of_le_length (by omega), List.take_append_of_le_length (by rw [List.length_drop]; omega)]
theorem elt_app_right {xs ys : List Value} {sz i n : Nat} (hl : xs.length = n * sz) : elt (xs ++ ys) sz (n + i) = elt ys sz i := by
 unfold elt
 rw [Nat.add_mul, ← hl, List.drop_append, Nat.add_sub_cancel_left, List.drop_of_length_le (by omega), List.nil_append]
theorem elt_app_from {xs ys : List Value} {sz k n : Nat} (hl : xs.length = n * sz) (h : n ≤ k) : elt (xs ++ ys) sz k = elt ys sz (k - n) := by
 obtain ⟨i, rfl⟩ : ∃ i, k = n + i := ⟨k - n, by omega⟩
 rw [elt_app_right hl, Nat.add_sub_cancel_left]
def RdC (w : World) (A : Option Addr) (xs : List Value) : Prop := xs ≠ [] → ∃ b off, A = some ⟨b, off, none⟩ ∧ ∀ (j : Nat) (u : Value), xs[j]? = some u → w.cell? ⟨b, off + j, none⟩ = some u
theorem RdC.kp {w w' : World} {S : Nat → Prop} {A : Option Addr} {xs : List Value} (h : RdC w A xs) (hk : Kp S w w') (hS : ∀ k, Bk A k → ¬ S k) : RdC w' A xs := by
 intro hne
 obtain ⟨b, off, rfl, hc⟩ := h hne
 exact ⟨b, off, rfl, fun j u hu => hk.cell_of (hc j u hu) (hS b (Bk.some_.2 rfl))⟩
theorem RdC.new {w w' : World} {A : Option Addr} {xs : List Value} (h : RdC w A xs) (hk : New w w') : RdC w' A xs := h.kp hk fun _ _ => id
theorem Own.rdC {w : World} {e : TypeId} {sz c n : Nat} {A : Option Addr} {xs : List Value} (h : Own w e sz A c n xs) : RdC w A xs := by
 intro hne
 rcases h.form with ⟨_, _, h0⟩ | ⟨g, rfl⟩
 ·exact absurd (List.eq_nil_of_length_eq_zero (by have := h.1; rw [h0] at this; simpa using this)) hne
 ·exact ⟨g, 0, rfl, fun j u hu => by rw [Nat.zero_add]; exact h.cell hu⟩
theorem RdC.elt_at {w : World} {A : Option Addr} {xs : List Value} {sz i n : Nat} (h : RdC w A xs) (hl : xs.length = n * sz) (hi : i < n) (hp : 0 < sz) :
  ∃ b off, A = some ⟨b, off, none⟩ ∧ ∀ (j : Nat) (u : Value), (elt xs sz i)[j]? = some u → w.cell? ⟨b, off + i * sz + j, none⟩ = some u := by
 have h1 : i * sz + sz ≤ n * sz := by rw [← Nat.succ_mul]; exact Nat.mul_le_mul_right _ hi
 obtain ⟨b, off, rfl, hc⟩ := h (fun e => by rw [e] at hl; simp at hl; omega)
 refine ⟨b, off, rfl, fun j u hu => ?_⟩
 have hj : j < sz := by
  have := (List.getElem?_eq_some_iff.1 hu).1
  unfold elt at this
  rw [List.length_take] at this
  omega
 rw [elt_get hj] at hu
 rw [Nat.add_assoc]
 exact hc _ u hu
def KeptE (K : EK) (w : World) (p : Pg) : Prop := p.done = false ∧ p.G = none ∧ p.gn = 0 ∧ p.gc = 0 ∧ p.id ≤ 800000 ∧ p.n ≤ 1099511627776 ∧ p.un = p.n ∧ ∃ xs, Own w K.e K.sz p.L p.c p.n xs ∧ RdC w p.U xs ∧ ∀ i, i < p.n → K.wf (elt xs K.sz i)
def FullE (K : EK) (w : World) (p : Pg) : Prop := p.done = true ∧ p.G = none ∧ p.gn = 0 ∧ p.gc = 0 ∧ p.id ≤ 800000 ∧ p.n ≤ 1099511627776 ∧ Own w K.e K.sz p.L p.c p.n (K.marks p.id p.n)
def GrownE (K : EK) (w : World) (p : Pg) : Prop := p.done = true ∧ p.gn = p.n + 64 ∧ p.id ≤ 800000 ∧ p.n ≤ 1099511627776 ∧ RdC w p.L (K.marks p.id p.n) ∧ RdC w p.G (K.marks p.id p.n ++ K.marks (p.id + 100000) 64)
theorem KeptE.kp {K : EK} {w w' : World} {S : Nat → Prop} {p : Pg} (h : KeptE K w p) (hk : Kp S w w') (hS : ∀ k, p.Fp k → ¬ S k) : KeptE K w' p := by
 obtain ⟨h1, h2, h3, h4, h5, h6, h7, xs, h8, h9, h10⟩ := h
 exact ⟨h1, h2, h3, h4, h5, h6, h7, xs, h8.kp hk (fun k hb => hS k (.inl hb)), h9.kp hk (fun k hb => hS k (.inr (.inr hb))), h10⟩
theorem FullE.kp {K : EK} {w w' : World} {S : Nat → Prop} {p : Pg} (h : FullE K w p) (hk : Kp S w w') (hS : ∀ k, p.Fp k → ¬ S k) : FullE K w' p := by
 obtain ⟨h1, h2, h3, h4, h5, h6, h9⟩ := h
 exact ⟨h1, h2, h3, h4, h5, h6, h9.kp hk (fun k hb => hS k (.inl hb))⟩
theorem GrownE.kp {K : EK} {w w' : World} {S : Nat → Prop} {p : Pg} (h : GrownE K w p) (hk : Kp S w w') (hS : ∀ k, p.Fp k → ¬ S k) : GrownE K w' p := by
 obtain ⟨h1, h2, h3, h4, h5, h6⟩ := h
 exact ⟨h1, h2, h3, h4, h5.kp hk (fun k hb => hS k (.inl hb)), h6.kp hk (fun k hb => hS k (.inr (.inl hb)))⟩
def LookE (K : EK) : Nat → World → Pg → Prop := fun _ w p => KeptE K w p ∨ GrownE K w p
theorem LookE.stable (K : EK) (i : Nat) : Stable (LookE K i) := Stable.or KeptE.kp GrownE.kp
def FillE (K : EK) (t : Nat) : Nat → World → Pg → Prop := fun i w p => if i < t then FullE K w p ∨ GrownE K w p else KeptE K w p ∨ GrownE K w p
theorem FillE.stable (K : EK) (t i : Nat) : Stable (FillE K t i) := by
 unfold FillE
 intro w w' S p h hk hS
 split at h
 ·rw [if_pos (by assumption)]
  exact Stable.or FullE.kp GrownE.kp h hk hS
 ·rw [if_neg (by assumption)]
  exact Stable.or KeptE.kp GrownE.kp h hk hS
def GrowE (K : EK) (t : Nat) : Nat → World → Pg → Prop := fun i w p => if i < t then GrownE K w p else FullE K w p ∨ GrownE K w p
theorem GrowE.stable (K : EK) (t i : Nat) : Stable (GrowE K t i) := by
 unfold GrowE
 intro w w' S p h hk hS
 split at h
 ·rw [if_pos (by assumption)]
  exact GrownE.kp h hk hS
 ·rw [if_neg (by assumption)]
  exact Stable.or FullE.kp GrownE.kp h hk hS
def PagesT (pt : TypeId) (P : Nat → World → Pg → Prop) (w : World) (g : Nat) (A : Option Addr) (c : Nat) (ps : List Pg) : Prop :=
 Own w pt 5 A c ps.length (ps.flatMap Pg.vals) ∧ ¬ Bk A g ∧ (∀ (i : Nat) (p : Pg), ps[i]? = some p → P i w p ∧ ¬ p.Fp g ∧ ∀ k, p.Fp k → k < w.heap.size ∧ ¬ Bk A k) ∧
  ∀ (i j : Nat) (p q : Pg), ps[i]? = some p → ps[j]? = some q → i ≠ j → ∀ k, p.Fp k → ¬ q.Fp k
theorem PagesT.kp {pt : TypeId} {P : Nat → World → Pg → Prop} {w w' : World} {g c : Nat} {A : Option Addr} {ps : List Pg} {S : Nat → Prop} (h : PagesT pt P w g A c ps) (hP : ∀ i, Stable (P i)) (hk : Kp S w w') (hA : ∀ k, Bk A k → ¬ S k) (hS : ∀ p ∈ ps, ∀ k, p.Fp k → ¬ S k) : PagesT pt P w' g A c ps := by
 obtain ⟨h1, h2, h3, h4⟩ := h
 refine ⟨h1.kp hk hA, h2, fun i p hp => ?_, h4⟩
 obtain ⟨k1, k2, k3⟩ := h3 i p hp
 exact ⟨hP i k1 hk (hS p (List.mem_of_getElem? hp)), k2, fun k hf => ⟨Nat.lt_of_lt_of_le (k3 k hf).1 hk.size, (k3 k hf).2⟩⟩
theorem PagesT.new {pt : TypeId} {P : Nat → World → Pg → Prop} {w w' : World} {g c : Nat} {A : Option Addr} {ps : List Pg} (h : PagesT pt P w g A c ps) (hP : ∀ i, Stable (P i)) (hk : New w w') : PagesT pt P w' g A c ps :=
 h.kp hP hk (fun _ _ => id) (fun _ _ _ _ => id)
theorem PagesT.turn {pt : TypeId} {P P' : Nat → World → Pg → Prop} {w w' : World} {g c i j hA : Nat} {ps : List Pg} {p p' : Pg} {v : Value} {cur : Array Value} (h : PagesT pt P w g (some ⟨hA, 0, none⟩) c ps) (hP : ∀ i, Stable (P i)) (hi : ps[i]? = some p) (hj : j < 5) (hv : p'.vals = p.vals.set j v)
  (hcur : w.heap[hA]? = some (.cells cur pt (0, 0))) (hh : w'.heap[hA]? = some (.cells (cur.setIfInBounds (i * 5 + j) v) pt (0, 0)))
  (hk : Kp (fun k => k = hA ∨ Bk p.L k) w w') (hPP : ∀ k q, k ≠ i → P k w' q → P' k w' q) (hp' : P' i w' p') (hf : ∀ k, p'.Fp k → p.Fp k ∨ w.heap.size ≤ k) (hlt : ∀ k, p'.Fp k → k < w'.heap.size) (hg : g < w.heap.size) : PagesT pt P' w' g (some ⟨hA, 0, none⟩) c (ps.set i p') := by
 obtain ⟨h1, h2, h3, h4⟩ := h
 have hAl : hA < w.heap.size := (Array.getElem?_eq_some_iff.1 hcur).1
 have hil : i < ps.length := (List.getElem?_eq_some_iff.1 hi).1
 have hne : ∀ k q, ps[k]? = some q → k ≠ i → ∀ x, q.Fp x → ¬ (x = hA ∨ Bk p.L x) := by
  intro k q hq hki x hx
  rintro (rfl | hb)
  ·exact ((h3 k q hq).2.2 x hx).2 (Bk.some_.2 rfl)
  ·exact h4 k i q p hq hi hki x hx (.inl hb)
 refine ⟨?_, h2, fun k q hq => ?_, fun a b q r hq hr hab k hk1 hk2 => ?_⟩
 ·rw [List.length_set, ← flat_set ps i j p p' v hi hj hv]
  refine ⟨by rw [List.length_set]; exact h1.1, ?_⟩
  rcases h1.2 with ⟨h, _⟩ | ⟨g', cur', e', hg', c1, c2, c3, c4⟩
  ·cases h
  ·cases e'
   rw [hcur] at hg'
   cases hg'
   refine .inr ⟨hA, _, rfl, hh, c1, c2, by rw [Array.size_setIfInBounds]; exact c3, ?_⟩
   rw [Array.toList_setIfInBounds, List.take_set, c4]
 ·by_cases hki : k = i
  ·subst hki
   rw [List.getElem?_set_self hil] at hq
   cases hq
   refine ⟨hp', fun hf' => ?_, fun x hx => ⟨hlt x hx, fun hb => ?_⟩⟩
   ·rcases hf g hf' with hf' | hf'
    ·exact (h3 k p hi).2.1 hf'
    ·omega
   ·have hxA : hA = x := Bk.some_.1 hb
    rcases hf x hx with hf' | hf'
    ·exact ((h3 k p hi).2.2 x hf').2 hb
    ·omega
  ·rw [List.getElem?_set_ne (fun e => hki e.symm)] at hq
   obtain ⟨k1, k2, k3⟩ := h3 k q hq
   exact ⟨hPP k q hki (hP k k1 hk (hne k q hq hki)), k2, fun x hx => ⟨Nat.lt_of_lt_of_le (k3 x hx).1 hk.size, (k3 x hx).2⟩⟩
 ·by_cases ha : a = i
  ·subst ha
   rw [List.getElem?_set_self hil] at hq
   rw [List.getElem?_set_ne hab] at hr
   cases hq
   rcases hf k hk1 with hf' | hf'
   ·exact h4 a b p r hi hr hab k hf' hk2
   ·have := ((h3 b r hr).2.2 k hk2).1
    omega
  ·rw [List.getElem?_set_ne (fun e => ha e.symm)] at hq
   by_cases hb : b = i
   ·subst hb
    rw [List.getElem?_set_self hil] at hr
    cases hr
    rcases hf k hk2 with hf' | hf'
    ·exact h4 a b q p hq hi hab k hk1 hf'
    ·have := ((h3 a q hq).2.2 k hk1).1
     omega
   ·rw [List.getElem?_set_ne (fun e => hb e.symm)] at hr
    exact h4 a b q r hq hr hab k hk1 hk2
theorem PagesT.imp {pt : TypeId} {P P' : Nat → World → Pg → Prop} {w : World} {g c : Nat} {A : Option Addr} {ps : List Pg} (h : PagesT pt P w g A c ps) (hi : ∀ (i : Nat) (p : Pg), ps[i]? = some p → P i w p → P' i w p) : PagesT pt P' w g A c ps :=
 ⟨h.1, h.2.1, fun i p hp => ⟨hi i p hp (h.2.2.1 i p hp).1, (h.2.2.1 i p hp).2⟩, h.2.2.2⟩
def PsSoT (pt : TypeId) (P : Nat → World → Pg → Prop) (w : World) (g : Nat) (A : Option Addr) (c : Nat) (ps : List Pg) (w' : World) : Prop :=
 ∃ ps' : List Pg, ps'.length = ps.length ∧ PagesT pt P w' g A c ps' ∧ (∀ q ∈ ps', ∀ x, q.Fp x → PsFp A ps x ∨ w.heap.size ≤ x) ∧ Kp (PsFp A ps) w w'
theorem PsSoT.imp {pt : TypeId} {P P' : Nat → World → Pg → Prop} {w w' : World} {g c : Nat} {A : Option Addr} {ps : List Pg} (h : PsSoT pt P w g A c ps w') (hi : ∀ (i : Nat) (p : Pg), i < ps.length → P i w' p → P' i w' p) : PsSoT pt P' w g A c ps w' := by
 obtain ⟨ps', h1, h2, h3, h4⟩ := h
 exact ⟨ps', h1, h2.imp (fun i p hp => hi i p (by rw [← h1]; exact (List.getElem?_eq_some_iff.1 hp).1)), h3, h4⟩
theorem PsSoT.turn {pt : TypeId} {P P' : Nat → World → Pg → Prop} {w w1 w2 : World} {g c i j hA : Nat} {ps ps' : List Pg} {p p' : Pg} {v : Value} {cur : Array Value} (hlen : ps'.length = ps.length) (h : PagesT pt P w1 g (some ⟨hA, 0, none⟩) c ps') (hfp : ∀ q ∈ ps', ∀ x, q.Fp x → PsFp (some ⟨hA, 0, none⟩) ps x ∨ w.heap.size ≤ x) (hkp : Kp (PsFp (some ⟨hA, 0, none⟩) ps) w w1)
  (hP : ∀ i, Stable (P i)) (hi : ps'[i]? = some p) (hj : j < 5) (hv : p'.vals = p.vals.set j v)
  (hcur : w1.heap[hA]? = some (.cells cur pt (0, 0))) (hh : w2.heap[hA]? = some (.cells (cur.setIfInBounds (i * 5 + j) v) pt (0, 0)))
  (hk : Kp (fun k => k = hA ∨ Bk p.L k) w1 w2) (hPP : ∀ k q, k ≠ i → P k w2 q → P' k w2 q) (hp' : P' i w2 p') (hf : ∀ k, p'.Fp k → p.Fp k ∨ w1.heap.size ≤ k) (hlt : ∀ k, p'.Fp k → k < w2.heap.size) (hg : g < w1.heap.size) : PsSoT pt P' w g (some ⟨hA, 0, none⟩) c ps w2 := by
 have hm := List.mem_of_getElem? hi
 refine ⟨ps'.set i p', by rw [List.length_set]; exact hlen, h.turn hP hi hj hv hcur hh hk hPP hp' hf hlt hg, fun q hq x hx => ?_, hkp.trans hk fid (fun x hx hb => ?_)⟩
 ·have hws := hkp.size
  rcases List.mem_or_eq_of_mem_set hq with hq | rfl
  ·exact hfp q hq x hx
  ·rcases hf x hx with h' | h'
   ·exact hfp p hm x h'
   ·exact .inr (by omega)
 ·rcases hb with rfl | hb
  ·exact .inl (Bk.some_.2 rfl)
  ·rcases hfp p hm x (.inl hb) with h' | h'
   ·exact h'
   ·omega
theorem PagesT.push {pt : TypeId} {P : Nat → World → Pg → Prop} {w w' : World} {g c c' : Nat} {A A' : Option Addr} {ps : List Pg} {p : Pg} (h : PagesT pt P w g A c ps) (hP : ∀ i, Stable (P i)) (hown : Own w' pt 5 A' c' (ps.length + 1) (ps.flatMap Pg.vals ++ p.vals))
  (hk : Kp (fun x => x = g ∨ Bk A x ∨ Bk p.L x) w w') (hA' : ∀ x, Bk A' x → Bk A x ∨ w.heap.size ≤ x) (hp : P ps.length w' p) (hL : ∀ x, Bk p.L x → x < w.heap.size ∧ x ≠ g ∧ ¬ Bk A x ∧ ∀ q ∈ ps, ¬ q.Fp x)
  (hnew : ∀ x, p.Fp x → Bk p.L x ∨ (w.heap.size ≤ x ∧ x < w'.heap.size ∧ ¬ Bk A' x)) (hg : g < w.heap.size) : PagesT pt P w' g A' c' (ps ++ [p]) := by
 obtain ⟨h1, h2, h3, h4⟩ := h
 have hsz := hk.size
 have hone : ∀ (i : Nat) (q : Pg), (ps ++ [p])[i]? = some q → (ps[i]? = some q ∧ i < ps.length) ∨ (i = ps.length ∧ q = p) := by
  intro i q hq
  by_cases hi : i < ps.length
  ·rw [List.getElem?_append_left hi] at hq
   exact .inl ⟨hq, hi⟩
  ·rw [List.getElem?_append_right (by omega)] at hq
   by_cases hz : i - ps.length = 0
   ·rw [hz] at hq
    simp only [List.getElem?_cons_zero, Option.some.injEq] at hq
    exact .inr ⟨by omega, hq.symm⟩
   ·rw [List.getElem?_eq_none (by simp; omega)] at hq
    cases hq
 have hsep : ∀ (i : Nat) (q : Pg), ps[i]? = some q → ∀ x, q.Fp x → ¬ p.Fp x := by
  intro i q hq x hx hpx
  rcases hnew x hpx with hb | hb
  ·exact (hL x hb).2.2.2 q (List.mem_of_getElem? hq) hx
  ·have := ((h3 i q hq).2.2 x hx).1
   omega
 refine ⟨?_, fun hb => (hA' g hb).elim h2 (fun h => by omega), fun i q hq => ?_, fun i j q r hq hr hij x hx hy => ?_⟩
 ·rw [List.length_append, List.flatMap_append]
  simpa using hown
 ·rcases hone i q hq with ⟨hq', _⟩ | ⟨rfl, rfl⟩
  ·obtain ⟨k1, k2, k3⟩ := h3 i q hq'
   refine ⟨hP i k1 hk (fun x hx hb => ?_), k2, fun x hx => ⟨Nat.lt_of_lt_of_le (k3 x hx).1 hsz, fun hb => ?_⟩⟩
   ·rcases hb with rfl | hb | hb
    ·exact k2 hx
    ·exact (k3 x hx).2 hb
    ·exact (hL x hb).2.2.2 q (List.mem_of_getElem? hq') hx
   ·rcases hA' x hb with hb | hb
    ·exact (k3 x hx).2 hb
    ·have := (k3 x hx).1
     omega
  ·refine ⟨hp, fun hb => ?_, fun x hx => ⟨?_, fun hb => ?_⟩⟩
   ·rcases hnew g hb with hb | hb
    ·exact (hL g hb).2.1 rfl
    ·omega
   ·rcases hnew x hx with hb | hb
    ·exact Nat.lt_of_lt_of_le (hL x hb).1 hsz
    ·exact hb.2.1
   ·rcases hnew x hx with hb' | hb'
    ·rcases hA' x hb with hb | hb
     ·exact (hL x hb').2.2.1 hb
     ·have := (hL x hb').1
      omega
    ·exact hb'.2.2 hb
 ·rcases hone i q hq with ⟨hq', hi⟩ | ⟨rfl, rfl⟩
  ·rcases hone j r hr with ⟨hr', hj⟩ | ⟨rfl, rfl⟩
   ·exact h4 i j q r hq' hr' hij x hx hy
   ·exact hsep i q hq' x hx hy
  ·rcases hone j r hr with ⟨hr', hj⟩ | ⟨rfl, rfl⟩
   ·exact hsep j r hr' x hy hx
   ·exact hij rfl
def setAt (w : World) (g o : Nat) : List Value → World
 | [] => w
 | v :: l => setAt (w.setCell ⟨g, o, none⟩ v) g (o + 1) l
def setL (xs : List Value) (o : Nat) : List Value → List Value
 | [] => xs
 | v :: l => setL (xs.set o v) (o + 1) l
theorem Own.setAt {e : TypeId} {sz c n g : Nat} : ∀ (cs : List Value) {w : World} {xs : List Value} {o : Nat}, Own w e sz (some ⟨g, 0, none⟩) c n xs → Own (Kit.setAt w g o cs) e sz (some ⟨g, 0, none⟩) c n (setL xs o cs)
 | [], _, _, _, h => h
 | v :: l, _, _, o, h => Own.setAt l (h.set o v)
theorem Kp.setAt {S : Nat → Prop} {g : Nat} (hS : S g) : ∀ (cs : List Value) {w : World} {o : Nat}, Kp S w (Kit.setAt w g o cs)
 | [], _, _ => Kp.refl _ _
 | v :: l, w, o => (Kp.setCell w ⟨g, o, none⟩ v hS).trans (Kp.setAt hS l) fid fid
theorem setL_mid : ∀ (cs p q r : List Value), q.length = cs.length → setL (p ++ q ++ r) p.length cs = p ++ cs ++ r
 | [], p, q, r, h => by obtain rfl := List.eq_nil_of_length_eq_zero h; simp [setL]
 | v :: l, p, q, r, h => by
  cases q with
  | nil => simp at h
  | cons u q =>
   rw [setL]
   have e : (p ++ u :: q ++ r).set p.length v = (p ++ [v]) ++ q ++ r := by
    rw [List.append_assoc, List.set_append_right _ _ (Nat.le_refl _), Nat.sub_self]
    simp
   have hl : p.length + 1 = (p ++ [v]).length := by simp
   rw [e, hl, setL_mid l (p ++ [v]) q r (by simpa using h)]
   simp
theorem EK.Ok.all {K : EK} (hK : K.Ok) {xs : List Value} {n : Nat} (hl : xs.length = n * K.sz) (hwf : ∀ i, i < n → K.wf (elt xs K.sz i)) : ∀ u ∈ xs, u.oneCell' = true := by
 intro u hu
 obtain ⟨j, hj⟩ := List.mem_iff_getElem?.1 hu
 have hjl := (List.getElem?_eq_some_iff.1 hj).1
 have hp := hK.pos
 have hi : j / K.sz < n := by rw [Nat.div_lt_iff_lt_mul hp]; omega
 refine hK.one _ (hwf _ hi) u ?_
 refine List.mem_iff_getElem?.2 ⟨j % K.sz, ?_⟩
 rw [elt_get (Nat.mod_lt _ hp), Nat.div_add_mod']
 exact hj
theorem Src.ofRdC {P : Program} {w : World} {tx e' : TypeId} (hk : P.underlying tx = some (.slice e')) {A : Option Addr} {n sz : Nat} (c : Nat) {xs : List Value} (h : RdC w A xs) (hl : xs.length = n * sz) (hp : 0 < sz) (h1 : ∀ u ∈ xs, u.oneCell' = true) : Src P sz tx (.slice A n c) n xs w := by
 cases A with
 | none =>
  have : xs = [] := Classical.byContradiction fun hne => by obtain ⟨_, _, e, _⟩ := h hne; cases e
  subst this
  have hn : n = 0 := by
   rcases Nat.eq_zero_or_pos n with h0 | h0
   ·exact h0
   ·have := Nat.mul_pos h0 hp
    simp at hl
    omega
  subst hn
  exact Src.ofNil w hk c
 | some a =>
  refine Src.ofSlice w hk a n c xs hl (fun j u hu => ?_) h1
  obtain ⟨b, off, e, hc⟩ := h (fun e => by rw [e] at hu; simp at hu)
  cases e
  rw [Addr.add_lit]
  exact hc j u hu
theorem fill_step {K : EK} (hK : K.Ok) {w w1 : World} {g c n id k o : Nat} {xs : List Value} (h : Own w K.e K.sz (some ⟨g, 0, none⟩) c n (K.marks id k ++ xs.drop (k * K.sz))) (hn : New w w1) (hk : k < n) (hx : xs.length = n * K.sz) (ho : o = k * K.sz) :
  Own (setAt w1 g o (K.mark id k)) K.e K.sz (some ⟨g, 0, none⟩) c n (K.marks id (k + 1) ++ xs.drop ((k + 1) * K.sz)) ∧ Kp (Bk (some ⟨g, 0, none⟩)) w (setAt w1 g o (K.mark id k)) := by
 subst ho
 have h1 : k * K.sz + K.sz ≤ n * K.sz := by rw [← Nat.succ_mul]; exact Nat.mul_le_mul_right _ hk
 have hd : xs.drop (k * K.sz) = elt xs K.sz k ++ xs.drop ((k + 1) * K.sz) := by
  unfold elt
  have := List.take_append_drop K.sz (xs.drop (k * K.sz))
  rw [List.drop_drop] at this
  rw [Nat.succ_mul]
  exact this.symm
 refine ⟨?_, (hn.mono (fun _ _ h => h.elim)).trans (Kp.setAt (Bk.some_.2 rfl) _) fid fid⟩
 have h2 := Own.setAt (K.mark id k) (o := k * K.sz) (h.new hn)
 have hl := setL_mid (K.mark id k) (K.marks id k) (elt xs K.sz k) (xs.drop ((k + 1) * K.sz)) (by rw [hK.markLen]; unfold elt; rw [List.length_take, List.length_drop]; omega)
 rw [EK.marks_length hK, List.append_assoc, ← hd] at hl
 rw [hl, ← EK.marks_snoc] at h2
 exact h2
def BookE (K : EK) (at_ : Nat) (P : Nat → World → Pg → Prop) (w : World) (g : Nat) (cur : Array Value) (A : Option Addr) (c : Nat) (ps : List Pg) : Prop :=
 w.heap[g]? = some (.cells cur 53 (0, 0)) ∧ cur[at_]? = some (.slice A ps.length c) ∧ PagesT K.pt P w g A c ps
def PutE (K : EK) (at_ : Nat) (P : Nat → World → Pg → Prop) (w : World) (g next : Nat) (cur : Array Value) (A : Option Addr) (ps : List Pg) (L : Option Addr) (w' : World) : Prop :=
 ∃ A' c' p, BookE K at_ P w' g ((cur.setIfInBounds 6 (.int .i64 ((next + 1 : Nat) : Int))).setIfInBounds at_ (.slice A' (ps.length + 1) c')) A' c' (ps ++ [p]) ∧ Kp (fun x => x = g ∨ Bk A x ∨ Bk L x) w w' ∧ (∀ x, Bk A' x → Bk A x ∨ w.heap.size ≤ x) ∧ ∀ x, p.Fp x → Bk L x ∨ w.heap.size ≤ x
end Go.Proofs.YtekcoeonlfmebaaGreatDoor.Kit
namespace Go.Proofs
open Go.Shelf
def Tryz.laysM171_ren : Go.Shelf.Ren := ⟨fun | 171 => 269 | 243 => 276 | 246 => 278 | 283 => 279 | 284 => 280 | 285 => 281 | 286 => 282 | 129 => 268 | 317 => 283 | 318 => 284 | 319 => 285 | 320 => 286 | 337 => 287 | 338 => 288 | n => n, fun | 3 => 3 | 9 => 9 | 2 => 2 | 4 => 4 | 171 => 292 | 0 => 0 | 53 => 280 | 37 => 55 | 5 => 5 | 173 => 294 | 212 => 297 | 51 => 278 | 20 => 20 | 213 => 298 | 46 => 248 | 232 => 300 | 233 => 301 | n => n, fun | 17 => 0 | 18 => 1 | 19 => 2 | n => n⟩
theorem Tryz.laysM171 : Go.Proofs.LaysM.n171 Tryz.prog Tryz.laysM171_ren := {
 mixed := by kernel_rfl
 f129 := Tryz.func268.trans (congrArg some (by kernel_rfl))
 f171 := Tryz.func269.trans (congrArg some (by kernel_rfl))
 f243 := Tryz.func276.trans (congrArg some (by kernel_rfl))
 f246 := Tryz.func278.trans (congrArg some (by kernel_rfl))
 f283 := Tryz.func279.trans (congrArg some (by kernel_rfl))
 f284 := Tryz.func280.trans (congrArg some (by kernel_rfl))
 f285 := Tryz.func281.trans (congrArg some (by kernel_rfl))
 f286 := Tryz.func282.trans (congrArg some (by kernel_rfl))
 f317 := Tryz.func283.trans (congrArg some (by kernel_rfl))
 f318 := Tryz.func284.trans (congrArg some (by kernel_rfl))
 f319 := Tryz.func285.trans (congrArg some (by kernel_rfl))
 f320 := Tryz.func286.trans (congrArg some (by kernel_rfl))
 f337 := Tryz.func287.trans (congrArg some (by kernel_rfl))
 f338 := Tryz.func288.trans (congrArg some (by kernel_rfl))
 t0 := Tryz.underlying0
 a0 := Tryz.isAgg0
 z0 := Tryz.sizeOf0
 v0 := Tryz.zeroValue0
 t2 := Tryz.underlying2
 a2 := Tryz.isAgg2
 z2 := Tryz.sizeOf2
 v2 := Tryz.zeroValue2
 t3 := Tryz.underlying3
 a3 := Tryz.isAgg3
 z3 := Tryz.sizeOf3
 v3 := Tryz.zeroValue3
 t4 := Tryz.underlying4
 a4 := Tryz.isAgg4
 z4 := Tryz.sizeOf4
 v4 := Tryz.zeroValue4
 t5 := Tryz.underlying5
 a5 := Tryz.isAgg5
 z5 := Tryz.sizeOf5
 v5 := Tryz.zeroValue5
 t9 := Tryz.underlying9
 a9 := Tryz.isAgg9
 z9 := Tryz.sizeOf9
 v9 := Tryz.zeroValue9
 t20 := Tryz.underlying20
 a20 := Tryz.isAgg20
 z20 := Tryz.sizeOf20
 v20 := Tryz.zeroValue20
 t37 := Tryz.underlying55
 a37 := Tryz.isAgg55
 z37 := Tryz.sizeOf55
 v37 := Tryz.zeroValue55
 t46 := Tryz.underlying248
 a46 := Tryz.isAgg248
 z46 := Tryz.sizeOf248
 v46 := Tryz.zeroValue248
 t51 := Tryz.underlying278
 a51 := Tryz.isAgg278
 z51 := Tryz.sizeOf278
 v51 := Tryz.zeroValue278
 t53 := Tryz.underlying280
 a53 := Tryz.isAgg280
 z53 := Tryz.sizeOf280
 v53 := Tryz.zeroValue280
 t171 := Tryz.underlying292
 a171 := Tryz.isAgg292
 z171 := Tryz.sizeOf292
 v171 := Tryz.zeroValue292
 t173 := Tryz.underlying294
 a173 := Tryz.isAgg294
 z173 := Tryz.sizeOf294
 v173 := Tryz.zeroValue294
 t212 := Tryz.underlying297
 a212 := Tryz.isAgg297
 z212 := Tryz.sizeOf297
 v212 := Tryz.zeroValue297
 t213 := Tryz.underlying298
 a213 := Tryz.isAgg298
 z213 := Tryz.sizeOf298
 t232 := Tryz.underlying300
 a232 := Tryz.isAgg300
 z232 := Tryz.sizeOf300
 v232 := Tryz.zeroValue300
 t233 := Tryz.underlying301
 a233 := Tryz.isAgg301
 z233 := Tryz.sizeOf301
 v233 := Tryz.zeroValue301
 g17 := by kernel_rfl
 g18 := by kernel_rfl
 g19 := by kernel_rfl
 i0 := by kernel_rfl
 i2 := by kernel_rfl
 i3 := by kernel_rfl
 i4 := by kernel_rfl
 i5 := by kernel_rfl
 i9 := by kernel_rfl
 i20 := by kernel_rfl
 i37 := by kernel_rfl
 i46 := by kernel_rfl
 i51 := by kernel_rfl
 i53 := by kernel_rfl
 i171 := by kernel_rfl
 i173 := by kernel_rfl
 i212 := by kernel_rfl
 i232 := by kernel_rfl
 i233 := by kernel_rfl
 m17 := by kernel_rfl
 m18 := by kernel_rfl
 m19 := by kernel_rfl }
open Go.RowKit Go.Sort Go.Lib in
theorem Tryz.strconv_Itoa (n : Int) (h0 : -9223372036854775808 ≤ n) (h1 : n ≤ 9223372036854775807) (w : World) (htab : Lib.TabIs Tryz.prog w "internal/strconv.uint64pow10" .u64 Lib.pow10Tab) :
  Calls Tryz.prog 269 #[.int .i64 n] w fun e w' => e = .returned (.string ⟨(Lib.itoa n).toArray⟩) ∧ ∃ k os, w' = grow (w.drewN k) os := Any.strconv_Itoa Tryz.laysM171 n h0 h1 w htab
def Tryz.lays190_ren : Go.Shelf.Ren := ⟨fun | 190 => 155 | 125 => 255 | 258 => 254 | 128 => 267 | 129 => 268 | 302 => 258 | 303 => 259 | 304 => 260 | 305 => 261 | 306 => 262 | 307 => 263 | 308 => 264 | 309 => 265 | 310 => 266 | 333 => 270 | 329 => 271 | 330 => 272 | 334 => 273 | 335 => 274 | 336 => 275 | 344 => 277 | n => n, fun | 31 => 77 | 9 => 9 | 3 => 3 | 46 => 248 | 0 => 0 | 51 => 278 | 53 => 280 | 4 => 4 | 183 => 271 | 182 => 270 | 131 => 275 | 5 => 5 | 218 => 282 | 222 => 286 | 228 => 288 | 229 => 289 | n => n, fun | n => n⟩
theorem Tryz.lays190 : Go.Proofs.Lays.n190 Tryz.prog Tryz.lays190_ren := {
 mixed := by kernel_rfl
 f125 := Tryz.func255.trans (congrArg some (by kernel_rfl))
 f128 := Tryz.func267.trans (congrArg some (by kernel_rfl))
 f129 := Tryz.func268.trans (congrArg some (by kernel_rfl))
 f190 := Tryz.func155.trans (congrArg some (by kernel_rfl))
 f258 := Tryz.func254.trans (congrArg some (by kernel_rfl))
 f302 := Tryz.func258.trans (congrArg some (by kernel_rfl))
 f303 := Tryz.func259.trans (congrArg some (by kernel_rfl))
 f304 := Tryz.func260.trans (congrArg some (by kernel_rfl))
 f305 := Tryz.func261.trans (congrArg some (by kernel_rfl))
 f306 := Tryz.func262.trans (congrArg some (by kernel_rfl))
 f307 := Tryz.func263.trans (congrArg some (by kernel_rfl))
 f308 := Tryz.func264.trans (congrArg some (by kernel_rfl))
 f309 := Tryz.func265.trans (congrArg some (by kernel_rfl))
 f310 := Tryz.func266.trans (congrArg some (by kernel_rfl))
 f329 := Tryz.func271.trans (congrArg some (by kernel_rfl))
 f330 := Tryz.func272.trans (congrArg some (by kernel_rfl))
 f333 := Tryz.func270.trans (congrArg some (by kernel_rfl))
 f334 := Tryz.func273.trans (congrArg some (by kernel_rfl))
 f335 := Tryz.func274.trans (congrArg some (by kernel_rfl))
 f336 := Tryz.func275.trans (congrArg some (by kernel_rfl))
 f344 := Tryz.func277.trans (congrArg some (by kernel_rfl))
 t0 := Tryz.underlying0
 a0 := Tryz.isAgg0
 z0 := Tryz.sizeOf0
 v0 := Tryz.zeroValue0
 t3 := Tryz.underlying3
 a3 := Tryz.isAgg3
 z3 := Tryz.sizeOf3
 v3 := Tryz.zeroValue3
 t4 := Tryz.underlying4
 a4 := Tryz.isAgg4
 z4 := Tryz.sizeOf4
 v4 := Tryz.zeroValue4
 t5 := Tryz.underlying5
 a5 := Tryz.isAgg5
 z5 := Tryz.sizeOf5
 v5 := Tryz.zeroValue5
 t9 := Tryz.underlying9
 a9 := Tryz.isAgg9
 z9 := Tryz.sizeOf9
 v9 := Tryz.zeroValue9
 t31 := Tryz.underlying77
 a31 := Tryz.isAgg77
 z31 := Tryz.sizeOf77
 v31 := Tryz.zeroValue77
 t46 := Tryz.underlying248
 a46 := Tryz.isAgg248
 z46 := Tryz.sizeOf248
 v46 := Tryz.zeroValue248
 t51 := Tryz.underlying278
 a51 := Tryz.isAgg278
 z51 := Tryz.sizeOf278
 v51 := Tryz.zeroValue278
 t53 := Tryz.underlying280
 a53 := Tryz.isAgg280
 z53 := Tryz.sizeOf280
 v53 := Tryz.zeroValue280
 t131 := Tryz.underlying275
 a131 := Tryz.isAgg275
 z131 := Tryz.sizeOf275
 v131 := Tryz.zeroValue275
 t182 := Tryz.underlying270
 a182 := Tryz.isAgg270
 z182 := Tryz.sizeOf270
 v182 := Tryz.zeroValue270
 t183 := Tryz.underlying271
 a183 := Tryz.isAgg271
 z183 := Tryz.sizeOf271
 v183 := Tryz.zeroValue271
 t218 := Tryz.underlying282
 a218 := Tryz.isAgg282
 z218 := Tryz.sizeOf282
 v218 := Tryz.zeroValue282
 t222 := Tryz.underlying286
 a222 := Tryz.isAgg286
 z222 := Tryz.sizeOf286
 v222 := Tryz.zeroValue286
 t228 := Tryz.underlying288
 a228 := Tryz.isAgg288
 z228 := Tryz.sizeOf288
 v228 := Tryz.zeroValue288
 t229 := Tryz.underlying289
 a229 := Tryz.isAgg289
 z229 := Tryz.sizeOf289
 v229 := Tryz.zeroValue289 }
open Go.Sort Go.RowKit in
theorem Tryz.slices_Sort_string (blk off cap : Nat) (ss : List (List UInt8)) (w : World) (hH : Holds encStr w blk off ss.toArray) (hblk : blk < w.heap.size) (hsz : ss.length < 4611686018427387904) :
  Calls Tryz.prog 155 #[.slice (some ⟨blk, off, none⟩) ss.length cap] w fun e w' =>
   e = .returned (.tuple #[]) ∧ ∃ n os, w' = grow (putRow encStr (Sort.ahead w n) blk off (ss.mergeSort fun x y => decide (x ≤ y)).toArray) os := Any.slices_Sort_string Tryz.lays190 blk off cap ss w hH hblk hsz
open Go.RowKit Go.Sort in
theorem Tryz.slices_Sort_string_none (p : Option Addr) (cap : Nat) (w : World) :
  Calls Tryz.prog 155 #[.slice p 0 cap] w fun e w' => e = .returned (.tuple #[]) ∧ w' = w := Any.slices_Sort_string_none Tryz.lays190 p cap w
end Go.Proofs
