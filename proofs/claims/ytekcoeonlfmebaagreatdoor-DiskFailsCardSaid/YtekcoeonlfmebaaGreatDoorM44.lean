/- 1 texts in one: PRINTED by gen_playp.py. The play of the laws of the disk: step: one call on both. -/
import Derived.Test.YtekcoeonlfmebaaGreatDoorM41
import Derived.Test.YtekcoeonlfmebaaGreatDoorM43
namespace Go.Proofs.YtekcoeonlfmebaaGreatDoor.Kit
open Go Go.RowKit
set_option maxRecDepth 100000 in
set_option maxHeartbeats 8000000 in
theorem step_1 (W0 w : World) (g i : Nat) (D : Pairs) (Φ : Nat → Prop) (o : OpS) (h : Inv W0 g D Φ w) (hA : Alike D) (ho : o.Ok W0) (hi3 : i < 3) :
  Calls Tryz.prog 9 #[.pointer (some ⟨g, 0, none⟩), .agg (o.with i 1)] w (StepPost W0 g) := by
 unfold OpS.with
 have hmo : Tryz.prog.follows Departure.mixedOrders = true := by kernel_rfl
 have HH := Lib.hid (And.intro h (And.intro hA ho))
 have hi0 : (0 : Int) ≤ i := by omega
 have hi3' : (i : Int) < 3 := by omega
 have hi2 : decide ((2 : Int) < (i : Int)) = false := decide_eq_false (by omega)
 have hi2' : decide ((i : Int) < 0) = false := decide_eq_false (by omega)
 clear h hA ho
 go_enter Tryz.func9, Tryz.ntmps9
 go_wp2_with fail
 obtain ⟨V, hV⟩ : ∃ V, w.alloc (.cells #[.int .i64 (i : Int), .int .i64 1, .string (bstr o.name), .string (bstr o.to), .slice o.bA o.body.length o.bc, .int .i64 o.at_, .int .i64 o.n, .slice o.kA o.keep.length o.kc, .int .i64 o.cap, .slice o.fA o.files.length o.fc, .int .i64 o.fuse, .bool o.down] 61) = V := ⟨_, rfl⟩
 rw [hV]
 have nV : New w V := hV ▸ Kp.alloc _ _ _
 have bV : V.heap[w.heap.size]? = some (.cells (o.with i 1) 61 (0, 0)) := hV ▸ heap_alloc_new w _
 have HV := Lib.hid (And.intro nV (And.intro bV (HH.out.1.new nV)))
 clear hV nV bV
 refine (made_1 W0 V g i D Φ o HV.out.2.2 HH.out.2.1 HH.out.2.2 hi3).mono ?_
 rintro e w' ⟨rfl, hh⟩
 have HE := Lib.hid hh
 clear hh
 go_wp2_with fail
 go_ret
 exact ⟨rfl, HE.out⟩
set_option maxRecDepth 100000 in
set_option maxHeartbeats 8000000 in
theorem step_2 (W0 w : World) (g i : Nat) (D : Pairs) (Φ : Nat → Prop) (o : OpS) (h : Inv W0 g D Φ w) (hA : Alike D) (ho : o.Ok W0) (hi3 : i < 3) :
  Calls Tryz.prog 9 #[.pointer (some ⟨g, 0, none⟩), .agg (o.with i 2)] w (StepPost W0 g) := by
 unfold OpS.with
 have hmo : Tryz.prog.follows Departure.mixedOrders = true := by kernel_rfl
 have HH := Lib.hid (And.intro h (And.intro hA ho))
 have hi0 : (0 : Int) ≤ i := by omega
 have hi3' : (i : Int) < 3 := by omega
 have hi2 : decide ((2 : Int) < (i : Int)) = false := decide_eq_false (by omega)
 have hi2' : decide ((i : Int) < 0) = false := decide_eq_false (by omega)
 clear h hA ho
 go_enter Tryz.func9, Tryz.ntmps9
 go_wp2_with fail
 obtain ⟨V, hV⟩ : ∃ V, w.alloc (.cells #[.int .i64 (i : Int), .int .i64 2, .string (bstr o.name), .string (bstr o.to), .slice o.bA o.body.length o.bc, .int .i64 o.at_, .int .i64 o.n, .slice o.kA o.keep.length o.kc, .int .i64 o.cap, .slice o.fA o.files.length o.fc, .int .i64 o.fuse, .bool o.down] 61) = V := ⟨_, rfl⟩
 rw [hV]
 have nV : New w V := hV ▸ Kp.alloc _ _ _
 have bV : V.heap[w.heap.size]? = some (.cells (o.with i 2) 61 (0, 0)) := hV ▸ heap_alloc_new w _
 have HV := Lib.hid (And.intro nV (And.intro bV (HH.out.1.new nV)))
 clear hV nV bV
 refine (made_2 W0 V g i D Φ o HV.out.2.2 HH.out.2.1 HH.out.2.2 hi3).mono ?_
 rintro e w' ⟨rfl, hh⟩
 have HE := Lib.hid hh
 clear hh
 go_wp2_with fail
 go_ret
 exact ⟨rfl, HE.out⟩
set_option maxRecDepth 100000 in
set_option maxHeartbeats 8000000 in
theorem step_16 (W0 w : World) (g i : Nat) (D : Pairs) (Φ : Nat → Prop) (o : OpS) (h : Inv W0 g D Φ w) (hA : Alike D) (ho : o.Ok W0) (hi3 : i < 3) :
  Calls Tryz.prog 9 #[.pointer (some ⟨g, 0, none⟩), .agg (o.with i 16)] w (StepPost W0 g) := by
 unfold OpS.with
 have hmo : Tryz.prog.follows Departure.mixedOrders = true := by kernel_rfl
 have HH := Lib.hid (And.intro h (And.intro hA ho))
 have hi0 : (0 : Int) ≤ i := by omega
 have hi3' : (i : Int) < 3 := by omega
 have hi2 : decide ((2 : Int) < (i : Int)) = false := decide_eq_false (by omega)
 have hi2' : decide ((i : Int) < 0) = false := decide_eq_false (by omega)
 clear h hA ho
 go_enter Tryz.func9, Tryz.ntmps9
 go_wp2_with fail
 obtain ⟨V, hV⟩ : ∃ V, w.alloc (.cells #[.int .i64 (i : Int), .int .i64 16, .string (bstr o.name), .string (bstr o.to), .slice o.bA o.body.length o.bc, .int .i64 o.at_, .int .i64 o.n, .slice o.kA o.keep.length o.kc, .int .i64 o.cap, .slice o.fA o.files.length o.fc, .int .i64 o.fuse, .bool o.down] 61) = V := ⟨_, rfl⟩
 rw [hV]
 have nV : New w V := hV ▸ Kp.alloc _ _ _
 have bV : V.heap[w.heap.size]? = some (.cells (o.with i 16) 61 (0, 0)) := hV ▸ heap_alloc_new w _
 have HV := Lib.hid (And.intro nV (And.intro bV (HH.out.1.new nV)))
 clear hV nV bV
 refine (made_16 W0 V g i D Φ o HV.out.2.2 HH.out.2.1 HH.out.2.2 hi3).mono ?_
 rintro e w' ⟨rfl, hh⟩
 have HE := Lib.hid hh
 clear hh
 go_wp2_with fail
 go_ret
 exact ⟨rfl, HE.out⟩
set_option maxRecDepth 100000 in
set_option maxHeartbeats 8000000 in
theorem step_none (W0 w : World) (g i : Nat) (D : Pairs) (Φ : Nat → Prop) (o : OpS) (h : Inv W0 g D Φ w) (hA : Alike D) (ho : o.Ok W0) (hi3 : i < 3) (k : Int) (h3 : 3 ≤ k) (h15 : k ≤ 15) (hx : D i = none) :
  Calls Tryz.prog 9 #[.pointer (some ⟨g, 0, none⟩), .agg (o.with i k)] w (StepPost W0 g) := by
 unfold OpS.with
 have hmo : Tryz.prog.follows Departure.mixedOrders = true := by kernel_rfl
 have HH := Lib.hid (And.intro h (And.intro hA ho))
 have hi0 : (0 : Int) ≤ i := by omega
 have hi3' : (i : Int) < 3 := by omega
 have hi2 : decide ((2 : Int) < (i : Int)) = false := decide_eq_false (by omega)
 have hi2' : decide ((i : Int) < 0) = false := decide_eq_false (by omega)
 clear h hA ho
 have HX := Lib.hid hx
 clear hx
 have e1 : (k == 1) = false := by rw [beq_eq_false_iff_ne]; omega
 have n1 : ¬ k = 1 := by omega
 have e2 : (k == 2) = false := by rw [beq_eq_false_iff_ne]; omega
 have n2 : ¬ k = 2 := by omega
 have e16 : (k == 16) = false := by rw [beq_eq_false_iff_ne]; omega
 have n16 : ¬ k = 16 := by omega
 have l1 : decide (k < 1) = false := decide_eq_false (by omega)
 have l2 : decide (16 < k) = false := decide_eq_false (by omega)
 go_enter Tryz.func9, Tryz.ntmps9
 go_wp2_with fail
 obtain ⟨V, hV⟩ : ∃ V, w.alloc (.cells #[.int .i64 (i : Int), .int .i64 k, .string (bstr o.name), .string (bstr o.to), .slice o.bA o.body.length o.bc, .int .i64 o.at_, .int .i64 o.n, .slice o.kA o.keep.length o.kc, .int .i64 o.cap, .slice o.fA o.files.length o.fc, .int .i64 o.fuse, .bool o.down] 61) = V := ⟨_, rfl⟩
 rw [hV]
 have nV : New w V := hV ▸ Kp.alloc _ _ _
 have bV : V.heap[w.heap.size]? = some (.cells (o.with i k) 61 (0, 0)) := hV ▸ heap_alloc_new w _
 have HV := Lib.hid (And.intro nV (And.intro bV (HH.out.1.new nV)))
 clear hV nV bV
 have c0 : V.cell? ⟨w.heap.size, 0, none⟩ = some (.int .i64 (i : Int)) := (cell_of_block HV.out.2.1).trans rfl
 have c1 : V.cell? ⟨w.heap.size, 1, none⟩ = some (.int .i64 k) := (cell_of_block HV.out.2.1).trans rfl
 have p0 := (HV.out.2.2.dpc hi3).1
 have p1 := (HV.out.2.2.rpc hi3).1
 rw [dp_none HX.out] at p0
 rw [rp_none HX.out] at p1
 refine wp_region_line (fun w' => w'.cell? ⟨w.heap.size, 0, none⟩ = some (.int .i64 (i : Int)) ∧ w'.cell? ⟨w.heap.size, 1, none⟩ = some (.int .i64 k) ∧ w'.cell? ⟨g, i, none⟩ = some (.pointer none) ∧ w'.cell? ⟨g, 3 + i, none⟩ = some (.pointer none)) (pl := [(0, true), (1, true), (2, true), (3, true), (4, true), (5, true), (6, true), (7, true), (8, true), (9, true), (10, true), (11, true), (12, true), (13, true), (14, true), (15, true), (16, true), (17, true), (18, true), (19, true), (20, true), (21, true), (22, true), (23, true), (24, true), (25, true), (26, true), (27, true)]) hmo (by kernel_rfl) ⟨by simpa using c0, by simpa using c1, by simpa using p0, by simpa using p1⟩ ?_
 iterate 28 (first | (refine line_get rfl rfl (fun K hK => ?_); apply Exists.intro; refine ⟨fun w s => ?_, ?_⟩; (first | (have q := s rfl; go_simp; with_reducible rfl) | (go_simp; with_reducible rfl)); (go_simp; refine hK _ ?_; clear hK K)) | (refine line_past rfl rfl (fun K hK => ?_); go_simp; refine hK _ ?_; clear hK K))
 refine line_nil ?_
 clear p0 p1 c0 c1
 obtain ⟨U, hU⟩ : ∃ U, V.drew = U := ⟨_, rfl⟩
 rw [hU]
 have nU : New V U := hU ▸ Kp.drew _ _
 have HU := Lib.hid (And.intro (heap_kp' HV.out.2.1 nU id) (HV.out.2.2.new nU))
 clear hU nU
 go_wp2_with fail
 go_ret
 exact ⟨rfl, HU.out.2.same HH.out.2.1⟩
set_option maxRecDepth 100000 in
set_option maxHeartbeats 8000000 in
theorem step_c1 (W0 w : World) (g i : Nat) (D : Pairs) (Φ : Nat → Prop) (o : OpS) (h : Inv W0 g D Φ w) (hA : Alike D) (ho : o.Ok W0) (hi3 : i < 3) (k : Int) (h3 : 3 ≤ k) (h7 : k ≤ 7) (x : PD) (hx : D i = some x) (hdi : o.disk = i) (hkk : o.kind = k) :
  Calls Tryz.prog 9 #[.pointer (some ⟨g, 0, none⟩), .agg (o.with i k)] w (StepPost W0 g) := by
 unfold OpS.with
 have hmo : Tryz.prog.follows Departure.mixedOrders = true := by kernel_rfl
 have HH := Lib.hid (And.intro h (And.intro hA ho))
 have hi0 : (0 : Int) ≤ i := by omega
 have hi3' : (i : Int) < 3 := by omega
 have hi2 : decide ((2 : Int) < (i : Int)) = false := decide_eq_false (by omega)
 have hi2' : decide ((i : Int) < 0) = false := decide_eq_false (by omega)
 clear h hA ho
 have HCall := Lib.hid (show ∀ U, Inv W0 g D Φ U → Calls Tryz.prog 18 #[.pointer (some ⟨g, 0, none⟩), .agg (o.with i k)] U (StepPost W0 g) from fun U hI => by
  rw [← OpS.arr_with hdi hkk]
  exact changes_calls W0 U g i D Φ o x hI HH.out.2.1 HH.out.2.2 hi3 hx hdi (by omega))
 have HX := Lib.hid hx
 clear hx hdi hkk
 have e1 : (k == 1) = false := by rw [beq_eq_false_iff_ne]; omega
 have n1 : ¬ k = 1 := by omega
 have e2 : (k == 2) = false := by rw [beq_eq_false_iff_ne]; omega
 have n2 : ¬ k = 2 := by omega
 have e16 : (k == 16) = false := by rw [beq_eq_false_iff_ne]; omega
 have n16 : ¬ k = 16 := by omega
 have l1 : decide (k < 1) = false := decide_eq_false (by omega)
 have l2 : decide (16 < k) = false := decide_eq_false (by omega)
 have g3 : decide (3 ≤ k) = true := decide_eq_true (by omega)
 have g7 : decide (k ≤ 7) = true := decide_eq_true (by omega)
 go_enter Tryz.func9, Tryz.ntmps9
 go_wp2_with fail
 obtain ⟨V, hV⟩ : ∃ V, w.alloc (.cells #[.int .i64 (i : Int), .int .i64 k, .string (bstr o.name), .string (bstr o.to), .slice o.bA o.body.length o.bc, .int .i64 o.at_, .int .i64 o.n, .slice o.kA o.keep.length o.kc, .int .i64 o.cap, .slice o.fA o.files.length o.fc, .int .i64 o.fuse, .bool o.down] 61) = V := ⟨_, rfl⟩
 rw [hV]
 have nV : New w V := hV ▸ Kp.alloc _ _ _
 have bV : V.heap[w.heap.size]? = some (.cells (o.with i k) 61 (0, 0)) := hV ▸ heap_alloc_new w _
 have HV := Lib.hid (And.intro nV (And.intro bV (HH.out.1.new nV)))
 clear hV nV bV
 have c0 : V.cell? ⟨w.heap.size, 0, none⟩ = some (.int .i64 (i : Int)) := (cell_of_block HV.out.2.1).trans rfl
 have c1 : V.cell? ⟨w.heap.size, 1, none⟩ = some (.int .i64 k) := (cell_of_block HV.out.2.1).trans rfl
 have p0 := (HV.out.2.2.dpc hi3).1
 have p1 := (HV.out.2.2.rpc hi3).1
 rw [dp_some HX.out] at p0
 rw [rp_some HX.out] at p1
 refine wp_region_line (fun w' => w'.cell? ⟨w.heap.size, 0, none⟩ = some (.int .i64 (i : Int)) ∧ w'.cell? ⟨w.heap.size, 1, none⟩ = some (.int .i64 k) ∧ w'.cell? ⟨g, i, none⟩ = some (.pointer (some ⟨x.d, 0, none⟩)) ∧ w'.cell? ⟨g, 3 + i, none⟩ = some (.pointer (some ⟨x.r, 0, none⟩))) (pl := [(0, true), (1, true), (2, true), (3, true), (4, true), (5, true), (6, true), (7, true), (8, true), (9, true), (10, true), (11, true), (12, true), (13, true), (14, true), (15, true), (16, true), (17, true), (18, true), (19, true), (20, true), (21, true), (22, true), (23, true), (24, true), (25, true), (26, true), (27, true)]) hmo (by kernel_rfl) ⟨by simpa using c0, by simpa using c1, by simpa using p0, by simpa using p1⟩ ?_
 iterate 28 (first | (refine line_get rfl rfl (fun K hK => ?_); apply Exists.intro; refine ⟨fun w s => ?_, ?_⟩; (first | (have q := s rfl; go_simp; with_reducible rfl) | (go_simp; with_reducible rfl)); (go_simp; refine hK _ ?_; clear hK K)) | (refine line_past rfl rfl (fun K hK => ?_); go_simp; refine hK _ ?_; clear hK K))
 refine line_nil ?_
 clear p0 p1 c0 c1
 obtain ⟨U, hU⟩ : ∃ U, V.drew = U := ⟨_, rfl⟩
 rw [hU]
 have nU : New V U := hU ▸ Kp.drew _ _
 have HU := Lib.hid (And.intro (heap_kp' HV.out.2.1 nU id) (HV.out.2.2.new nU))
 clear hU nU
 have c0 : U.cell? ⟨w.heap.size, 0, none⟩ = some (.int .i64 (i : Int)) := (cell_of_block HU.out.1).trans rfl
 have c1 : U.cell? ⟨w.heap.size, 1, none⟩ = some (.int .i64 k) := (cell_of_block HU.out.1).trans rfl
 have c2 : U.cell? ⟨w.heap.size, 2, none⟩ = some (.string (bstr o.name)) := (cell_of_block HU.out.1).trans rfl
 have c3 : U.cell? ⟨w.heap.size, 3, none⟩ = some (.string (bstr o.to)) := (cell_of_block HU.out.1).trans rfl
 have c4 : U.cell? ⟨w.heap.size, 4, none⟩ = some (.slice o.bA o.body.length o.bc) := (cell_of_block HU.out.1).trans rfl
 have c5 : U.cell? ⟨w.heap.size, 5, none⟩ = some (.int .i64 o.at_) := (cell_of_block HU.out.1).trans rfl
 have c6 : U.cell? ⟨w.heap.size, 6, none⟩ = some (.int .i64 o.n) := (cell_of_block HU.out.1).trans rfl
 have c7 : U.cell? ⟨w.heap.size, 7, none⟩ = some (.slice o.kA o.keep.length o.kc) := (cell_of_block HU.out.1).trans rfl
 have c8 : U.cell? ⟨w.heap.size, 8, none⟩ = some (.int .i64 o.cap) := (cell_of_block HU.out.1).trans rfl
 have c9 : U.cell? ⟨w.heap.size, 9, none⟩ = some (.slice o.fA o.files.length o.fc) := (cell_of_block HU.out.1).trans rfl
 have c10 : U.cell? ⟨w.heap.size, 10, none⟩ = some (.int .i64 o.fuse) := (cell_of_block HU.out.1).trans rfl
 have c11 : U.cell? ⟨w.heap.size, 11, none⟩ = some (.bool o.down) := (cell_of_block HU.out.1).trans rfl
 go_wp2_with fail
 clear c0 c1 c2 c3 c4 c5 c6 c7 c8 c9 c10 c11
 refine (HCall.out U HU.out.2).mono ?_
 rintro e w' ⟨rfl, hh⟩
 have HE := Lib.hid hh
 clear hh
 go_wp2_with fail
 go_ret
 exact ⟨rfl, HE.out⟩
set_option maxRecDepth 100000 in
set_option maxHeartbeats 8000000 in
theorem step_l1 (W0 w : World) (g i : Nat) (D : Pairs) (Φ : Nat → Prop) (o : OpS) (h : Inv W0 g D Φ w) (hA : Alike D) (ho : o.Ok W0) (hi3 : i < 3) (k : Int) (h3 : 8 ≤ k) (h7 : k ≤ 11) (x : PD) (hx : D i = some x) (hdi : o.disk = i) (hkk : o.kind = k) :
  Calls Tryz.prog 9 #[.pointer (some ⟨g, 0, none⟩), .agg (o.with i k)] w (StepPost W0 g) := by
 unfold OpS.with
 have hmo : Tryz.prog.follows Departure.mixedOrders = true := by kernel_rfl
 have HH := Lib.hid (And.intro h (And.intro hA ho))
 have hi0 : (0 : Int) ≤ i := by omega
 have hi3' : (i : Int) < 3 := by omega
 have hi2 : decide ((2 : Int) < (i : Int)) = false := decide_eq_false (by omega)
 have hi2' : decide ((i : Int) < 0) = false := decide_eq_false (by omega)
 clear h hA ho
 have HCall := Lib.hid (show ∀ U, Inv W0 g D Φ U → Calls Tryz.prog 19 #[.pointer (some ⟨g, 0, none⟩), .agg (o.with i k)] U (StepPost W0 g) from fun U hI => by
  rw [← OpS.arr_with hdi hkk]
  exact looks_calls W0 U g i D Φ o x hI HH.out.2.1 HH.out.2.2 hi3 hx hdi (by omega))
 have HX := Lib.hid hx
 clear hx hdi hkk
 have e1 : (k == 1) = false := by rw [beq_eq_false_iff_ne]; omega
 have n1 : ¬ k = 1 := by omega
 have e2 : (k == 2) = false := by rw [beq_eq_false_iff_ne]; omega
 have n2 : ¬ k = 2 := by omega
 have e12 : (k == 12) = false := by rw [beq_eq_false_iff_ne]; omega
 have n12 : ¬ k = 12 := by omega
 have e14 : (k == 14) = false := by rw [beq_eq_false_iff_ne]; omega
 have n14 : ¬ k = 14 := by omega
 have e16 : (k == 16) = false := by rw [beq_eq_false_iff_ne]; omega
 have n16 : ¬ k = 16 := by omega
 have l1 : decide (k < 1) = false := decide_eq_false (by omega)
 have l2 : decide (16 < k) = false := decide_eq_false (by omega)
 have g3 : decide (3 ≤ k) = true := decide_eq_true (by omega)
 have g7 : decide (k ≤ 7) = false := decide_eq_false (by omega)
 go_enter Tryz.func9, Tryz.ntmps9
 go_wp2_with fail
 obtain ⟨V, hV⟩ : ∃ V, w.alloc (.cells #[.int .i64 (i : Int), .int .i64 k, .string (bstr o.name), .string (bstr o.to), .slice o.bA o.body.length o.bc, .int .i64 o.at_, .int .i64 o.n, .slice o.kA o.keep.length o.kc, .int .i64 o.cap, .slice o.fA o.files.length o.fc, .int .i64 o.fuse, .bool o.down] 61) = V := ⟨_, rfl⟩
 rw [hV]
 have nV : New w V := hV ▸ Kp.alloc _ _ _
 have bV : V.heap[w.heap.size]? = some (.cells (o.with i k) 61 (0, 0)) := hV ▸ heap_alloc_new w _
 have HV := Lib.hid (And.intro nV (And.intro bV (HH.out.1.new nV)))
 clear hV nV bV
 have c0 : V.cell? ⟨w.heap.size, 0, none⟩ = some (.int .i64 (i : Int)) := (cell_of_block HV.out.2.1).trans rfl
 have c1 : V.cell? ⟨w.heap.size, 1, none⟩ = some (.int .i64 k) := (cell_of_block HV.out.2.1).trans rfl
 have p0 := (HV.out.2.2.dpc hi3).1
 have p1 := (HV.out.2.2.rpc hi3).1
 rw [dp_some HX.out] at p0
 rw [rp_some HX.out] at p1
 refine wp_region_line (fun w' => w'.cell? ⟨w.heap.size, 0, none⟩ = some (.int .i64 (i : Int)) ∧ w'.cell? ⟨w.heap.size, 1, none⟩ = some (.int .i64 k) ∧ w'.cell? ⟨g, i, none⟩ = some (.pointer (some ⟨x.d, 0, none⟩)) ∧ w'.cell? ⟨g, 3 + i, none⟩ = some (.pointer (some ⟨x.r, 0, none⟩))) (pl := [(0, true), (1, true), (2, true), (3, true), (4, true), (5, true), (6, true), (7, true), (8, true), (9, true), (10, true), (11, true), (12, true), (13, true), (14, true), (15, true), (16, true), (17, true), (18, true), (19, true), (20, true), (21, true), (22, true), (23, true), (24, true), (25, true), (26, true), (27, true)]) hmo (by kernel_rfl) ⟨by simpa using c0, by simpa using c1, by simpa using p0, by simpa using p1⟩ ?_
 iterate 28 (first | (refine line_get rfl rfl (fun K hK => ?_); apply Exists.intro; refine ⟨fun w s => ?_, ?_⟩; (first | (have q := s rfl; go_simp; with_reducible rfl) | (go_simp; with_reducible rfl)); (go_simp; refine hK _ ?_; clear hK K)) | (refine line_past rfl rfl (fun K hK => ?_); go_simp; refine hK _ ?_; clear hK K))
 refine line_nil ?_
 clear p0 p1 c0 c1
 obtain ⟨U, hU⟩ : ∃ U, V.drew = U := ⟨_, rfl⟩
 rw [hU]
 have nU : New V U := hU ▸ Kp.drew _ _
 have HU := Lib.hid (And.intro (heap_kp' HV.out.2.1 nU id) (HV.out.2.2.new nU))
 clear hU nU
 have c0 : U.cell? ⟨w.heap.size, 0, none⟩ = some (.int .i64 (i : Int)) := (cell_of_block HU.out.1).trans rfl
 have c1 : U.cell? ⟨w.heap.size, 1, none⟩ = some (.int .i64 k) := (cell_of_block HU.out.1).trans rfl
 have c2 : U.cell? ⟨w.heap.size, 2, none⟩ = some (.string (bstr o.name)) := (cell_of_block HU.out.1).trans rfl
 have c3 : U.cell? ⟨w.heap.size, 3, none⟩ = some (.string (bstr o.to)) := (cell_of_block HU.out.1).trans rfl
 have c4 : U.cell? ⟨w.heap.size, 4, none⟩ = some (.slice o.bA o.body.length o.bc) := (cell_of_block HU.out.1).trans rfl
 have c5 : U.cell? ⟨w.heap.size, 5, none⟩ = some (.int .i64 o.at_) := (cell_of_block HU.out.1).trans rfl
 have c6 : U.cell? ⟨w.heap.size, 6, none⟩ = some (.int .i64 o.n) := (cell_of_block HU.out.1).trans rfl
 have c7 : U.cell? ⟨w.heap.size, 7, none⟩ = some (.slice o.kA o.keep.length o.kc) := (cell_of_block HU.out.1).trans rfl
 have c8 : U.cell? ⟨w.heap.size, 8, none⟩ = some (.int .i64 o.cap) := (cell_of_block HU.out.1).trans rfl
 have c9 : U.cell? ⟨w.heap.size, 9, none⟩ = some (.slice o.fA o.files.length o.fc) := (cell_of_block HU.out.1).trans rfl
 have c10 : U.cell? ⟨w.heap.size, 10, none⟩ = some (.int .i64 o.fuse) := (cell_of_block HU.out.1).trans rfl
 have c11 : U.cell? ⟨w.heap.size, 11, none⟩ = some (.bool o.down) := (cell_of_block HU.out.1).trans rfl
 go_wp2_with fail
 clear c0 c1 c2 c3 c4 c5 c6 c7 c8 c9 c10 c11
 refine (HCall.out U HU.out.2).mono ?_
 rintro e w' ⟨rfl, hh⟩
 have HE := Lib.hid hh
 clear hh
 go_wp2_with fail
 go_ret
 exact ⟨rfl, HE.out⟩
set_option maxRecDepth 100000 in
set_option maxHeartbeats 8000000 in
theorem step_12 (W0 w : World) (g i : Nat) (D : Pairs) (Φ : Nat → Prop) (o : OpS) (h : Inv W0 g D Φ w) (hA : Alike D) (ho : o.Ok W0) (hi3 : i < 3) (x : PD) (hx : D i = some x) (hdi : o.disk = i) (hkk : o.kind = 12) :
  Calls Tryz.prog 9 #[.pointer (some ⟨g, 0, none⟩), .agg (o.with i 12)] w (StepPost W0 g) := by
 unfold OpS.with
 have hmo : Tryz.prog.follows Departure.mixedOrders = true := by kernel_rfl
 have HH := Lib.hid (And.intro h (And.intro hA ho))
 have hi0 : (0 : Int) ≤ i := by omega
 have hi3' : (i : Int) < 3 := by omega
 have hi2 : decide ((2 : Int) < (i : Int)) = false := decide_eq_false (by omega)
 have hi2' : decide ((i : Int) < 0) = false := decide_eq_false (by omega)
 clear h hA ho
 have HCall := Lib.hid (show ∀ U, Inv W0 g D Φ U → Calls Tryz.prog 18 #[.pointer (some ⟨g, 0, none⟩), .agg (o.with i 12)] U (StepPost W0 g) from fun U hI => by
  rw [← OpS.arr_with hdi hkk]
  exact changes_calls W0 U g i D Φ o x hI HH.out.2.1 HH.out.2.2 hi3 hx hdi (by omega))
 have HX := Lib.hid hx
 clear hx hdi hkk
 go_enter Tryz.func9, Tryz.ntmps9
 go_wp2_with fail
 obtain ⟨V, hV⟩ : ∃ V, w.alloc (.cells #[.int .i64 (i : Int), .int .i64 12, .string (bstr o.name), .string (bstr o.to), .slice o.bA o.body.length o.bc, .int .i64 o.at_, .int .i64 o.n, .slice o.kA o.keep.length o.kc, .int .i64 o.cap, .slice o.fA o.files.length o.fc, .int .i64 o.fuse, .bool o.down] 61) = V := ⟨_, rfl⟩
 rw [hV]
 have nV : New w V := hV ▸ Kp.alloc _ _ _
 have bV : V.heap[w.heap.size]? = some (.cells (o.with i 12) 61 (0, 0)) := hV ▸ heap_alloc_new w _
 have HV := Lib.hid (And.intro nV (And.intro bV (HH.out.1.new nV)))
 clear hV nV bV
 have c0 : V.cell? ⟨w.heap.size, 0, none⟩ = some (.int .i64 (i : Int)) := (cell_of_block HV.out.2.1).trans rfl
 have c1 : V.cell? ⟨w.heap.size, 1, none⟩ = some (.int .i64 12) := (cell_of_block HV.out.2.1).trans rfl
 have p0 := (HV.out.2.2.dpc hi3).1
 have p1 := (HV.out.2.2.rpc hi3).1
 rw [dp_some HX.out] at p0
 rw [rp_some HX.out] at p1
 refine wp_region_line (fun w' => w'.cell? ⟨w.heap.size, 0, none⟩ = some (.int .i64 (i : Int)) ∧ w'.cell? ⟨w.heap.size, 1, none⟩ = some (.int .i64 12) ∧ w'.cell? ⟨g, i, none⟩ = some (.pointer (some ⟨x.d, 0, none⟩)) ∧ w'.cell? ⟨g, 3 + i, none⟩ = some (.pointer (some ⟨x.r, 0, none⟩))) (pl := [(0, true), (1, true), (2, true), (3, true), (4, true), (5, true), (6, true), (7, true), (8, true), (9, true), (10, true), (11, true), (12, true), (13, true), (14, true), (15, true), (16, true), (17, true), (18, true), (19, true), (20, true), (21, true), (22, true), (23, true), (24, true), (25, true), (26, true), (27, true)]) hmo (by kernel_rfl) ⟨by simpa using c0, by simpa using c1, by simpa using p0, by simpa using p1⟩ ?_
 iterate 28 (first | (refine line_get rfl rfl (fun K hK => ?_); apply Exists.intro; refine ⟨fun w s => ?_, ?_⟩; (first | (have q := s rfl; go_simp; with_reducible rfl) | (go_simp; with_reducible rfl)); (go_simp; refine hK _ ?_; clear hK K)) | (refine line_past rfl rfl (fun K hK => ?_); go_simp; refine hK _ ?_; clear hK K))
 refine line_nil ?_
 clear p0 p1 c0 c1
 obtain ⟨U, hU⟩ : ∃ U, V.drew = U := ⟨_, rfl⟩
 rw [hU]
 have nU : New V U := hU ▸ Kp.drew _ _
 have HU := Lib.hid (And.intro (heap_kp' HV.out.2.1 nU id) (HV.out.2.2.new nU))
 clear hU nU
 have c0 : U.cell? ⟨w.heap.size, 0, none⟩ = some (.int .i64 (i : Int)) := (cell_of_block HU.out.1).trans rfl
 have c1 : U.cell? ⟨w.heap.size, 1, none⟩ = some (.int .i64 12) := (cell_of_block HU.out.1).trans rfl
 have c2 : U.cell? ⟨w.heap.size, 2, none⟩ = some (.string (bstr o.name)) := (cell_of_block HU.out.1).trans rfl
 have c3 : U.cell? ⟨w.heap.size, 3, none⟩ = some (.string (bstr o.to)) := (cell_of_block HU.out.1).trans rfl
 have c4 : U.cell? ⟨w.heap.size, 4, none⟩ = some (.slice o.bA o.body.length o.bc) := (cell_of_block HU.out.1).trans rfl
 have c5 : U.cell? ⟨w.heap.size, 5, none⟩ = some (.int .i64 o.at_) := (cell_of_block HU.out.1).trans rfl
 have c6 : U.cell? ⟨w.heap.size, 6, none⟩ = some (.int .i64 o.n) := (cell_of_block HU.out.1).trans rfl
 have c7 : U.cell? ⟨w.heap.size, 7, none⟩ = some (.slice o.kA o.keep.length o.kc) := (cell_of_block HU.out.1).trans rfl
 have c8 : U.cell? ⟨w.heap.size, 8, none⟩ = some (.int .i64 o.cap) := (cell_of_block HU.out.1).trans rfl
 have c9 : U.cell? ⟨w.heap.size, 9, none⟩ = some (.slice o.fA o.files.length o.fc) := (cell_of_block HU.out.1).trans rfl
 have c10 : U.cell? ⟨w.heap.size, 10, none⟩ = some (.int .i64 o.fuse) := (cell_of_block HU.out.1).trans rfl
 have c11 : U.cell? ⟨w.heap.size, 11, none⟩ = some (.bool o.down) := (cell_of_block HU.out.1).trans rfl
 go_wp2_with fail
 clear c0 c1 c2 c3 c4 c5 c6 c7 c8 c9 c10 c11
 refine (HCall.out U HU.out.2).mono ?_
 rintro e w' ⟨rfl, hh⟩
 have HE := Lib.hid hh
 clear hh
 go_wp2_with fail
 go_ret
 exact ⟨rfl, HE.out⟩
set_option maxRecDepth 100000 in
set_option maxHeartbeats 8000000 in
theorem step_14 (W0 w : World) (g i : Nat) (D : Pairs) (Φ : Nat → Prop) (o : OpS) (h : Inv W0 g D Φ w) (hA : Alike D) (ho : o.Ok W0) (hi3 : i < 3) (x : PD) (hx : D i = some x) (hdi : o.disk = i) (hkk : o.kind = 14) :
  Calls Tryz.prog 9 #[.pointer (some ⟨g, 0, none⟩), .agg (o.with i 14)] w (StepPost W0 g) := by
 unfold OpS.with
 have hmo : Tryz.prog.follows Departure.mixedOrders = true := by kernel_rfl
 have HH := Lib.hid (And.intro h (And.intro hA ho))
 have hi0 : (0 : Int) ≤ i := by omega
 have hi3' : (i : Int) < 3 := by omega
 have hi2 : decide ((2 : Int) < (i : Int)) = false := decide_eq_false (by omega)
 have hi2' : decide ((i : Int) < 0) = false := decide_eq_false (by omega)
 clear h hA ho
 have HCall := Lib.hid (show ∀ U, Inv W0 g D Φ U → Calls Tryz.prog 18 #[.pointer (some ⟨g, 0, none⟩), .agg (o.with i 14)] U (StepPost W0 g) from fun U hI => by
  rw [← OpS.arr_with hdi hkk]
  exact changes_calls W0 U g i D Φ o x hI HH.out.2.1 HH.out.2.2 hi3 hx hdi (by omega))
 have HX := Lib.hid hx
 clear hx hdi hkk
 go_enter Tryz.func9, Tryz.ntmps9
 go_wp2_with fail
 obtain ⟨V, hV⟩ : ∃ V, w.alloc (.cells #[.int .i64 (i : Int), .int .i64 14, .string (bstr o.name), .string (bstr o.to), .slice o.bA o.body.length o.bc, .int .i64 o.at_, .int .i64 o.n, .slice o.kA o.keep.length o.kc, .int .i64 o.cap, .slice o.fA o.files.length o.fc, .int .i64 o.fuse, .bool o.down] 61) = V := ⟨_, rfl⟩
 rw [hV]
 have nV : New w V := hV ▸ Kp.alloc _ _ _
 have bV : V.heap[w.heap.size]? = some (.cells (o.with i 14) 61 (0, 0)) := hV ▸ heap_alloc_new w _
 have HV := Lib.hid (And.intro nV (And.intro bV (HH.out.1.new nV)))
 clear hV nV bV
 have c0 : V.cell? ⟨w.heap.size, 0, none⟩ = some (.int .i64 (i : Int)) := (cell_of_block HV.out.2.1).trans rfl
 have c1 : V.cell? ⟨w.heap.size, 1, none⟩ = some (.int .i64 14) := (cell_of_block HV.out.2.1).trans rfl
 have p0 := (HV.out.2.2.dpc hi3).1
 have p1 := (HV.out.2.2.rpc hi3).1
 rw [dp_some HX.out] at p0
 rw [rp_some HX.out] at p1
 refine wp_region_line (fun w' => w'.cell? ⟨w.heap.size, 0, none⟩ = some (.int .i64 (i : Int)) ∧ w'.cell? ⟨w.heap.size, 1, none⟩ = some (.int .i64 14) ∧ w'.cell? ⟨g, i, none⟩ = some (.pointer (some ⟨x.d, 0, none⟩)) ∧ w'.cell? ⟨g, 3 + i, none⟩ = some (.pointer (some ⟨x.r, 0, none⟩))) (pl := [(0, true), (1, true), (2, true), (3, true), (4, true), (5, true), (6, true), (7, true), (8, true), (9, true), (10, true), (11, true), (12, true), (13, true), (14, true), (15, true), (16, true), (17, true), (18, true), (19, true), (20, true), (21, true), (22, true), (23, true), (24, true), (25, true), (26, true), (27, true)]) hmo (by kernel_rfl) ⟨by simpa using c0, by simpa using c1, by simpa using p0, by simpa using p1⟩ ?_
 iterate 28 (first | (refine line_get rfl rfl (fun K hK => ?_); apply Exists.intro; refine ⟨fun w s => ?_, ?_⟩; (first | (have q := s rfl; go_simp; with_reducible rfl) | (go_simp; with_reducible rfl)); (go_simp; refine hK _ ?_; clear hK K)) | (refine line_past rfl rfl (fun K hK => ?_); go_simp; refine hK _ ?_; clear hK K))
 refine line_nil ?_
 clear p0 p1 c0 c1
 obtain ⟨U, hU⟩ : ∃ U, V.drew = U := ⟨_, rfl⟩
 rw [hU]
 have nU : New V U := hU ▸ Kp.drew _ _
 have HU := Lib.hid (And.intro (heap_kp' HV.out.2.1 nU id) (HV.out.2.2.new nU))
 clear hU nU
 have c0 : U.cell? ⟨w.heap.size, 0, none⟩ = some (.int .i64 (i : Int)) := (cell_of_block HU.out.1).trans rfl
 have c1 : U.cell? ⟨w.heap.size, 1, none⟩ = some (.int .i64 14) := (cell_of_block HU.out.1).trans rfl
 have c2 : U.cell? ⟨w.heap.size, 2, none⟩ = some (.string (bstr o.name)) := (cell_of_block HU.out.1).trans rfl
 have c3 : U.cell? ⟨w.heap.size, 3, none⟩ = some (.string (bstr o.to)) := (cell_of_block HU.out.1).trans rfl
 have c4 : U.cell? ⟨w.heap.size, 4, none⟩ = some (.slice o.bA o.body.length o.bc) := (cell_of_block HU.out.1).trans rfl
 have c5 : U.cell? ⟨w.heap.size, 5, none⟩ = some (.int .i64 o.at_) := (cell_of_block HU.out.1).trans rfl
 have c6 : U.cell? ⟨w.heap.size, 6, none⟩ = some (.int .i64 o.n) := (cell_of_block HU.out.1).trans rfl
 have c7 : U.cell? ⟨w.heap.size, 7, none⟩ = some (.slice o.kA o.keep.length o.kc) := (cell_of_block HU.out.1).trans rfl
 have c8 : U.cell? ⟨w.heap.size, 8, none⟩ = some (.int .i64 o.cap) := (cell_of_block HU.out.1).trans rfl
 have c9 : U.cell? ⟨w.heap.size, 9, none⟩ = some (.slice o.fA o.files.length o.fc) := (cell_of_block HU.out.1).trans rfl
 have c10 : U.cell? ⟨w.heap.size, 10, none⟩ = some (.int .i64 o.fuse) := (cell_of_block HU.out.1).trans rfl
 have c11 : U.cell? ⟨w.heap.size, 11, none⟩ = some (.bool o.down) := (cell_of_block HU.out.1).trans rfl
 go_wp2_with fail
 clear c0 c1 c2 c3 c4 c5 c6 c7 c8 c9 c10 c11
 refine (HCall.out U HU.out.2).mono ?_
 rintro e w' ⟨rfl, hh⟩
 have HE := Lib.hid hh
 clear hh
 go_wp2_with fail
 go_ret
 exact ⟨rfl, HE.out⟩
set_option maxRecDepth 100000 in
set_option maxHeartbeats 8000000 in
theorem step_13 (W0 w : World) (g i : Nat) (D : Pairs) (Φ : Nat → Prop) (o : OpS) (h : Inv W0 g D Φ w) (hA : Alike D) (ho : o.Ok W0) (hi3 : i < 3) (x : PD) (hx : D i = some x) (hdi : o.disk = i) (hkk : o.kind = 13) :
  Calls Tryz.prog 9 #[.pointer (some ⟨g, 0, none⟩), .agg (o.with i 13)] w (StepPost W0 g) := by
 unfold OpS.with
 have hmo : Tryz.prog.follows Departure.mixedOrders = true := by kernel_rfl
 have HH := Lib.hid (And.intro h (And.intro hA ho))
 have hi0 : (0 : Int) ≤ i := by omega
 have hi3' : (i : Int) < 3 := by omega
 have hi2 : decide ((2 : Int) < (i : Int)) = false := decide_eq_false (by omega)
 have hi2' : decide ((i : Int) < 0) = false := decide_eq_false (by omega)
 clear h hA ho
 have HCall := Lib.hid (show ∀ U, Inv W0 g D Φ U → Calls Tryz.prog 19 #[.pointer (some ⟨g, 0, none⟩), .agg (o.with i 13)] U (StepPost W0 g) from fun U hI => by
  rw [← OpS.arr_with hdi hkk]
  exact looks_calls W0 U g i D Φ o x hI HH.out.2.1 HH.out.2.2 hi3 hx hdi (by omega))
 have HX := Lib.hid hx
 clear hx hdi hkk
 go_enter Tryz.func9, Tryz.ntmps9
 go_wp2_with fail
 obtain ⟨V, hV⟩ : ∃ V, w.alloc (.cells #[.int .i64 (i : Int), .int .i64 13, .string (bstr o.name), .string (bstr o.to), .slice o.bA o.body.length o.bc, .int .i64 o.at_, .int .i64 o.n, .slice o.kA o.keep.length o.kc, .int .i64 o.cap, .slice o.fA o.files.length o.fc, .int .i64 o.fuse, .bool o.down] 61) = V := ⟨_, rfl⟩
 rw [hV]
 have nV : New w V := hV ▸ Kp.alloc _ _ _
 have bV : V.heap[w.heap.size]? = some (.cells (o.with i 13) 61 (0, 0)) := hV ▸ heap_alloc_new w _
 have HV := Lib.hid (And.intro nV (And.intro bV (HH.out.1.new nV)))
 clear hV nV bV
 have c0 : V.cell? ⟨w.heap.size, 0, none⟩ = some (.int .i64 (i : Int)) := (cell_of_block HV.out.2.1).trans rfl
 have c1 : V.cell? ⟨w.heap.size, 1, none⟩ = some (.int .i64 13) := (cell_of_block HV.out.2.1).trans rfl
 have p0 := (HV.out.2.2.dpc hi3).1
 have p1 := (HV.out.2.2.rpc hi3).1
 rw [dp_some HX.out] at p0
 rw [rp_some HX.out] at p1
 refine wp_region_line (fun w' => w'.cell? ⟨w.heap.size, 0, none⟩ = some (.int .i64 (i : Int)) ∧ w'.cell? ⟨w.heap.size, 1, none⟩ = some (.int .i64 13) ∧ w'.cell? ⟨g, i, none⟩ = some (.pointer (some ⟨x.d, 0, none⟩)) ∧ w'.cell? ⟨g, 3 + i, none⟩ = some (.pointer (some ⟨x.r, 0, none⟩))) (pl := [(0, true), (1, true), (2, true), (3, true), (4, true), (5, true), (6, true), (7, true), (8, true), (9, true), (10, true), (11, true), (12, true), (13, true), (14, true), (15, true), (16, true), (17, true), (18, true), (19, true), (20, true), (21, true), (22, true), (23, true), (24, true), (25, true), (26, true), (27, true)]) hmo (by kernel_rfl) ⟨by simpa using c0, by simpa using c1, by simpa using p0, by simpa using p1⟩ ?_
 iterate 28 (first | (refine line_get rfl rfl (fun K hK => ?_); apply Exists.intro; refine ⟨fun w s => ?_, ?_⟩; (first | (have q := s rfl; go_simp; with_reducible rfl) | (go_simp; with_reducible rfl)); (go_simp; refine hK _ ?_; clear hK K)) | (refine line_past rfl rfl (fun K hK => ?_); go_simp; refine hK _ ?_; clear hK K))
 refine line_nil ?_
 clear p0 p1 c0 c1
 obtain ⟨U, hU⟩ : ∃ U, V.drew = U := ⟨_, rfl⟩
 rw [hU]
 have nU : New V U := hU ▸ Kp.drew _ _
 have HU := Lib.hid (And.intro (heap_kp' HV.out.2.1 nU id) (HV.out.2.2.new nU))
 clear hU nU
 have c0 : U.cell? ⟨w.heap.size, 0, none⟩ = some (.int .i64 (i : Int)) := (cell_of_block HU.out.1).trans rfl
 have c1 : U.cell? ⟨w.heap.size, 1, none⟩ = some (.int .i64 13) := (cell_of_block HU.out.1).trans rfl
 have c2 : U.cell? ⟨w.heap.size, 2, none⟩ = some (.string (bstr o.name)) := (cell_of_block HU.out.1).trans rfl
 have c3 : U.cell? ⟨w.heap.size, 3, none⟩ = some (.string (bstr o.to)) := (cell_of_block HU.out.1).trans rfl
 have c4 : U.cell? ⟨w.heap.size, 4, none⟩ = some (.slice o.bA o.body.length o.bc) := (cell_of_block HU.out.1).trans rfl
 have c5 : U.cell? ⟨w.heap.size, 5, none⟩ = some (.int .i64 o.at_) := (cell_of_block HU.out.1).trans rfl
 have c6 : U.cell? ⟨w.heap.size, 6, none⟩ = some (.int .i64 o.n) := (cell_of_block HU.out.1).trans rfl
 have c7 : U.cell? ⟨w.heap.size, 7, none⟩ = some (.slice o.kA o.keep.length o.kc) := (cell_of_block HU.out.1).trans rfl
 have c8 : U.cell? ⟨w.heap.size, 8, none⟩ = some (.int .i64 o.cap) := (cell_of_block HU.out.1).trans rfl
 have c9 : U.cell? ⟨w.heap.size, 9, none⟩ = some (.slice o.fA o.files.length o.fc) := (cell_of_block HU.out.1).trans rfl
 have c10 : U.cell? ⟨w.heap.size, 10, none⟩ = some (.int .i64 o.fuse) := (cell_of_block HU.out.1).trans rfl
 have c11 : U.cell? ⟨w.heap.size, 11, none⟩ = some (.bool o.down) := (cell_of_block HU.out.1).trans rfl
 go_wp2_with fail
 clear c0 c1 c2 c3 c4 c5 c6 c7 c8 c9 c10 c11
 refine (HCall.out U HU.out.2).mono ?_
 rintro e w' ⟨rfl, hh⟩
 have HE := Lib.hid hh
 clear hh
 go_wp2_with fail
 go_ret
 exact ⟨rfl, HE.out⟩
set_option maxRecDepth 100000 in
set_option maxHeartbeats 8000000 in
theorem step_15 (W0 w : World) (g i : Nat) (D : Pairs) (Φ : Nat → Prop) (o : OpS) (h : Inv W0 g D Φ w) (hA : Alike D) (ho : o.Ok W0) (hi3 : i < 3) (x : PD) (hx : D i = some x) (hdi : o.disk = i) (hkk : o.kind = 15) :
  Calls Tryz.prog 9 #[.pointer (some ⟨g, 0, none⟩), .agg (o.with i 15)] w (StepPost W0 g) := by
 unfold OpS.with
 have hmo : Tryz.prog.follows Departure.mixedOrders = true := by kernel_rfl
 have HH := Lib.hid (And.intro h (And.intro hA ho))
 have hi0 : (0 : Int) ≤ i := by omega
 have hi3' : (i : Int) < 3 := by omega
 have hi2 : decide ((2 : Int) < (i : Int)) = false := decide_eq_false (by omega)
 have hi2' : decide ((i : Int) < 0) = false := decide_eq_false (by omega)
 clear h hA ho
 have HCall := Lib.hid (show ∀ U, Inv W0 g D Φ U → Calls Tryz.prog 19 #[.pointer (some ⟨g, 0, none⟩), .agg (o.with i 15)] U (StepPost W0 g) from fun U hI => by
  rw [← OpS.arr_with hdi hkk]
  exact looks_calls W0 U g i D Φ o x hI HH.out.2.1 HH.out.2.2 hi3 hx hdi (by omega))
 have HX := Lib.hid hx
 clear hx hdi hkk
 go_enter Tryz.func9, Tryz.ntmps9
 go_wp2_with fail
 obtain ⟨V, hV⟩ : ∃ V, w.alloc (.cells #[.int .i64 (i : Int), .int .i64 15, .string (bstr o.name), .string (bstr o.to), .slice o.bA o.body.length o.bc, .int .i64 o.at_, .int .i64 o.n, .slice o.kA o.keep.length o.kc, .int .i64 o.cap, .slice o.fA o.files.length o.fc, .int .i64 o.fuse, .bool o.down] 61) = V := ⟨_, rfl⟩
 rw [hV]
 have nV : New w V := hV ▸ Kp.alloc _ _ _
 have bV : V.heap[w.heap.size]? = some (.cells (o.with i 15) 61 (0, 0)) := hV ▸ heap_alloc_new w _
 have HV := Lib.hid (And.intro nV (And.intro bV (HH.out.1.new nV)))
 clear hV nV bV
 have c0 : V.cell? ⟨w.heap.size, 0, none⟩ = some (.int .i64 (i : Int)) := (cell_of_block HV.out.2.1).trans rfl
 have c1 : V.cell? ⟨w.heap.size, 1, none⟩ = some (.int .i64 15) := (cell_of_block HV.out.2.1).trans rfl
 have p0 := (HV.out.2.2.dpc hi3).1
 have p1 := (HV.out.2.2.rpc hi3).1
 rw [dp_some HX.out] at p0
 rw [rp_some HX.out] at p1
 refine wp_region_line (fun w' => w'.cell? ⟨w.heap.size, 0, none⟩ = some (.int .i64 (i : Int)) ∧ w'.cell? ⟨w.heap.size, 1, none⟩ = some (.int .i64 15) ∧ w'.cell? ⟨g, i, none⟩ = some (.pointer (some ⟨x.d, 0, none⟩)) ∧ w'.cell? ⟨g, 3 + i, none⟩ = some (.pointer (some ⟨x.r, 0, none⟩))) (pl := [(0, true), (1, true), (2, true), (3, true), (4, true), (5, true), (6, true), (7, true), (8, true), (9, true), (10, true), (11, true), (12, true), (13, true), (14, true), (15, true), (16, true), (17, true), (18, true), (19, true), (20, true), (21, true), (22, true), (23, true), (24, true), (25, true), (26, true), (27, true)]) hmo (by kernel_rfl) ⟨by simpa using c0, by simpa using c1, by simpa using p0, by simpa using p1⟩ ?_
 iterate 28 (first | (refine line_get rfl rfl (fun K hK => ?_); apply Exists.intro; refine ⟨fun w s => ?_, ?_⟩; (first | (have q := s rfl; go_simp; with_reducible rfl) | (go_simp; with_reducible rfl)); (go_simp; refine hK _ ?_; clear hK K)) | (refine line_past rfl rfl (fun K hK => ?_); go_simp; refine hK _ ?_; clear hK K))
 refine line_nil ?_
 clear p0 p1 c0 c1
 obtain ⟨U, hU⟩ : ∃ U, V.drew = U := ⟨_, rfl⟩
 rw [hU]
 have nU : New V U := hU ▸ Kp.drew _ _
 have HU := Lib.hid (And.intro (heap_kp' HV.out.2.1 nU id) (HV.out.2.2.new nU))
 clear hU nU
 have c0 : U.cell? ⟨w.heap.size, 0, none⟩ = some (.int .i64 (i : Int)) := (cell_of_block HU.out.1).trans rfl
 have c1 : U.cell? ⟨w.heap.size, 1, none⟩ = some (.int .i64 15) := (cell_of_block HU.out.1).trans rfl
 have c2 : U.cell? ⟨w.heap.size, 2, none⟩ = some (.string (bstr o.name)) := (cell_of_block HU.out.1).trans rfl
 have c3 : U.cell? ⟨w.heap.size, 3, none⟩ = some (.string (bstr o.to)) := (cell_of_block HU.out.1).trans rfl
 have c4 : U.cell? ⟨w.heap.size, 4, none⟩ = some (.slice o.bA o.body.length o.bc) := (cell_of_block HU.out.1).trans rfl
 have c5 : U.cell? ⟨w.heap.size, 5, none⟩ = some (.int .i64 o.at_) := (cell_of_block HU.out.1).trans rfl
 have c6 : U.cell? ⟨w.heap.size, 6, none⟩ = some (.int .i64 o.n) := (cell_of_block HU.out.1).trans rfl
 have c7 : U.cell? ⟨w.heap.size, 7, none⟩ = some (.slice o.kA o.keep.length o.kc) := (cell_of_block HU.out.1).trans rfl
 have c8 : U.cell? ⟨w.heap.size, 8, none⟩ = some (.int .i64 o.cap) := (cell_of_block HU.out.1).trans rfl
 have c9 : U.cell? ⟨w.heap.size, 9, none⟩ = some (.slice o.fA o.files.length o.fc) := (cell_of_block HU.out.1).trans rfl
 have c10 : U.cell? ⟨w.heap.size, 10, none⟩ = some (.int .i64 o.fuse) := (cell_of_block HU.out.1).trans rfl
 have c11 : U.cell? ⟨w.heap.size, 11, none⟩ = some (.bool o.down) := (cell_of_block HU.out.1).trans rfl
 go_wp2_with fail
 clear c0 c1 c2 c3 c4 c5 c6 c7 c8 c9 c10 c11
 refine (HCall.out U HU.out.2).mono ?_
 rintro e w' ⟨rfl, hh⟩
 have HE := Lib.hid hh
 clear hh
 go_wp2_with fail
 go_ret
 exact ⟨rfl, HE.out⟩
set_option maxRecDepth 100000 in
set_option maxHeartbeats 8000000 in
theorem step_else_lo_no (W0 w : World) (g i : Nat) (D : Pairs) (Φ : Nat → Prop) (o : OpS) (h : Inv W0 g D Φ w) (hA : Alike D) (ho : o.Ok W0) (hi3 : i < 3) (k : Int) (hk : k < 1) (hx : D i = none) :
  Calls Tryz.prog 9 #[.pointer (some ⟨g, 0, none⟩), .agg (o.with i k)] w (StepPost W0 g) := by
 unfold OpS.with
 have hmo : Tryz.prog.follows Departure.mixedOrders = true := by kernel_rfl
 have HH := Lib.hid (And.intro h (And.intro hA ho))
 have hi0 : (0 : Int) ≤ i := by omega
 have hi3' : (i : Int) < 3 := by omega
 have hi2 : decide ((2 : Int) < (i : Int)) = false := decide_eq_false (by omega)
 have hi2' : decide ((i : Int) < 0) = false := decide_eq_false (by omega)
 clear h hA ho
 have HX := Lib.hid hx
 clear hx
 have e1 : (k == 1) = false := by rw [beq_eq_false_iff_ne]; omega
 have e2 : (k == 2) = false := by rw [beq_eq_false_iff_ne]; omega
 have e16 : (k == 16) = false := by rw [beq_eq_false_iff_ne]; omega
 have n1 : ¬ k = 1 := by omega
 have n2 : ¬ k = 2 := by omega
 have n16 : ¬ k = 16 := by omega
 have l1 : decide (k < 1) = true := decide_eq_true hk
 go_enter Tryz.func9, Tryz.ntmps9
 go_wp2_with fail
 obtain ⟨V, hV⟩ : ∃ V, w.alloc (.cells #[.int .i64 (i : Int), .int .i64 k, .string (bstr o.name), .string (bstr o.to), .slice o.bA o.body.length o.bc, .int .i64 o.at_, .int .i64 o.n, .slice o.kA o.keep.length o.kc, .int .i64 o.cap, .slice o.fA o.files.length o.fc, .int .i64 o.fuse, .bool o.down] 61) = V := ⟨_, rfl⟩
 rw [hV]
 have nV : New w V := hV ▸ Kp.alloc _ _ _
 have bV : V.heap[w.heap.size]? = some (.cells (o.with i k) 61 (0, 0)) := hV ▸ heap_alloc_new w _
 have HV := Lib.hid (And.intro nV (And.intro bV (HH.out.1.new nV)))
 clear hV nV bV
 have c0 : V.cell? ⟨w.heap.size, 0, none⟩ = some (.int .i64 (i : Int)) := (cell_of_block HV.out.2.1).trans rfl
 have c1 : V.cell? ⟨w.heap.size, 1, none⟩ = some (.int .i64 k) := (cell_of_block HV.out.2.1).trans rfl
 have p0 := (HV.out.2.2.dpc hi3).1
 have p1 := (HV.out.2.2.rpc hi3).1
 rw [dp_none HX.out] at p0
 rw [rp_none HX.out] at p1
 refine wp_region_line (fun w' => w'.cell? ⟨w.heap.size, 0, none⟩ = some (.int .i64 (i : Int)) ∧ w'.cell? ⟨w.heap.size, 1, none⟩ = some (.int .i64 k) ∧ w'.cell? ⟨g, i, none⟩ = some (.pointer none) ∧ w'.cell? ⟨g, 3 + i, none⟩ = some (.pointer none)) (pl := [(0, true), (1, true), (2, true), (3, true), (4, true), (5, true), (6, true), (7, true), (8, true), (9, true), (10, true), (11, true), (12, true), (13, true), (14, true), (15, true), (16, true), (17, true), (18, true), (19, true), (20, true), (21, true), (22, true), (23, true), (24, true), (25, true), (26, true), (27, true)]) hmo (by kernel_rfl) ⟨by simpa using c0, by simpa using c1, by simpa using p0, by simpa using p1⟩ ?_
 iterate 28 (first | (refine line_get rfl rfl (fun K hK => ?_); apply Exists.intro; refine ⟨fun w s => ?_, ?_⟩; (first | (have q := s rfl; go_simp; with_reducible rfl) | (go_simp; with_reducible rfl)); (go_simp; refine hK _ ?_; clear hK K)) | (refine line_past rfl rfl (fun K hK => ?_); go_simp; refine hK _ ?_; clear hK K))
 refine line_nil ?_
 clear p0 p1 c0 c1
 obtain ⟨U, hU⟩ : ∃ U, V.drew = U := ⟨_, rfl⟩
 rw [hU]
 have nU : New V U := hU ▸ Kp.drew _ _
 have HU := Lib.hid (And.intro (heap_kp' HV.out.2.1 nU id) (HV.out.2.2.new nU))
 clear hU nU
 go_wp2_with fail
 go_ret
 exact ⟨rfl, HU.out.2.same HH.out.2.1⟩
set_option maxRecDepth 100000 in
set_option maxHeartbeats 8000000 in
theorem step_else_hi_no (W0 w : World) (g i : Nat) (D : Pairs) (Φ : Nat → Prop) (o : OpS) (h : Inv W0 g D Φ w) (hA : Alike D) (ho : o.Ok W0) (hi3 : i < 3) (k : Int) (hk : 16 < k) (hx : D i = none) :
  Calls Tryz.prog 9 #[.pointer (some ⟨g, 0, none⟩), .agg (o.with i k)] w (StepPost W0 g) := by
 unfold OpS.with
 have hmo : Tryz.prog.follows Departure.mixedOrders = true := by kernel_rfl
 have HH := Lib.hid (And.intro h (And.intro hA ho))
 have hi0 : (0 : Int) ≤ i := by omega
 have hi3' : (i : Int) < 3 := by omega
 have hi2 : decide ((2 : Int) < (i : Int)) = false := decide_eq_false (by omega)
 have hi2' : decide ((i : Int) < 0) = false := decide_eq_false (by omega)
 clear h hA ho
 have HX := Lib.hid hx
 clear hx
 have e1 : (k == 1) = false := by rw [beq_eq_false_iff_ne]; omega
 have e2 : (k == 2) = false := by rw [beq_eq_false_iff_ne]; omega
 have e16 : (k == 16) = false := by rw [beq_eq_false_iff_ne]; omega
 have n1 : ¬ k = 1 := by omega
 have n2 : ¬ k = 2 := by omega
 have n16 : ¬ k = 16 := by omega
 have l1 : decide (k < 1) = false := decide_eq_false (by omega)
 have l2 : decide (16 < k) = true := decide_eq_true hk
 go_enter Tryz.func9, Tryz.ntmps9
 go_wp2_with fail
 obtain ⟨V, hV⟩ : ∃ V, w.alloc (.cells #[.int .i64 (i : Int), .int .i64 k, .string (bstr o.name), .string (bstr o.to), .slice o.bA o.body.length o.bc, .int .i64 o.at_, .int .i64 o.n, .slice o.kA o.keep.length o.kc, .int .i64 o.cap, .slice o.fA o.files.length o.fc, .int .i64 o.fuse, .bool o.down] 61) = V := ⟨_, rfl⟩
 rw [hV]
 have nV : New w V := hV ▸ Kp.alloc _ _ _
 have bV : V.heap[w.heap.size]? = some (.cells (o.with i k) 61 (0, 0)) := hV ▸ heap_alloc_new w _
 have HV := Lib.hid (And.intro nV (And.intro bV (HH.out.1.new nV)))
 clear hV nV bV
 have c0 : V.cell? ⟨w.heap.size, 0, none⟩ = some (.int .i64 (i : Int)) := (cell_of_block HV.out.2.1).trans rfl
 have c1 : V.cell? ⟨w.heap.size, 1, none⟩ = some (.int .i64 k) := (cell_of_block HV.out.2.1).trans rfl
 have p0 := (HV.out.2.2.dpc hi3).1
 have p1 := (HV.out.2.2.rpc hi3).1
 rw [dp_none HX.out] at p0
 rw [rp_none HX.out] at p1
 refine wp_region_line (fun w' => w'.cell? ⟨w.heap.size, 0, none⟩ = some (.int .i64 (i : Int)) ∧ w'.cell? ⟨w.heap.size, 1, none⟩ = some (.int .i64 k) ∧ w'.cell? ⟨g, i, none⟩ = some (.pointer none) ∧ w'.cell? ⟨g, 3 + i, none⟩ = some (.pointer none)) (pl := [(0, true), (1, true), (2, true), (3, true), (4, true), (5, true), (6, true), (7, true), (8, true), (9, true), (10, true), (11, true), (12, true), (13, true), (14, true), (15, true), (16, true), (17, true), (18, true), (19, true), (20, true), (21, true), (22, true), (23, true), (24, true), (25, true), (26, true), (27, true)]) hmo (by kernel_rfl) ⟨by simpa using c0, by simpa using c1, by simpa using p0, by simpa using p1⟩ ?_
 iterate 28 (first | (refine line_get rfl rfl (fun K hK => ?_); apply Exists.intro; refine ⟨fun w s => ?_, ?_⟩; (first | (have q := s rfl; go_simp; with_reducible rfl) | (go_simp; with_reducible rfl)); (go_simp; refine hK _ ?_; clear hK K)) | (refine line_past rfl rfl (fun K hK => ?_); go_simp; refine hK _ ?_; clear hK K))
 refine line_nil ?_
 clear p0 p1 c0 c1
 obtain ⟨U, hU⟩ : ∃ U, V.drew = U := ⟨_, rfl⟩
 rw [hU]
 have nU : New V U := hU ▸ Kp.drew _ _
 have HU := Lib.hid (And.intro (heap_kp' HV.out.2.1 nU id) (HV.out.2.2.new nU))
 clear hU nU
 go_wp2_with fail
 go_ret
 exact ⟨rfl, HU.out.2.same HH.out.2.1⟩
set_option maxRecDepth 100000 in
set_option maxHeartbeats 8000000 in
theorem step_else_lo_ok (W0 w : World) (g i : Nat) (D : Pairs) (Φ : Nat → Prop) (o : OpS) (h : Inv W0 g D Φ w) (hA : Alike D) (ho : o.Ok W0) (hi3 : i < 3) (k : Int) (hk : k < 1) (x : PD) (hx : D i = some x) :
  Calls Tryz.prog 9 #[.pointer (some ⟨g, 0, none⟩), .agg (o.with i k)] w (StepPost W0 g) := by
 unfold OpS.with
 have hmo : Tryz.prog.follows Departure.mixedOrders = true := by kernel_rfl
 have HH := Lib.hid (And.intro h (And.intro hA ho))
 have hi0 : (0 : Int) ≤ i := by omega
 have hi3' : (i : Int) < 3 := by omega
 have hi2 : decide ((2 : Int) < (i : Int)) = false := decide_eq_false (by omega)
 have hi2' : decide ((i : Int) < 0) = false := decide_eq_false (by omega)
 clear h hA ho
 have HX := Lib.hid hx
 clear hx
 have e1 : (k == 1) = false := by rw [beq_eq_false_iff_ne]; omega
 have e2 : (k == 2) = false := by rw [beq_eq_false_iff_ne]; omega
 have e16 : (k == 16) = false := by rw [beq_eq_false_iff_ne]; omega
 have n1 : ¬ k = 1 := by omega
 have n2 : ¬ k = 2 := by omega
 have n16 : ¬ k = 16 := by omega
 have l1 : decide (k < 1) = true := decide_eq_true hk
 go_enter Tryz.func9, Tryz.ntmps9
 go_wp2_with fail
 obtain ⟨V, hV⟩ : ∃ V, w.alloc (.cells #[.int .i64 (i : Int), .int .i64 k, .string (bstr o.name), .string (bstr o.to), .slice o.bA o.body.length o.bc, .int .i64 o.at_, .int .i64 o.n, .slice o.kA o.keep.length o.kc, .int .i64 o.cap, .slice o.fA o.files.length o.fc, .int .i64 o.fuse, .bool o.down] 61) = V := ⟨_, rfl⟩
 rw [hV]
 have nV : New w V := hV ▸ Kp.alloc _ _ _
 have bV : V.heap[w.heap.size]? = some (.cells (o.with i k) 61 (0, 0)) := hV ▸ heap_alloc_new w _
 have HV := Lib.hid (And.intro nV (And.intro bV (HH.out.1.new nV)))
 clear hV nV bV
 have c0 : V.cell? ⟨w.heap.size, 0, none⟩ = some (.int .i64 (i : Int)) := (cell_of_block HV.out.2.1).trans rfl
 have c1 : V.cell? ⟨w.heap.size, 1, none⟩ = some (.int .i64 k) := (cell_of_block HV.out.2.1).trans rfl
 have p0 := (HV.out.2.2.dpc hi3).1
 have p1 := (HV.out.2.2.rpc hi3).1
 rw [dp_some HX.out] at p0
 rw [rp_some HX.out] at p1
 refine wp_region_line (fun w' => w'.cell? ⟨w.heap.size, 0, none⟩ = some (.int .i64 (i : Int)) ∧ w'.cell? ⟨w.heap.size, 1, none⟩ = some (.int .i64 k) ∧ w'.cell? ⟨g, i, none⟩ = some (.pointer (some ⟨x.d, 0, none⟩)) ∧ w'.cell? ⟨g, 3 + i, none⟩ = some (.pointer (some ⟨x.r, 0, none⟩))) (pl := [(0, true), (1, true), (2, true), (3, true), (4, true), (5, true), (6, true), (7, true), (8, true), (9, true), (10, true), (11, true), (12, true), (13, true), (14, true), (15, true), (16, true), (17, true), (18, true), (19, true), (20, true), (21, true), (22, true), (23, true), (24, true), (25, true), (26, true), (27, true)]) hmo (by kernel_rfl) ⟨by simpa using c0, by simpa using c1, by simpa using p0, by simpa using p1⟩ ?_
 iterate 28 (first | (refine line_get rfl rfl (fun K hK => ?_); apply Exists.intro; refine ⟨fun w s => ?_, ?_⟩; (first | (have q := s rfl; go_simp; with_reducible rfl) | (go_simp; with_reducible rfl)); (go_simp; refine hK _ ?_; clear hK K)) | (refine line_past rfl rfl (fun K hK => ?_); go_simp; refine hK _ ?_; clear hK K))
 refine line_nil ?_
 clear p0 p1 c0 c1
 obtain ⟨U, hU⟩ : ∃ U, V.drew = U := ⟨_, rfl⟩
 rw [hU]
 have nU : New V U := hU ▸ Kp.drew _ _
 have HU := Lib.hid (And.intro (heap_kp' HV.out.2.1 nU id) (HV.out.2.2.new nU))
 clear hU nU
 go_wp2_with fail
 go_ret
 exact ⟨rfl, HU.out.2.same HH.out.2.1⟩
set_option maxRecDepth 100000 in
set_option maxHeartbeats 8000000 in
theorem step_else_hi_ok (W0 w : World) (g i : Nat) (D : Pairs) (Φ : Nat → Prop) (o : OpS) (h : Inv W0 g D Φ w) (hA : Alike D) (ho : o.Ok W0) (hi3 : i < 3) (k : Int) (hk : 16 < k) (x : PD) (hx : D i = some x) :
  Calls Tryz.prog 9 #[.pointer (some ⟨g, 0, none⟩), .agg (o.with i k)] w (StepPost W0 g) := by
 unfold OpS.with
 have hmo : Tryz.prog.follows Departure.mixedOrders = true := by kernel_rfl
 have HH := Lib.hid (And.intro h (And.intro hA ho))
 have hi0 : (0 : Int) ≤ i := by omega
 have hi3' : (i : Int) < 3 := by omega
 have hi2 : decide ((2 : Int) < (i : Int)) = false := decide_eq_false (by omega)
 have hi2' : decide ((i : Int) < 0) = false := decide_eq_false (by omega)
 clear h hA ho
 have HX := Lib.hid hx
 clear hx
 have e1 : (k == 1) = false := by rw [beq_eq_false_iff_ne]; omega
 have e2 : (k == 2) = false := by rw [beq_eq_false_iff_ne]; omega
 have e16 : (k == 16) = false := by rw [beq_eq_false_iff_ne]; omega
 have n1 : ¬ k = 1 := by omega
 have n2 : ¬ k = 2 := by omega
 have n16 : ¬ k = 16 := by omega
 have l1 : decide (k < 1) = false := decide_eq_false (by omega)
 have l2 : decide (16 < k) = true := decide_eq_true hk
 go_enter Tryz.func9, Tryz.ntmps9
 go_wp2_with fail
 obtain ⟨V, hV⟩ : ∃ V, w.alloc (.cells #[.int .i64 (i : Int), .int .i64 k, .string (bstr o.name), .string (bstr o.to), .slice o.bA o.body.length o.bc, .int .i64 o.at_, .int .i64 o.n, .slice o.kA o.keep.length o.kc, .int .i64 o.cap, .slice o.fA o.files.length o.fc, .int .i64 o.fuse, .bool o.down] 61) = V := ⟨_, rfl⟩
 rw [hV]
 have nV : New w V := hV ▸ Kp.alloc _ _ _
 have bV : V.heap[w.heap.size]? = some (.cells (o.with i k) 61 (0, 0)) := hV ▸ heap_alloc_new w _
 have HV := Lib.hid (And.intro nV (And.intro bV (HH.out.1.new nV)))
 clear hV nV bV
 have c0 : V.cell? ⟨w.heap.size, 0, none⟩ = some (.int .i64 (i : Int)) := (cell_of_block HV.out.2.1).trans rfl
 have c1 : V.cell? ⟨w.heap.size, 1, none⟩ = some (.int .i64 k) := (cell_of_block HV.out.2.1).trans rfl
 have p0 := (HV.out.2.2.dpc hi3).1
 have p1 := (HV.out.2.2.rpc hi3).1
 rw [dp_some HX.out] at p0
 rw [rp_some HX.out] at p1
 refine wp_region_line (fun w' => w'.cell? ⟨w.heap.size, 0, none⟩ = some (.int .i64 (i : Int)) ∧ w'.cell? ⟨w.heap.size, 1, none⟩ = some (.int .i64 k) ∧ w'.cell? ⟨g, i, none⟩ = some (.pointer (some ⟨x.d, 0, none⟩)) ∧ w'.cell? ⟨g, 3 + i, none⟩ = some (.pointer (some ⟨x.r, 0, none⟩))) (pl := [(0, true), (1, true), (2, true), (3, true), (4, true), (5, true), (6, true), (7, true), (8, true), (9, true), (10, true), (11, true), (12, true), (13, true), (14, true), (15, true), (16, true), (17, true), (18, true), (19, true), (20, true), (21, true), (22, true), (23, true), (24, true), (25, true), (26, true), (27, true)]) hmo (by kernel_rfl) ⟨by simpa using c0, by simpa using c1, by simpa using p0, by simpa using p1⟩ ?_
 iterate 28 (first | (refine line_get rfl rfl (fun K hK => ?_); apply Exists.intro; refine ⟨fun w s => ?_, ?_⟩; (first | (have q := s rfl; go_simp; with_reducible rfl) | (go_simp; with_reducible rfl)); (go_simp; refine hK _ ?_; clear hK K)) | (refine line_past rfl rfl (fun K hK => ?_); go_simp; refine hK _ ?_; clear hK K))
 refine line_nil ?_
 clear p0 p1 c0 c1
 obtain ⟨U, hU⟩ : ∃ U, V.drew = U := ⟨_, rfl⟩
 rw [hU]
 have nU : New V U := hU ▸ Kp.drew _ _
 have HU := Lib.hid (And.intro (heap_kp' HV.out.2.1 nU id) (HV.out.2.2.new nU))
 clear hU nU
 go_wp2_with fail
 go_ret
 exact ⟨rfl, HU.out.2.same HH.out.2.1⟩
set_option maxRecDepth 100000 in
set_option maxHeartbeats 4000000 in
theorem step_out (W0 w : World) (g : Nat) (D : Pairs) (Φ : Nat → Prop) (o : OpS) (h : Inv W0 g D Φ w) (hA : Alike D) (hd : o.disk < 0 ∨ 2 < o.disk) :
  Calls Tryz.prog 9 #[.pointer (some ⟨g, 0, none⟩), .agg o.arr] w (StepPost W0 g) := by
 unfold OpS.arr
 have HH := Lib.hid (And.intro h hA)
 clear h hA
 rcases hd with hd | hd
 ·have l1 : decide (o.disk < 0) = true := decide_eq_true hd
  go_enter Tryz.func9, Tryz.ntmps9
  go_wp2_with fail
  go_ret
  exact ⟨rfl, (HH.out.1.new (Kp.alloc _ _ _)).same HH.out.2⟩
 ·have l1 : decide (o.disk < 0) = false := decide_eq_false (by omega)
  have l2 : decide (2 < o.disk) = true := decide_eq_true hd
  go_enter Tryz.func9, Tryz.ntmps9
  go_wp2_with fail
  go_ret
  exact ⟨rfl, (HH.out.1.new (Kp.alloc _ _ _)).same HH.out.2⟩
theorem step_calls (W0 w : World) (g : Nat) (D : Pairs) (Φ : Nat → Prop) (o : OpS) (h : Inv W0 g D Φ w) (hA : Alike D) (ho : o.Ok W0) :
  Calls Tryz.prog 9 #[.pointer (some ⟨g, 0, none⟩), .agg o.arr] w (StepPost W0 g) := by
 by_cases hd : o.disk < 0 ∨ 2 < o.disk
 ·exact step_out W0 w g D Φ o h hA hd
 ·obtain ⟨i, hi⟩ : ∃ i : Nat, o.disk = i := ⟨o.disk.toNat, by omega⟩
  have hi3 : i < 3 := by omega
  by_cases h1 : o.kind < 1
  ·rw [OpS.arr_with hi rfl]
   cases hx : D i with
   | none => exact step_else_lo_no W0 w g i D Φ o h hA ho hi3 _ h1 hx
   | some x => exact step_else_lo_ok W0 w g i D Φ o h hA ho hi3 _ h1 x hx
  ·by_cases h2 : 16 < o.kind
   ·rw [OpS.arr_with hi rfl]
    cases hx : D i with
    | none => exact step_else_hi_no W0 w g i D Φ o h hA ho hi3 _ h2 hx
    | some x => exact step_else_hi_ok W0 w g i D Φ o h hA ho hi3 _ h2 x hx
   ·by_cases e1 : o.kind = 1
    ·rw [OpS.arr_with hi e1]
     exact step_1 W0 w g i D Φ o h hA ho hi3
    ·by_cases e2 : o.kind = 2
     ·rw [OpS.arr_with hi e2]
      exact step_2 W0 w g i D Φ o h hA ho hi3
     ·by_cases e16 : o.kind = 16
      ·rw [OpS.arr_with hi e16]
       exact step_16 W0 w g i D Φ o h hA ho hi3
      ·cases hx : D i with
       | none =>
        rw [OpS.arr_with hi rfl]
        exact step_none W0 w g i D Φ o h hA ho hi3 _ (by omega) (by omega) hx
       | some x =>
        by_cases h7 : o.kind ≤ 7
        ·rw [OpS.arr_with hi rfl]
         exact step_c1 W0 w g i D Φ o h hA ho hi3 _ (by omega) h7 x hx hi rfl
        ·by_cases h11 : o.kind ≤ 11
         ·rw [OpS.arr_with hi rfl]
          exact step_l1 W0 w g i D Φ o h hA ho hi3 _ (by omega) h11 x hx hi rfl
         ·have hk : o.kind = 12 ∨ o.kind = 13 ∨ o.kind = 14 ∨ o.kind = 15 := by omega
          rcases hk with hk | hk | hk | hk <;> rw [OpS.arr_with hi hk]
          ·exact step_12 W0 w g i D Φ o h hA ho hi3 x hx hi hk
          ·exact step_13 W0 w g i D Φ o h hA ho hi3 x hx hi hk
          ·exact step_14 W0 w g i D Φ o h hA ho hi3 x hx hi hk
          ·exact step_15 W0 w g i D Φ o h hA ho hi3 x hx hi hk
end Go.Proofs.YtekcoeonlfmebaaGreatDoor.Kit
