/- 1 texts in one: PRINTED by gen_playc.py. The play of the laws of the disk: changes: the calls that change files. -/
import Derived.Test.YtekcoeonlfmebaaGreatDoorM27
import Derived.Test.YtekcoeonlfmebaaGreatDoorM24
import Derived.Test.YtekcoeonlfmebaaGreatDoorM28
import Derived.Test.YtekcoeonlfmebaaGreatDoorM29
import Derived.Test.YtekcoeonlfmebaaGreatDoorM32
import Derived.Test.YtekcoeonlfmebaaGreatDoorM23
import Derived.Test.YtekcoeonlfmebaaGreatDoorM33
import Derived.Test.YtekcoeonlfmebaaGreatDoorM34
import Derived.Test.YtekcoeonlfmebaaGreatDoorM36
import Derived.Test.YtekcoeonlfmebaaGreatDoorM26
namespace Go.Proofs.YtekcoeonlfmebaaGreatDoor.Kit
open Go Go.RowKit
theorem num_calls (w : World) (e : Int) : Calls Tryz.prog 41 #[.int .i64 e] w fun r w' => r = .returned (.int .i64 e) ∧ w = w' := by
 go_enter Tryz.func41, Tryz.ntmps41
 go_wp2
 go_ret
 exact ⟨rfl, rfl⟩
theorem Inv.same {W0 : World} {g : Nat} {D : Pairs} {Φ : Nat → Prop} {w : World} (h : Inv W0 g D Φ w) (hA : Alike D) : ∃ D Φ, Inv W0 g D Φ w ∧ Alike D := ⟨D, Φ, h, hA⟩
theorem Inv.notIn {W0 : World} {g : Nat} {D : Pairs} {Φ : Nat → Prop} {w : World} (h : Inv W0 g D Φ w) {i : Nat} {x : PD} (hx : D i = some x) {k : Nat} (hk : k < W0.heap.size) : ¬ x.Fp k := fun hf => by have := h.lowD i x hx k hf; omega
theorem Inv.free {W0 : World} {g : Nat} {D : Pairs} {Φ S : Nat → Prop} {w w' : World} (h : Inv W0 g D Φ w) (hk : Kp S w w') (hΦ : ∀ k, S k → ¬ Φ k) (hD : ∀ j y, D j = some y → ∀ k, y.Fp k → ¬ S k) (hl : ∀ k, S k → W0.heap.size ≤ k) : Inv W0 g D Φ w' :=
 ⟨h.book.kp book3_ok hk (fun k hf hs => hΦ k hs hf), fun i x hx => (h.at_ i x hx).kp hk (hD i x hx), h.out, h.apart, h.low.trans hk fid (fun k _ hs => hl k hs), h.lowB, h.lowD, h.tab.kp hk (fun hs => by have := hl _ hs; have := h.tabL; omega), h.tabL⟩
theorem box_move {w w' W : World} {b : Nat} {o : Obj} {F F' : List Nat} (hb : W.heap[b]? = some o) (hm : Mv F F' W w') (hF : ∀ k ∈ F, k < w.heap.size) (hbw : w.heap.size ≤ b) : w'.heap[b]? = some o := (hm.1.block b (Array.getElem?_eq_some_iff.1 hb).1 (fun hm => by have := hF b hm; omega)).trans hb
def OpS.with (o : OpS) (i : Nat) (k : Int) : Array Value := #[.int .i64 (i : Int), .int .i64 k, .string (bstr o.name), .string (bstr o.to), .slice o.bA o.body.length o.bc, .int .i64 o.at_, .int .i64 o.n, .slice o.kA o.keep.length o.kc, .int .i64 o.cap, .slice o.fA o.files.length o.fc, .int .i64 o.fuse, .bool o.down]
theorem OpS.arr_with {o : OpS} {i : Nat} {k : Int} (h1 : o.disk = i) (h2 : o.kind = k) : o.arr = o.with i k := by unfold OpS.arr OpS.with; rw [h1, h2]
set_option maxRecDepth 100000 in
set_option maxHeartbeats 4000000 in
theorem changes_3 (W0 w : World) (g i : Nat) (D : Pairs) (Φ : Nat → Prop) (o : OpS) (x : PD) (h : Inv W0 g D Φ w) (hA : Alike D) (ho : o.Ok W0) (hi3 : i < 3) (hx : D i = some x) :
  Calls Tryz.prog 18 #[.pointer (some ⟨g, 0, none⟩), .agg (o.with i 3)] w (StepPost W0 g) := by
 unfold OpS.with
 have hmo : Tryz.prog.follows Departure.mixedOrders = true := by kernel_rfl
 have hst := hA i x hx
 have HH := Lib.hid (And.intro h (And.intro hA (And.intro ho (And.intro hx hst))))
 have hi0 : (0 : Int) ≤ i := by omega
 have hi3' : (i : Int) < 3 := by omega
 clear h hA ho hx hst
 go_enter Tryz.func18, Tryz.ntmps18
 go_wp2_with fail
 obtain ⟨W, hW⟩ : ∃ W, w.alloc (.cells #[.int .i64 (i : Int), .int .i64 3, .string (bstr o.name), .string (bstr o.to), .slice o.bA o.body.length o.bc, .int .i64 o.at_, .int .i64 o.n, .slice o.kA o.keep.length o.kc, .int .i64 o.cap, .slice o.fA o.files.length o.fc, .int .i64 o.fuse, .bool o.down] 61) = W := ⟨_, rfl⟩
 rw [hW]
 have nW : New w W := hW ▸ Kp.alloc _ _ _
 have bW : W.heap[w.heap.size]? = some (.cells (o.with i 3) 61 (0, 0)) := hW ▸ heap_alloc_new w _
 have hI := HH.out.1.new nW
 have c0 : W.cell? ⟨w.heap.size, 0, none⟩ = some (.int .i64 (i : Int)) := (cell_of_block bW).trans rfl
 have p0 : W.cell? ⟨g, i, none⟩ = some (.pointer (some ⟨x.d, 0, none⟩)) := (hI.dpc hi3).1.trans (congrArg some (dp_some HH.out.2.2.2.1))
 have p1 : W.cell? ⟨g, 3 + i, none⟩ = some (.pointer (some ⟨x.r, 0, none⟩)) := (hI.rpc hi3).1.trans (congrArg some (rp_some HH.out.2.2.2.1))
 have HW := Lib.hid (And.intro nW (And.intro bW hI))
 clear hW nW bW hI
 refine wp_region_line (fun w' => w'.cell? ⟨w.heap.size, 0, none⟩ = some (.int .i64 (i : Int)) ∧ w'.cell? ⟨g, i, none⟩ = some (.pointer (some ⟨x.d, 0, none⟩))) (pl := [(0, true), (1, true), (2, true), (3, true), (4, true), (5, true), (6, true), (7, true)]) hmo (by kernel_rfl) ⟨by simpa using c0, by simpa using p0⟩ ?_
 iterate 8 (refine line_get rfl rfl (fun K hK => ?_); apply Exists.intro; refine ⟨fun w s => ?_, ?_⟩; (first | (have q := s rfl; go_simp; with_reducible rfl) | (go_simp; with_reducible rfl)); (go_simp; refine hK _ ?_; clear hK K))
 refine line_nil ?_
 go_wp2_with fail
 refine wp_region_line (fun w' => w'.cell? ⟨w.heap.size, 0, none⟩ = some (.int .i64 (i : Int)) ∧ w'.cell? ⟨g, 3 + i, none⟩ = some (.pointer (some ⟨x.r, 0, none⟩))) (pl := [(0, true), (1, true), (2, true), (3, true), (4, true), (5, true), (6, true), (7, true)]) hmo (by kernel_rfl) ⟨by simpa using c0, by simpa using p1⟩ ?_
 iterate 8 (refine line_get rfl rfl (fun K hK => ?_); apply Exists.intro; refine ⟨fun w s => ?_, ?_⟩; (first | (have q := s rfl; go_simp; with_reducible rfl) | (go_simp; with_reducible rfl)); (go_simp; refine hK _ ?_; clear hK K))
 refine line_nil ?_
 obtain ⟨V, hV⟩ : ∃ V, W.drew.drew = V := ⟨_, rfl⟩
 rw [hV]
 have nV : New W V := hV ▸ (Kp.drew _ _).trans (Kp.drew _ _) fid fid
 have bV : V.heap[w.heap.size]? = some (.cells (o.with i 3) 61 (0, 0)) := hV ▸ HW.out.2.1
 have hIV := HW.out.2.2.new nV
 have HV := Lib.hid (And.intro (HW.out.1.trans nV fid fid) (And.intro bV hIV))
 clear hV nV bV hIV c0 p0 p1
 have k1 : V.cell? ⟨w.heap.size, 1, none⟩ = some (.int .i64 3) := (cell_of_block HV.out.2.1).trans rfl
 have k2 : V.cell? ⟨w.heap.size, 2, none⟩ = some (.string (bstr o.name)) := (cell_of_block HV.out.2.1).trans rfl
 go_wp2_with fail
 refine wp_region_line (fun w' => w'.cell? ⟨w.heap.size, 2, none⟩ = some (.string (bstr o.name))) (pl := [(0, true), (1, true), (2, true), (5, true), (6, true), (7, true), (3, false), (4, false), (8, false), (9, false), (10, true), (11, true)]) hmo (by kernel_rfl) (by simpa using k2) ?_
 iterate 6 (refine line_get rfl rfl (fun K hK => ?_); apply Exists.intro; refine ⟨fun w s => ?_, ?_⟩; (first | (have q := s rfl; go_simp; with_reducible rfl) | (go_simp; with_reducible rfl)); (go_simp; refine hK _ ?_; clear hK K))
 (refine line_do rfl rfl (fun K hK => ?_); go_simp)
 have nd : New V V.drew := Kp.drew _ _
 have hI2 := HV.out.2.2.new nd
 have hq := hI2.at_ i x HH.out.2.2.2.1
 have H2 := Lib.hid (And.intro hI2 (And.intro hq nd))
 clear hI2 hq nd k1 k2
 refine (Create_calls _ x.d x.s x.F o.name H2.out.2.1.p HH.out.2.2.1.name).mono ?_
 rintro e w3 ⟨rfl, F', hD3, hM3⟩
 have b3 := box_move (w := w) (W := V.drew) HV.out.2.1 hM3 (fun k hk => (HH.out.1.at_ i x HH.out.2.2.2.1).lt k (.inl hk)) (Nat.le_refl _)
 have q2 : w3.cell? ⟨w.heap.size, 2, none⟩ = some (.string (bstr o.name)) := (cell_of_block b3).trans rfl
 have H3 := Lib.hid (And.intro hD3 hM3)
 clear hD3 hM3 b3
 refine hK _ _ (fun _ => q2) ?_
 clear hK K
 (refine line_do rfl rfl (fun K hK => ?_); go_simp)
 refine (num_calls _ _).mono ?_
 rintro e w' ⟨rfl, rfl⟩
 refine hK _ _ (fun _ => q2) ?_
 clear hK K
 (refine line_do rfl rfl (fun K hK => ?_); go_simp)
 have hR3 := H2.out.2.1.q.kp H3.out.2.1 (fun k hk hm => H2.out.2.1.apart k hm hk)
 rw [← HH.out.2.2.2.2] at hR3
 have HR3 := Lib.hid hR3
 clear hR3
 refine (RCreate_calls _ x.r x.s x.G o.name HR3.out HH.out.2.2.1.name).mono ?_
 rintro e w4 ⟨rfl, G', hD4, hM4⟩
 have H4 := Lib.hid (And.intro hD4 hM4)
 clear hD4 hM4
 refine hK _ _ (no_need (by kernel_rfl)) ?_
 clear hK K
 (refine line_do rfl rfl (fun K hK => ?_); go_simp)
 refine (num_calls _ _).mono ?_
 rintro e w' ⟨rfl, rfl⟩
 refine hK _ _ (no_need (by kernel_rfl)) ?_
 clear hK K
 have hve : ∃ v : Nat, (x.s.create o.name).1 = v := ⟨_, rfl⟩
 obtain ⟨v, hv⟩ := hve
 rw [hv]
 clear hv
 iterate 2 (refine line_get rfl rfl (fun K hK => ?_); apply Exists.intro; refine ⟨fun w s => ?_, ?_⟩; (first | (have q := s rfl; go_simp; with_reducible rfl) | (go_simp; with_reducible rfl)); (go_simp; refine hK _ ?_; clear hK K))
 refine line_nil ?_
 go_wp2_with fail
 go_ret
 exact ⟨by simp, H2.out.1.both HH.out.2.1 HH.out.2.2.2.1 H3.out.1 H3.out.2 H4.out.1 H4.out.2⟩
set_option maxRecDepth 100000 in
set_option maxHeartbeats 4000000 in
theorem changes_5 (W0 w : World) (g i : Nat) (D : Pairs) (Φ : Nat → Prop) (o : OpS) (x : PD) (h : Inv W0 g D Φ w) (hA : Alike D) (ho : o.Ok W0) (hi3 : i < 3) (hx : D i = some x) :
  Calls Tryz.prog 18 #[.pointer (some ⟨g, 0, none⟩), .agg (o.with i 5)] w (StepPost W0 g) := by
 unfold OpS.with
 have hmo : Tryz.prog.follows Departure.mixedOrders = true := by kernel_rfl
 have hst := hA i x hx
 have HH := Lib.hid (And.intro h (And.intro hA (And.intro ho (And.intro hx hst))))
 have hi0 : (0 : Int) ≤ i := by omega
 have hi3' : (i : Int) < 3 := by omega
 clear h hA ho hx hst
 go_enter Tryz.func18, Tryz.ntmps18
 go_wp2_with fail
 obtain ⟨W, hW⟩ : ∃ W, w.alloc (.cells #[.int .i64 (i : Int), .int .i64 5, .string (bstr o.name), .string (bstr o.to), .slice o.bA o.body.length o.bc, .int .i64 o.at_, .int .i64 o.n, .slice o.kA o.keep.length o.kc, .int .i64 o.cap, .slice o.fA o.files.length o.fc, .int .i64 o.fuse, .bool o.down] 61) = W := ⟨_, rfl⟩
 rw [hW]
 have nW : New w W := hW ▸ Kp.alloc _ _ _
 have bW : W.heap[w.heap.size]? = some (.cells (o.with i 5) 61 (0, 0)) := hW ▸ heap_alloc_new w _
 have hI := HH.out.1.new nW
 have c0 : W.cell? ⟨w.heap.size, 0, none⟩ = some (.int .i64 (i : Int)) := (cell_of_block bW).trans rfl
 have p0 : W.cell? ⟨g, i, none⟩ = some (.pointer (some ⟨x.d, 0, none⟩)) := (hI.dpc hi3).1.trans (congrArg some (dp_some HH.out.2.2.2.1))
 have p1 : W.cell? ⟨g, 3 + i, none⟩ = some (.pointer (some ⟨x.r, 0, none⟩)) := (hI.rpc hi3).1.trans (congrArg some (rp_some HH.out.2.2.2.1))
 have HW := Lib.hid (And.intro nW (And.intro bW hI))
 clear hW nW bW hI
 refine wp_region_line (fun w' => w'.cell? ⟨w.heap.size, 0, none⟩ = some (.int .i64 (i : Int)) ∧ w'.cell? ⟨g, i, none⟩ = some (.pointer (some ⟨x.d, 0, none⟩))) (pl := [(0, true), (1, true), (2, true), (3, true), (4, true), (5, true), (6, true), (7, true)]) hmo (by kernel_rfl) ⟨by simpa using c0, by simpa using p0⟩ ?_
 iterate 8 (refine line_get rfl rfl (fun K hK => ?_); apply Exists.intro; refine ⟨fun w s => ?_, ?_⟩; (first | (have q := s rfl; go_simp; with_reducible rfl) | (go_simp; with_reducible rfl)); (go_simp; refine hK _ ?_; clear hK K))
 refine line_nil ?_
 go_wp2_with fail
 refine wp_region_line (fun w' => w'.cell? ⟨w.heap.size, 0, none⟩ = some (.int .i64 (i : Int)) ∧ w'.cell? ⟨g, 3 + i, none⟩ = some (.pointer (some ⟨x.r, 0, none⟩))) (pl := [(0, true), (1, true), (2, true), (3, true), (4, true), (5, true), (6, true), (7, true)]) hmo (by kernel_rfl) ⟨by simpa using c0, by simpa using p1⟩ ?_
 iterate 8 (refine line_get rfl rfl (fun K hK => ?_); apply Exists.intro; refine ⟨fun w s => ?_, ?_⟩; (first | (have q := s rfl; go_simp; with_reducible rfl) | (go_simp; with_reducible rfl)); (go_simp; refine hK _ ?_; clear hK K))
 refine line_nil ?_
 obtain ⟨V, hV⟩ : ∃ V, W.drew.drew = V := ⟨_, rfl⟩
 rw [hV]
 have nV : New W V := hV ▸ (Kp.drew _ _).trans (Kp.drew _ _) fid fid
 have bV : V.heap[w.heap.size]? = some (.cells (o.with i 5) 61 (0, 0)) := hV ▸ HW.out.2.1
 have hIV := HW.out.2.2.new nV
 have HV := Lib.hid (And.intro (HW.out.1.trans nV fid fid) (And.intro bV hIV))
 clear hV nV bV hIV c0 p0 p1
 have k1 : V.cell? ⟨w.heap.size, 1, none⟩ = some (.int .i64 5) := (cell_of_block HV.out.2.1).trans rfl
 have k2 : V.cell? ⟨w.heap.size, 2, none⟩ = some (.string (bstr o.name)) := (cell_of_block HV.out.2.1).trans rfl
 go_wp2_with fail
 refine wp_region_line (fun w' => w'.cell? ⟨w.heap.size, 2, none⟩ = some (.string (bstr o.name))) (pl := [(0, true), (1, true), (2, true), (5, true), (6, true), (7, true), (3, false), (4, false), (8, false), (9, false), (10, true), (11, true)]) hmo (by kernel_rfl) (by simpa using k2) ?_
 iterate 6 (refine line_get rfl rfl (fun K hK => ?_); apply Exists.intro; refine ⟨fun w s => ?_, ?_⟩; (first | (have q := s rfl; go_simp; with_reducible rfl) | (go_simp; with_reducible rfl)); (go_simp; refine hK _ ?_; clear hK K))
 (refine line_do rfl rfl (fun K hK => ?_); go_simp)
 have nd : New V V.drew := Kp.drew _ _
 have hI2 := HV.out.2.2.new nd
 have hq := hI2.at_ i x HH.out.2.2.2.1
 have H2 := Lib.hid (And.intro hI2 (And.intro hq nd))
 clear hI2 hq nd k1 k2
 refine (Sync_calls _ x.d x.s x.F o.name H2.out.2.1.p HH.out.2.2.1.name).mono ?_
 rintro e w3 ⟨rfl, F', hD3, hM3⟩
 have b3 := box_move (w := w) (W := V.drew) HV.out.2.1 hM3 (fun k hk => (HH.out.1.at_ i x HH.out.2.2.2.1).lt k (.inl hk)) (Nat.le_refl _)
 have q2 : w3.cell? ⟨w.heap.size, 2, none⟩ = some (.string (bstr o.name)) := (cell_of_block b3).trans rfl
 have H3 := Lib.hid (And.intro hD3 hM3)
 clear hD3 hM3 b3
 refine hK _ _ (fun _ => q2) ?_
 clear hK K
 (refine line_do rfl rfl (fun K hK => ?_); go_simp)
 refine (num_calls _ _).mono ?_
 rintro e w' ⟨rfl, rfl⟩
 refine hK _ _ (fun _ => q2) ?_
 clear hK K
 (refine line_do rfl rfl (fun K hK => ?_); go_simp)
 have hR3 := H2.out.2.1.q.kp H3.out.2.1 (fun k hk hm => H2.out.2.1.apart k hm hk)
 rw [← HH.out.2.2.2.2] at hR3
 have HR3 := Lib.hid hR3
 clear hR3
 refine (RSync_calls _ x.r x.s x.G o.name HR3.out HH.out.2.2.1.name).mono ?_
 rintro e w4 ⟨rfl, G', hD4, hM4⟩
 have H4 := Lib.hid (And.intro hD4 hM4)
 clear hD4 hM4
 refine hK _ _ (no_need (by kernel_rfl)) ?_
 clear hK K
 (refine line_do rfl rfl (fun K hK => ?_); go_simp)
 refine (num_calls _ _).mono ?_
 rintro e w' ⟨rfl, rfl⟩
 refine hK _ _ (no_need (by kernel_rfl)) ?_
 clear hK K
 have hve : ∃ v : Nat, (x.s.sync o.name).1 = v := ⟨_, rfl⟩
 obtain ⟨v, hv⟩ := hve
 rw [hv]
 clear hv
 iterate 2 (refine line_get rfl rfl (fun K hK => ?_); apply Exists.intro; refine ⟨fun w s => ?_, ?_⟩; (first | (have q := s rfl; go_simp; with_reducible rfl) | (go_simp; with_reducible rfl)); (go_simp; refine hK _ ?_; clear hK K))
 refine line_nil ?_
 go_wp2_with fail
 go_ret
 exact ⟨by simp, H2.out.1.both HH.out.2.1 HH.out.2.2.2.1 H3.out.1 H3.out.2 H4.out.1 H4.out.2⟩
set_option maxRecDepth 100000 in
set_option maxHeartbeats 4000000 in
theorem changes_7 (W0 w : World) (g i : Nat) (D : Pairs) (Φ : Nat → Prop) (o : OpS) (x : PD) (h : Inv W0 g D Φ w) (hA : Alike D) (ho : o.Ok W0) (hi3 : i < 3) (hx : D i = some x) :
  Calls Tryz.prog 18 #[.pointer (some ⟨g, 0, none⟩), .agg (o.with i 7)] w (StepPost W0 g) := by
 unfold OpS.with
 have hmo : Tryz.prog.follows Departure.mixedOrders = true := by kernel_rfl
 have hst := hA i x hx
 have HH := Lib.hid (And.intro h (And.intro hA (And.intro ho (And.intro hx hst))))
 have hi0 : (0 : Int) ≤ i := by omega
 have hi3' : (i : Int) < 3 := by omega
 clear h hA ho hx hst
 go_enter Tryz.func18, Tryz.ntmps18
 go_wp2_with fail
 obtain ⟨W, hW⟩ : ∃ W, w.alloc (.cells #[.int .i64 (i : Int), .int .i64 7, .string (bstr o.name), .string (bstr o.to), .slice o.bA o.body.length o.bc, .int .i64 o.at_, .int .i64 o.n, .slice o.kA o.keep.length o.kc, .int .i64 o.cap, .slice o.fA o.files.length o.fc, .int .i64 o.fuse, .bool o.down] 61) = W := ⟨_, rfl⟩
 rw [hW]
 have nW : New w W := hW ▸ Kp.alloc _ _ _
 have bW : W.heap[w.heap.size]? = some (.cells (o.with i 7) 61 (0, 0)) := hW ▸ heap_alloc_new w _
 have hI := HH.out.1.new nW
 have c0 : W.cell? ⟨w.heap.size, 0, none⟩ = some (.int .i64 (i : Int)) := (cell_of_block bW).trans rfl
 have p0 : W.cell? ⟨g, i, none⟩ = some (.pointer (some ⟨x.d, 0, none⟩)) := (hI.dpc hi3).1.trans (congrArg some (dp_some HH.out.2.2.2.1))
 have p1 : W.cell? ⟨g, 3 + i, none⟩ = some (.pointer (some ⟨x.r, 0, none⟩)) := (hI.rpc hi3).1.trans (congrArg some (rp_some HH.out.2.2.2.1))
 have HW := Lib.hid (And.intro nW (And.intro bW hI))
 clear hW nW bW hI
 refine wp_region_line (fun w' => w'.cell? ⟨w.heap.size, 0, none⟩ = some (.int .i64 (i : Int)) ∧ w'.cell? ⟨g, i, none⟩ = some (.pointer (some ⟨x.d, 0, none⟩))) (pl := [(0, true), (1, true), (2, true), (3, true), (4, true), (5, true), (6, true), (7, true)]) hmo (by kernel_rfl) ⟨by simpa using c0, by simpa using p0⟩ ?_
 iterate 8 (refine line_get rfl rfl (fun K hK => ?_); apply Exists.intro; refine ⟨fun w s => ?_, ?_⟩; (first | (have q := s rfl; go_simp; with_reducible rfl) | (go_simp; with_reducible rfl)); (go_simp; refine hK _ ?_; clear hK K))
 refine line_nil ?_
 go_wp2_with fail
 refine wp_region_line (fun w' => w'.cell? ⟨w.heap.size, 0, none⟩ = some (.int .i64 (i : Int)) ∧ w'.cell? ⟨g, 3 + i, none⟩ = some (.pointer (some ⟨x.r, 0, none⟩))) (pl := [(0, true), (1, true), (2, true), (3, true), (4, true), (5, true), (6, true), (7, true)]) hmo (by kernel_rfl) ⟨by simpa using c0, by simpa using p1⟩ ?_
 iterate 8 (refine line_get rfl rfl (fun K hK => ?_); apply Exists.intro; refine ⟨fun w s => ?_, ?_⟩; (first | (have q := s rfl; go_simp; with_reducible rfl) | (go_simp; with_reducible rfl)); (go_simp; refine hK _ ?_; clear hK K))
 refine line_nil ?_
 obtain ⟨V, hV⟩ : ∃ V, W.drew.drew = V := ⟨_, rfl⟩
 rw [hV]
 have nV : New W V := hV ▸ (Kp.drew _ _).trans (Kp.drew _ _) fid fid
 have bV : V.heap[w.heap.size]? = some (.cells (o.with i 7) 61 (0, 0)) := hV ▸ HW.out.2.1
 have hIV := HW.out.2.2.new nV
 have HV := Lib.hid (And.intro (HW.out.1.trans nV fid fid) (And.intro bV hIV))
 clear hV nV bV hIV c0 p0 p1
 have k1 : V.cell? ⟨w.heap.size, 1, none⟩ = some (.int .i64 7) := (cell_of_block HV.out.2.1).trans rfl
 have k2 : V.cell? ⟨w.heap.size, 2, none⟩ = some (.string (bstr o.name)) := (cell_of_block HV.out.2.1).trans rfl
 go_wp2_with fail
 refine wp_region_line (fun w' => w'.cell? ⟨w.heap.size, 2, none⟩ = some (.string (bstr o.name))) (pl := [(0, true), (1, true), (2, true), (5, true), (6, true), (7, true), (3, false), (4, false), (8, false), (9, false), (10, true), (11, true)]) hmo (by kernel_rfl) (by simpa using k2) ?_
 iterate 6 (refine line_get rfl rfl (fun K hK => ?_); apply Exists.intro; refine ⟨fun w s => ?_, ?_⟩; (first | (have q := s rfl; go_simp; with_reducible rfl) | (go_simp; with_reducible rfl)); (go_simp; refine hK _ ?_; clear hK K))
 (refine line_do rfl rfl (fun K hK => ?_); go_simp)
 have nd : New V V.drew := Kp.drew _ _
 have hI2 := HV.out.2.2.new nd
 have hq := hI2.at_ i x HH.out.2.2.2.1
 have H2 := Lib.hid (And.intro hI2 (And.intro hq nd))
 clear hI2 hq nd k1 k2
 refine (Remove_calls _ x.d x.s x.F o.name H2.out.2.1.p HH.out.2.2.1.name).mono ?_
 rintro e w3 ⟨rfl, F', hD3, hM3⟩
 have b3 := box_move (w := w) (W := V.drew) HV.out.2.1 hM3 (fun k hk => (HH.out.1.at_ i x HH.out.2.2.2.1).lt k (.inl hk)) (Nat.le_refl _)
 have q2 : w3.cell? ⟨w.heap.size, 2, none⟩ = some (.string (bstr o.name)) := (cell_of_block b3).trans rfl
 have H3 := Lib.hid (And.intro hD3 hM3)
 clear hD3 hM3 b3
 refine hK _ _ (fun _ => q2) ?_
 clear hK K
 (refine line_do rfl rfl (fun K hK => ?_); go_simp)
 refine (num_calls _ _).mono ?_
 rintro e w' ⟨rfl, rfl⟩
 refine hK _ _ (fun _ => q2) ?_
 clear hK K
 (refine line_do rfl rfl (fun K hK => ?_); go_simp)
 have hR3 := H2.out.2.1.q.kp H3.out.2.1 (fun k hk hm => H2.out.2.1.apart k hm hk)
 rw [← HH.out.2.2.2.2] at hR3
 have HR3 := Lib.hid hR3
 clear hR3
 refine (RRemove_calls _ x.r x.s x.G o.name HR3.out HH.out.2.2.1.name).mono ?_
 rintro e w4 ⟨rfl, G', hD4, hM4⟩
 have H4 := Lib.hid (And.intro hD4 hM4)
 clear hD4 hM4
 refine hK _ _ (no_need (by kernel_rfl)) ?_
 clear hK K
 (refine line_do rfl rfl (fun K hK => ?_); go_simp)
 refine (num_calls _ _).mono ?_
 rintro e w' ⟨rfl, rfl⟩
 refine hK _ _ (no_need (by kernel_rfl)) ?_
 clear hK K
 have hve : ∃ v : Nat, (x.s.remove o.name).1 = v := ⟨_, rfl⟩
 obtain ⟨v, hv⟩ := hve
 rw [hv]
 clear hv
 iterate 2 (refine line_get rfl rfl (fun K hK => ?_); apply Exists.intro; refine ⟨fun w s => ?_, ?_⟩; (first | (have q := s rfl; go_simp; with_reducible rfl) | (go_simp; with_reducible rfl)); (go_simp; refine hK _ ?_; clear hK K))
 refine line_nil ?_
 go_wp2_with fail
 go_ret
 exact ⟨by simp, H2.out.1.both HH.out.2.1 HH.out.2.2.2.1 H3.out.1 H3.out.2 H4.out.1 H4.out.2⟩
set_option maxRecDepth 100000 in
set_option maxHeartbeats 4000000 in
theorem changes_6 (W0 w : World) (g i : Nat) (D : Pairs) (Φ : Nat → Prop) (o : OpS) (x : PD) (h : Inv W0 g D Φ w) (hA : Alike D) (ho : o.Ok W0) (hi3 : i < 3) (hx : D i = some x) :
  Calls Tryz.prog 18 #[.pointer (some ⟨g, 0, none⟩), .agg (o.with i 6)] w (StepPost W0 g) := by
 unfold OpS.with
 have hmo : Tryz.prog.follows Departure.mixedOrders = true := by kernel_rfl
 have hst := hA i x hx
 have HH := Lib.hid (And.intro h (And.intro hA (And.intro ho (And.intro hx hst))))
 have hi0 : (0 : Int) ≤ i := by omega
 have hi3' : (i : Int) < 3 := by omega
 clear h hA ho hx hst
 go_enter Tryz.func18, Tryz.ntmps18
 go_wp2_with fail
 obtain ⟨W, hW⟩ : ∃ W, w.alloc (.cells #[.int .i64 (i : Int), .int .i64 6, .string (bstr o.name), .string (bstr o.to), .slice o.bA o.body.length o.bc, .int .i64 o.at_, .int .i64 o.n, .slice o.kA o.keep.length o.kc, .int .i64 o.cap, .slice o.fA o.files.length o.fc, .int .i64 o.fuse, .bool o.down] 61) = W := ⟨_, rfl⟩
 rw [hW]
 have nW : New w W := hW ▸ Kp.alloc _ _ _
 have bW : W.heap[w.heap.size]? = some (.cells (o.with i 6) 61 (0, 0)) := hW ▸ heap_alloc_new w _
 have hI := HH.out.1.new nW
 have c0 : W.cell? ⟨w.heap.size, 0, none⟩ = some (.int .i64 (i : Int)) := (cell_of_block bW).trans rfl
 have p0 : W.cell? ⟨g, i, none⟩ = some (.pointer (some ⟨x.d, 0, none⟩)) := (hI.dpc hi3).1.trans (congrArg some (dp_some HH.out.2.2.2.1))
 have p1 : W.cell? ⟨g, 3 + i, none⟩ = some (.pointer (some ⟨x.r, 0, none⟩)) := (hI.rpc hi3).1.trans (congrArg some (rp_some HH.out.2.2.2.1))
 have HW := Lib.hid (And.intro nW (And.intro bW hI))
 clear hW nW bW hI
 refine wp_region_line (fun w' => w'.cell? ⟨w.heap.size, 0, none⟩ = some (.int .i64 (i : Int)) ∧ w'.cell? ⟨g, i, none⟩ = some (.pointer (some ⟨x.d, 0, none⟩))) (pl := [(0, true), (1, true), (2, true), (3, true), (4, true), (5, true), (6, true), (7, true)]) hmo (by kernel_rfl) ⟨by simpa using c0, by simpa using p0⟩ ?_
 iterate 8 (refine line_get rfl rfl (fun K hK => ?_); apply Exists.intro; refine ⟨fun w s => ?_, ?_⟩; (first | (have q := s rfl; go_simp; with_reducible rfl) | (go_simp; with_reducible rfl)); (go_simp; refine hK _ ?_; clear hK K))
 refine line_nil ?_
 go_wp2_with fail
 refine wp_region_line (fun w' => w'.cell? ⟨w.heap.size, 0, none⟩ = some (.int .i64 (i : Int)) ∧ w'.cell? ⟨g, 3 + i, none⟩ = some (.pointer (some ⟨x.r, 0, none⟩))) (pl := [(0, true), (1, true), (2, true), (3, true), (4, true), (5, true), (6, true), (7, true)]) hmo (by kernel_rfl) ⟨by simpa using c0, by simpa using p1⟩ ?_
 iterate 8 (refine line_get rfl rfl (fun K hK => ?_); apply Exists.intro; refine ⟨fun w s => ?_, ?_⟩; (first | (have q := s rfl; go_simp; with_reducible rfl) | (go_simp; with_reducible rfl)); (go_simp; refine hK _ ?_; clear hK K))
 refine line_nil ?_
 obtain ⟨V, hV⟩ : ∃ V, W.drew.drew = V := ⟨_, rfl⟩
 rw [hV]
 have nV : New W V := hV ▸ (Kp.drew _ _).trans (Kp.drew _ _) fid fid
 have bV : V.heap[w.heap.size]? = some (.cells (o.with i 6) 61 (0, 0)) := hV ▸ HW.out.2.1
 have hIV := HW.out.2.2.new nV
 have HV := Lib.hid (And.intro (HW.out.1.trans nV fid fid) (And.intro bV hIV))
 clear hV nV bV hIV c0 p0 p1
 have k1 : V.cell? ⟨w.heap.size, 1, none⟩ = some (.int .i64 6) := (cell_of_block HV.out.2.1).trans rfl
 have k2 : V.cell? ⟨w.heap.size, 2, none⟩ = some (.string (bstr o.name)) := (cell_of_block HV.out.2.1).trans rfl
 have k3 : V.cell? ⟨w.heap.size, 3, none⟩ = some (.string (bstr o.to)) := (cell_of_block HV.out.2.1).trans rfl
 go_wp2_with fail
 refine wp_region_line (fun w' => w'.cell? ⟨w.heap.size, 2, none⟩ = some (.string (bstr o.name)) ∧ w'.cell? ⟨w.heap.size, 3, none⟩ = some (.string (bstr o.to))) (pl := [(0, true), (1, true), (2, true), (3, true), (4, true), (7, true), (8, true), (9, true), (10, true), (11, true), (5, false), (6, false), (12, false), (13, false), (14, true), (15, true)]) hmo (by kernel_rfl) ⟨by simpa using k2, by simpa using k3⟩ ?_
 iterate 10 (refine line_get rfl rfl (fun K hK => ?_); apply Exists.intro; refine ⟨fun w s => ?_, ?_⟩; (first | (have q := s rfl; go_simp; with_reducible rfl) | (go_simp; with_reducible rfl)); (go_simp; refine hK _ ?_; clear hK K))
 (refine line_do rfl rfl (fun K hK => ?_); go_simp)
 have nd : New V V.drew := Kp.drew _ _
 have hI2 := HV.out.2.2.new nd
 have hq := hI2.at_ i x HH.out.2.2.2.1
 have H2 := Lib.hid (And.intro hI2 (And.intro hq nd))
 clear hI2 hq nd k1 k2 k3
 refine (Rename_calls _ x.d x.s x.F o.name o.to H2.out.2.1.p HH.out.2.2.1.name HH.out.2.2.1.to).mono ?_
 rintro e w3 ⟨rfl, F', hD3, hM3⟩
 have b3 := box_move (w := w) (W := V.drew) HV.out.2.1 hM3 (fun k hk => (HH.out.1.at_ i x HH.out.2.2.2.1).lt k (.inl hk)) (Nat.le_refl _)
 have q2 : w3.cell? ⟨w.heap.size, 2, none⟩ = some (.string (bstr o.name)) := (cell_of_block b3).trans rfl
 have q3 : w3.cell? ⟨w.heap.size, 3, none⟩ = some (.string (bstr o.to)) := (cell_of_block b3).trans rfl
 have H3 := Lib.hid (And.intro hD3 hM3)
 clear hD3 hM3 b3
 refine hK _ _ (fun _ => ⟨q2, q3⟩) ?_
 clear hK K
 (refine line_do rfl rfl (fun K hK => ?_); go_simp)
 refine (num_calls _ _).mono ?_
 rintro e w' ⟨rfl, rfl⟩
 refine hK _ _ (fun _ => ⟨q2, q3⟩) ?_
 clear hK K
 (refine line_do rfl rfl (fun K hK => ?_); go_simp)
 have hR3 := H2.out.2.1.q.kp H3.out.2.1 (fun k hk hm => H2.out.2.1.apart k hm hk)
 rw [← HH.out.2.2.2.2] at hR3
 have HR3 := Lib.hid hR3
 clear hR3
 refine (RRename_calls _ x.r x.s x.G o.name o.to HR3.out HH.out.2.2.1.name HH.out.2.2.1.to).mono ?_
 rintro e w4 ⟨rfl, G', hD4, hM4⟩
 have H4 := Lib.hid (And.intro hD4 hM4)
 clear hD4 hM4
 refine hK _ _ (no_need (by kernel_rfl)) ?_
 clear hK K
 (refine line_do rfl rfl (fun K hK => ?_); go_simp)
 refine (num_calls _ _).mono ?_
 rintro e w' ⟨rfl, rfl⟩
 refine hK _ _ (no_need (by kernel_rfl)) ?_
 clear hK K
 have hve : ∃ v : Nat, (x.s.rename o.name o.to).1 = v := ⟨_, rfl⟩
 obtain ⟨v, hv⟩ := hve
 rw [hv]
 clear hv
 iterate 2 (refine line_get rfl rfl (fun K hK => ?_); apply Exists.intro; refine ⟨fun w s => ?_, ?_⟩; (first | (have q := s rfl; go_simp; with_reducible rfl) | (go_simp; with_reducible rfl)); (go_simp; refine hK _ ?_; clear hK K))
 refine line_nil ?_
 go_wp2_with fail
 go_ret
 exact ⟨by simp, H2.out.1.both HH.out.2.1 HH.out.2.2.2.1 H3.out.1 H3.out.2 H4.out.1 H4.out.2⟩
set_option maxRecDepth 100000 in
set_option maxHeartbeats 4000000 in
theorem changes_12 (W0 w : World) (g i : Nat) (D : Pairs) (Φ : Nat → Prop) (o : OpS) (x : PD) (h : Inv W0 g D Φ w) (hA : Alike D) (ho : o.Ok W0) (hi3 : i < 3) (hx : D i = some x) :
  Calls Tryz.prog 18 #[.pointer (some ⟨g, 0, none⟩), .agg (o.with i 12)] w (StepPost W0 g) := by
 unfold OpS.with
 have hmo : Tryz.prog.follows Departure.mixedOrders = true := by kernel_rfl
 have hst := hA i x hx
 have HH := Lib.hid (And.intro h (And.intro hA (And.intro ho (And.intro hx hst))))
 have hi0 : (0 : Int) ≤ i := by omega
 have hi3' : (i : Int) < 3 := by omega
 clear h hA ho hx hst
 go_enter Tryz.func18, Tryz.ntmps18
 go_wp2_with fail
 obtain ⟨W, hW⟩ : ∃ W, w.alloc (.cells #[.int .i64 (i : Int), .int .i64 12, .string (bstr o.name), .string (bstr o.to), .slice o.bA o.body.length o.bc, .int .i64 o.at_, .int .i64 o.n, .slice o.kA o.keep.length o.kc, .int .i64 o.cap, .slice o.fA o.files.length o.fc, .int .i64 o.fuse, .bool o.down] 61) = W := ⟨_, rfl⟩
 rw [hW]
 have nW : New w W := hW ▸ Kp.alloc _ _ _
 have bW : W.heap[w.heap.size]? = some (.cells (o.with i 12) 61 (0, 0)) := hW ▸ heap_alloc_new w _
 have hI := HH.out.1.new nW
 have c0 : W.cell? ⟨w.heap.size, 0, none⟩ = some (.int .i64 (i : Int)) := (cell_of_block bW).trans rfl
 have p0 : W.cell? ⟨g, i, none⟩ = some (.pointer (some ⟨x.d, 0, none⟩)) := (hI.dpc hi3).1.trans (congrArg some (dp_some HH.out.2.2.2.1))
 have p1 : W.cell? ⟨g, 3 + i, none⟩ = some (.pointer (some ⟨x.r, 0, none⟩)) := (hI.rpc hi3).1.trans (congrArg some (rp_some HH.out.2.2.2.1))
 have HW := Lib.hid (And.intro nW (And.intro bW hI))
 clear hW nW bW hI
 refine wp_region_line (fun w' => w'.cell? ⟨w.heap.size, 0, none⟩ = some (.int .i64 (i : Int)) ∧ w'.cell? ⟨g, i, none⟩ = some (.pointer (some ⟨x.d, 0, none⟩))) (pl := [(0, true), (1, true), (2, true), (3, true), (4, true), (5, true), (6, true), (7, true)]) hmo (by kernel_rfl) ⟨by simpa using c0, by simpa using p0⟩ ?_
 iterate 8 (refine line_get rfl rfl (fun K hK => ?_); apply Exists.intro; refine ⟨fun w s => ?_, ?_⟩; (first | (have q := s rfl; go_simp; with_reducible rfl) | (go_simp; with_reducible rfl)); (go_simp; refine hK _ ?_; clear hK K))
 refine line_nil ?_
 go_wp2_with fail
 refine wp_region_line (fun w' => w'.cell? ⟨w.heap.size, 0, none⟩ = some (.int .i64 (i : Int)) ∧ w'.cell? ⟨g, 3 + i, none⟩ = some (.pointer (some ⟨x.r, 0, none⟩))) (pl := [(0, true), (1, true), (2, true), (3, true), (4, true), (5, true), (6, true), (7, true)]) hmo (by kernel_rfl) ⟨by simpa using c0, by simpa using p1⟩ ?_
 iterate 8 (refine line_get rfl rfl (fun K hK => ?_); apply Exists.intro; refine ⟨fun w s => ?_, ?_⟩; (first | (have q := s rfl; go_simp; with_reducible rfl) | (go_simp; with_reducible rfl)); (go_simp; refine hK _ ?_; clear hK K))
 refine line_nil ?_
 obtain ⟨V, hV⟩ : ∃ V, W.drew.drew = V := ⟨_, rfl⟩
 rw [hV]
 have nV : New W V := hV ▸ (Kp.drew _ _).trans (Kp.drew _ _) fid fid
 have bV : V.heap[w.heap.size]? = some (.cells (o.with i 12) 61 (0, 0)) := hV ▸ HW.out.2.1
 have hIV := HW.out.2.2.new nV
 have HV := Lib.hid (And.intro (HW.out.1.trans nV fid fid) (And.intro bV hIV))
 clear hV nV bV hIV c0 p0 p1
 have k1 : V.cell? ⟨w.heap.size, 1, none⟩ = some (.int .i64 12) := (cell_of_block HV.out.2.1).trans rfl
 have k6 : V.cell? ⟨w.heap.size, 6, none⟩ = some (.int .i64 o.n) := (cell_of_block HV.out.2.1).trans rfl
 go_wp2_with fail
 refine wp_region_line (fun w' => w'.cell? ⟨w.heap.size, 6, none⟩ = some (.int .i64 o.n)) (pl := [(0, true), (1, true), (2, true), (5, true), (6, true), (7, true), (3, false), (4, false), (8, false), (9, false), (10, true), (11, true)]) hmo (by kernel_rfl) (by simpa using k6) ?_
 iterate 6 (refine line_get rfl rfl (fun K hK => ?_); apply Exists.intro; refine ⟨fun w s => ?_, ?_⟩; (first | (have q := s rfl; go_simp; with_reducible rfl) | (go_simp; with_reducible rfl)); (go_simp; refine hK _ ?_; clear hK K))
 (refine line_do rfl rfl (fun K hK => ?_); go_simp)
 have nd : New V V.drew := Kp.drew _ _
 have hI2 := HV.out.2.2.new nd
 have hq := hI2.at_ i x HH.out.2.2.2.1
 have H2 := Lib.hid (And.intro hI2 (And.intro hq nd))
 clear hI2 hq nd k1 k6
 refine (Fuse_calls _ x.d x.s x.F o.n H2.out.2.1.p).mono ?_
 rintro e w3 ⟨rfl, F', hD3, hM3⟩
 have b3 := box_move (w := w) (W := V.drew) HV.out.2.1 hM3 (fun k hk => (HH.out.1.at_ i x HH.out.2.2.2.1).lt k (.inl hk)) (Nat.le_refl _)
 have q6 : w3.cell? ⟨w.heap.size, 6, none⟩ = some (.int .i64 o.n) := (cell_of_block b3).trans rfl
 have H3 := Lib.hid (And.intro hD3 hM3)
 clear hD3 hM3 b3
 refine hK _ _ (fun _ => q6) ?_
 clear hK K
 (refine line_do rfl rfl (fun K hK => ?_); go_simp)
 refine (num_calls _ _).mono ?_
 rintro e w' ⟨rfl, rfl⟩
 refine hK _ _ (fun _ => q6) ?_
 clear hK K
 (refine line_do rfl rfl (fun K hK => ?_); go_simp)
 have hR3 := H2.out.2.1.q.kp H3.out.2.1 (fun k hk hm => H2.out.2.1.apart k hm hk)
 rw [← HH.out.2.2.2.2] at hR3
 have HR3 := Lib.hid hR3
 clear hR3
 refine (RFuse_calls _ x.r x.s x.G o.n HR3.out).mono ?_
 rintro e w4 ⟨rfl, G', hD4, hM4⟩
 have H4 := Lib.hid (And.intro hD4 hM4)
 clear hD4 hM4
 refine hK _ _ (no_need (by kernel_rfl)) ?_
 clear hK K
 (refine line_do rfl rfl (fun K hK => ?_); go_simp)
 refine (num_calls _ _).mono ?_
 rintro e w' ⟨rfl, rfl⟩
 refine hK _ _ (no_need (by kernel_rfl)) ?_
 clear hK K
 have hve : ∃ v : Nat, (x.s.setFuse o.n).1 = v := ⟨_, rfl⟩
 obtain ⟨v, hv⟩ := hve
 rw [hv]
 clear hv
 iterate 2 (refine line_get rfl rfl (fun K hK => ?_); apply Exists.intro; refine ⟨fun w s => ?_, ?_⟩; (first | (have q := s rfl; go_simp; with_reducible rfl) | (go_simp; with_reducible rfl)); (go_simp; refine hK _ ?_; clear hK K))
 refine line_nil ?_
 go_wp2_with fail
 go_ret
 exact ⟨by simp, H2.out.1.both HH.out.2.1 HH.out.2.2.2.1 H3.out.1 H3.out.2 H4.out.1 H4.out.2⟩
set_option maxRecDepth 100000 in
set_option maxHeartbeats 4000000 in
theorem changes_4 (W0 w : World) (g i : Nat) (D : Pairs) (Φ : Nat → Prop) (o : OpS) (x : PD) (h : Inv W0 g D Φ w) (hA : Alike D) (ho : o.Ok W0) (hi3 : i < 3) (hx : D i = some x) :
  Calls Tryz.prog 18 #[.pointer (some ⟨g, 0, none⟩), .agg (o.with i 4)] w (StepPost W0 g) := by
 unfold OpS.with
 have hmo : Tryz.prog.follows Departure.mixedOrders = true := by kernel_rfl
 have hst := hA i x hx
 have HH := Lib.hid (And.intro h (And.intro hA (And.intro ho (And.intro hx hst))))
 have hi0 : (0 : Int) ≤ i := by omega
 have hi3' : (i : Int) < 3 := by omega
 clear h hA ho hx hst
 go_enter Tryz.func18, Tryz.ntmps18
 go_wp2_with fail
 obtain ⟨W, hW⟩ : ∃ W, w.alloc (.cells #[.int .i64 (i : Int), .int .i64 4, .string (bstr o.name), .string (bstr o.to), .slice o.bA o.body.length o.bc, .int .i64 o.at_, .int .i64 o.n, .slice o.kA o.keep.length o.kc, .int .i64 o.cap, .slice o.fA o.files.length o.fc, .int .i64 o.fuse, .bool o.down] 61) = W := ⟨_, rfl⟩
 rw [hW]
 have nW : New w W := hW ▸ Kp.alloc _ _ _
 have bW : W.heap[w.heap.size]? = some (.cells (o.with i 4) 61 (0, 0)) := hW ▸ heap_alloc_new w _
 have hI := HH.out.1.new nW
 have c0 : W.cell? ⟨w.heap.size, 0, none⟩ = some (.int .i64 (i : Int)) := (cell_of_block bW).trans rfl
 have p0 : W.cell? ⟨g, i, none⟩ = some (.pointer (some ⟨x.d, 0, none⟩)) := (hI.dpc hi3).1.trans (congrArg some (dp_some HH.out.2.2.2.1))
 have p1 : W.cell? ⟨g, 3 + i, none⟩ = some (.pointer (some ⟨x.r, 0, none⟩)) := (hI.rpc hi3).1.trans (congrArg some (rp_some HH.out.2.2.2.1))
 have HW := Lib.hid (And.intro nW (And.intro bW hI))
 clear hW nW bW hI
 refine wp_region_line (fun w' => w'.cell? ⟨w.heap.size, 0, none⟩ = some (.int .i64 (i : Int)) ∧ w'.cell? ⟨g, i, none⟩ = some (.pointer (some ⟨x.d, 0, none⟩))) (pl := [(0, true), (1, true), (2, true), (3, true), (4, true), (5, true), (6, true), (7, true)]) hmo (by kernel_rfl) ⟨by simpa using c0, by simpa using p0⟩ ?_
 iterate 8 (refine line_get rfl rfl (fun K hK => ?_); apply Exists.intro; refine ⟨fun w s => ?_, ?_⟩; (first | (have q := s rfl; go_simp; with_reducible rfl) | (go_simp; with_reducible rfl)); (go_simp; refine hK _ ?_; clear hK K))
 refine line_nil ?_
 go_wp2_with fail
 refine wp_region_line (fun w' => w'.cell? ⟨w.heap.size, 0, none⟩ = some (.int .i64 (i : Int)) ∧ w'.cell? ⟨g, 3 + i, none⟩ = some (.pointer (some ⟨x.r, 0, none⟩))) (pl := [(0, true), (1, true), (2, true), (3, true), (4, true), (5, true), (6, true), (7, true)]) hmo (by kernel_rfl) ⟨by simpa using c0, by simpa using p1⟩ ?_
 iterate 8 (refine line_get rfl rfl (fun K hK => ?_); apply Exists.intro; refine ⟨fun w s => ?_, ?_⟩; (first | (have q := s rfl; go_simp; with_reducible rfl) | (go_simp; with_reducible rfl)); (go_simp; refine hK _ ?_; clear hK K))
 refine line_nil ?_
 obtain ⟨V, hV⟩ : ∃ V, W.drew.drew = V := ⟨_, rfl⟩
 rw [hV]
 have nV : New W V := hV ▸ (Kp.drew _ _).trans (Kp.drew _ _) fid fid
 have bV : V.heap[w.heap.size]? = some (.cells (o.with i 4) 61 (0, 0)) := hV ▸ HW.out.2.1
 have hIV := HW.out.2.2.new nV
 have HV := Lib.hid (And.intro (HW.out.1.trans nV fid fid) (And.intro bV hIV))
 clear hV nV bV hIV c0 p0 p1
 have k1 : V.cell? ⟨w.heap.size, 1, none⟩ = some (.int .i64 4) := (cell_of_block HV.out.2.1).trans rfl
 have k2 : V.cell? ⟨w.heap.size, 2, none⟩ = some (.string (bstr o.name)) := (cell_of_block HV.out.2.1).trans rfl
 have k4 : V.cell? ⟨w.heap.size, 4, none⟩ = some (.slice o.bA o.body.length o.bc) := (cell_of_block HV.out.2.1).trans rfl
 go_wp2_with fail
 refine (RoomB_calls V o.bA o.body.length o.bc o.body (HH.out.2.2.1.body.low HV.out.2.2.low) rfl HH.out.2.2.1.bodyLen).mono ?_
 rintro e w2 ⟨A2, n2, c2, rfl, rfl, o2, nn2, f2⟩
 have hl2 : (o.body ++ marksB 700000 64).length = o.body.length + 64 := by rw [List.length_append, marksB_length]
 rw [hl2] at o2 ⊢
 have hc2 := o2.cap
 have hbl := HH.out.2.2.1.bodyLen
 simp only [maxLen] at hc2
 have q2 := New.cell nn2 k2
 have q4 := New.cell nn2 k4
 have hI2 := HV.out.2.2.new nn2
 have hq := hI2.at_ i x HH.out.2.2.2.1
 have b2 := heap_kp' HV.out.2.1 nn2 id
 have H2 := Lib.hid (And.intro hI2 (And.intro hq (And.intro nn2 (And.intro o2 (And.intro f2 b2)))))
 clear hI2 hq nn2 o2 f2 b2 k1 k2 k4
 have hup := fun (w : World) => run_slice_upto (P := Tryz.prog) 55 5 Tryz.underlying55 1 Tryz.size_u8 A2 (o.body.length + 64) c2 o.body.length (by omega) w
 go_wp2_with fail
 refine wp_region_line (fun w' => w'.cell? ⟨w.heap.size, 2, none⟩ = some (.string (bstr o.name)) ∧ w'.cell? ⟨w.heap.size, 4, none⟩ = some (.slice o.bA o.body.length o.bc)) (pl := [(0, true), (1, true), (2, true), (3, true), (4, true), (5, true), (6, true), (7, true), (8, false), (9, true)]) hmo (by kernel_rfl) ⟨by simpa using q2, by simpa using q4⟩ ?_
 iterate 8 (refine line_get rfl rfl (fun K hK => ?_); apply Exists.intro; refine ⟨fun w s => ?_, ?_⟩; (first | (have q := s rfl; go_simp; with_reducible rfl) | (go_simp; with_reducible rfl)); (go_simp; refine hK _ ?_; clear hK K))
 clear hup
 (refine line_do rfl rfl (fun K hK => ?_); go_simp)
 have nd : New w2 w2.drew := Kp.drew _ _
 have hwx : w.heap.size ≤ w2.heap.size := Nat.le_trans HV.out.1.size H2.out.2.2.1.size
 have hfx : ∀ k, x.Fp k → k < w.heap.size := (HH.out.1.at_ i x HH.out.2.2.2.1).lt
 have hfa : ∀ k, Bk A2 k → ¬ x.Fp k := fun k hk hf => by have := H2.out.2.2.2.2.1 k hk; have := hfx k hf; have := HV.out.1.size; omega
 have hdx : x.Fp x.d := .inl (HH.out.1.at_ i x HH.out.2.2.2.1).p.mem
 have hrd : RdB w2.drew A2 o.body := by
  have := (H2.out.2.2.2.1.rd2.new nd).upto o.body.length
  rwa [List.take_left] at this
 refine (Append_calls w2.drew x.d x.s x.F o.name A2 o.body.length c2 o.body (H2.out.2.1.p.new nd) HH.out.2.2.1.name hrd rfl (by omega) (fun k hk e => hfa k hk (e ▸ hdx))).mono ?_
 rintro e w3 ⟨rfl, F', hD3, hM3⟩
 have HF := Lib.hid (And.intro hwx (And.intro hfx (And.intro hfa nd)))
 have H3 := Lib.hid (And.intro hD3 hM3)
 clear hD3 hM3 hwx hfx hfa hdx hrd nd q2 q4
 refine hK _ _ (no_need (by kernel_rfl)) ?_
 clear hK K
 (refine line_get rfl rfl (fun K hK => ?_); apply Exists.intro; refine ⟨fun w s => ?_, ?_⟩; (first | (have q := s rfl; go_simp; with_reducible rfl) | (go_simp; with_reducible rfl)); (go_simp; refine hK _ ?_; clear hK K))
 refine line_nil ?_
 have b3 := box_move (w := w) (heap_kp' H2.out.2.2.2.2.2 HF.out.2.2.2 id) H3.out.2 (fun k hk => HF.out.2.1 k (.inl hk)) (Nat.le_refl _)
 have q2 : w3.cell? ⟨w.heap.size, 2, none⟩ = some (.string (bstr o.name)) := (cell_of_block b3).trans rfl
 have q4 : w3.cell? ⟨w.heap.size, 4, none⟩ = some (.slice o.bA o.body.length o.bc) := (cell_of_block b3).trans rfl
 have HB3 := Lib.hid b3
 clear b3
 go_wp2_with fail
 have hR3 := (H2.out.2.1.q.new HF.out.2.2.2).kp H3.out.2.1 (fun k hk hm => H2.out.2.1.apart k hm hk)
 rw [← HH.out.2.2.2.2] at hR3
 have hI3 := (H2.out.1.new HF.out.2.2.2).moveD HH.out.2.2.2.1 H3.out.1 H3.out.2
 have HR3 := Lib.hid (And.intro hR3 hI3)
 clear hR3 hI3
 refine (RAppend_calls w3 x.r x.s x.G o.name o.bA o.bc o.body HR3.out.1 HH.out.2.2.1.name (HH.out.2.2.1.body.low HR3.out.2.low) (fun hne hb => HH.out.1.notIn HH.out.2.2.2.1 (HH.out.2.2.1.body.lowBk hne _ hb) (.inr (by obtain ⟨_, _, _, _, e⟩ := HR3.out.1; rw [e]; exact List.mem_cons_self))) (by omega)).mono ?_
 rintro e w4 ⟨rfl, G', hD4, hM4⟩
 have H4 := Lib.hid (And.intro hD4 hM4)
 clear hD4 hM4
 have b4 := box_move (w := w) HB3.out H4.out.2 (fun k hk => HF.out.2.1 k (.inr hk)) (Nat.le_refl _)
 have q4 : w4.cell? ⟨w.heap.size, 4, none⟩ = some (.slice o.bA o.body.length o.bc) := (cell_of_block b4).trans rfl
 clear b4 q2
 have hve : ∃ v : Nat, (x.s.append o.name o.body).1 = v := ⟨_, rfl⟩
 obtain ⟨v, hv⟩ := hve
 rw [hv]
 clear hv
 go_wp2_with fail
 refine (num_calls _ _).mono ?_
 rintro e w' ⟨rfl, rfl⟩
 go_wp2_with fail
 refine (num_calls _ _).mono ?_
 rintro e w' ⟨rfl, rfl⟩
 go_wp2_with fail
 have hI4 := HR3.out.2.moveR (x := { x with s := (x.s.append o.name o.body).2, F := F' }) (upD_at _ _ _) H4.out.1 H4.out.2
 rw [upD_upD] at hI4
 have hO4 : Own w4 5 1 A2 c2 (o.body.length + 64) (bcs (o.body ++ marksB 700000 64)) := ((H2.out.2.2.2.1.new HF.out.2.2.2).kp H3.out.2.1 (fun k hk hm => HF.out.2.2.1 k hk (.inl hm))).kp H4.out.2.1 (fun k hk hm => HF.out.2.2.1 k hk (.inr hm))
 have HI4 := Lib.hid (And.intro hI4 hO4)
 clear hI4 hO4
 refine (KeptB_calls w4 A2 o.bA (o.body.length + 64) o.body.length c2 o.bc o.body HI4.out.2.rd2 (HH.out.2.2.1.body.low HI4.out.1.low) rfl rfl HH.out.2.2.1.bodyLen).mono ?_
 rintro e w5 ⟨rfl, nq, rfl⟩
 clear q4
 go_wp2_with fail
 obtain ⟨w6, hw6⟩ : ∃ w6, (w4.drewN nq).alloc (.cells #[.slice A2 (o.body.length + 64) c2] 55) = w6 := ⟨_, rfl⟩
 have hw6' : (w4.alloc (.cells #[.slice A2 (o.body.length + 64) c2] 55)).drewN nq = w6 := hw6
 try rw [hw6]
 try rw [hw6']
 have n6 : New w4 w6 := hw6 ▸ (Kp.drewN _ _ _).trans (Kp.alloc _ _ _) fid fid
 have b6 : w6.heap[w4.heap.size]? = some (.cells #[.slice A2 (o.body.length + 64) c2] 55 (0, 0)) := hw6 ▸ heap_alloc_new (w4.drewN nq) _
 have hlt2 := H2.out.2.2.2.1.lt
 have hz23 := H3.out.2.1.size
 have hz34 := H4.out.2.1.size
 have hz2d : w2.drew.heap.size = w2.heap.size := rfl
 have hwr : WrL w6 (some ⟨w4.heap.size, 0, none⟩) 1 [⟨A2, c2, o.body ++ marksB 700000 64⟩] := by
  refine ⟨⟨rfl, .inr ⟨_, _, rfl, b6, Nat.le_refl _, by simp [maxLen], by simp, by simp [BSl.val, hl2]⟩⟩, fun y hy => ?_, fun k hk hm => ?_⟩
  ·obtain rfl := List.mem_singleton.1 hy
   exact ⟨_, by show Own w6 _ 1 A2 c2 (o.body ++ marksB 700000 64).length _; rw [hl2]; exact HI4.out.2.new n6⟩
  ·obtain ⟨y, hy, hb⟩ := mem_blks.1 hm
   obtain rfl := List.mem_singleton.1 hy
   have := hlt2 k hb
   have := Bk.some_.1 hk
   simp only at this
   omega
 have HL := Lib.hid (And.intro hwr n6)
 clear hw6 hw6' hlt2 hz23 hz34 hz2d b6 hwr n6
 refine (over_calls w6 (some ⟨w4.heap.size, 0, none⟩) none 1 0 0 [⟨A2, c2, o.body ++ marksB 700000 64⟩] [] HL.out.1 (Own.nil _ _ _) (fun k hk => absurd hk Bk.none_)).mono ?_
 rintro e w7 ⟨rfl, hk7⟩
 have H7 := Lib.hid hk7
 clear hk7
 go_wp2_with fail
 go_ret
 have hI6 := HI4.out.1.new HL.out.2
 have hA2k : ∀ k, (k ∈ blks [(⟨A2, c2, o.body ++ marksB 700000 64⟩ : BSl)] ∨ Bk none k) → Bk A2 k := fun k hk => hk.elim (fun hm => by obtain ⟨y, hy, hb⟩ := mem_blks.1 hm; obtain rfl := List.mem_singleton.1 hy; exact hb) (fun h => absurd h Bk.none_)
 have hS := H7.out.mono (U := Bk A2) fun k _ hk => hA2k k hk
 have hw0 := HH.out.1.low.size
 have hwv := HV.out.1.size
 have hA2w : ∀ k, Bk A2 k → w.heap.size ≤ k := fun k hk => by have := H2.out.2.2.2.2.1 k hk; omega
 have hA2l := H2.out.2.2.2.1.lt
 refine ⟨by simp, _, _, hI6.free hS (fun k hk hf => by have := hA2w k hk; have := HH.out.1.book.lt k hf; omega) (fun j y hy k hk hb => ?_) (fun k hk => by have := hA2w k hk; omega), HH.out.2.1.up rfl⟩
 have h1 := hA2w k hb
 have h2 := hA2l k hb
 by_cases e : j = i
 ·subst e
  rw [upD_at] at hy
  cases hy
  rcases hk with hk | hk
  ·rcases H3.out.2.2 k hk with h | h
   ·have := HF.out.2.1 k (.inl h)
    omega
   ·have : w2.drew.heap.size = w2.heap.size := rfl
    omega
  ·rcases H4.out.2.2 k hk with h | h
   ·have := HF.out.2.1 k (.inr h)
    omega
   ·have := H3.out.2.1.size
    have : w2.drew.heap.size = w2.heap.size := rfl
    omega
 ·rw [upD_ne e] at hy
  have := (HH.out.1.at_ j y hy).lt k hk
  omega
def icells (l : List Int) : List Value := l.map fun v => .int .i64 v
theorem RdN.rdC {w : World} {A : Option Addr} {l : List Int} (h : RdN w A l) : RdC w A (icells l) := by
 intro hne
 obtain ⟨b, off, rfl, hc⟩ := h (by intro e; subst e; exact hne rfl)
 refine ⟨b, off, rfl, fun j u hu => ?_⟩
 unfold icells at hu
 rw [List.getElem?_map] at hu
 cases hj : l[j]? with
 | none => rw [hj] at hu; cases hu
 | some v =>
  rw [hj] at hu
  cases hu
  exact hc j v hj
theorem icells_wf (l : List Int) : ∀ i, i < l.length → kInts.wf (elt (icells l) kInts.sz i) := by
 intro i hi
 refine ⟨l[i], ?_⟩
 show elt (icells l) 1 i = [.int .i64 l[i]]
 unfold elt icells
 rw [Nat.mul_one, ← List.map_drop, ← List.map_take, List.drop_eq_getElem_cons hi]
 rfl
theorem icells_len (l : List Int) : (icells l).length = l.length * kInts.sz := by
 show (icells l).length = l.length * 1
 simp [icells]
theorem RdN.of_icells {w : World} {A : Option Addr} {c m : Nat} {l : List Int} {xs : List Value} (h : Own w 3 1 A c m (icells l ++ xs)) : RdN w A l := by
 intro hne
 obtain ⟨b, off, rfl, hc⟩ := h.rdC (by intro e; have := congrArg List.length e; simp [icells] at this; exact hne this.1)
 refine ⟨b, off, rfl, fun j v hj => hc j _ ?_⟩
 have hjl := (List.getElem?_eq_some_iff.1 hj).1
 rw [List.getElem?_append_left (by simpa [icells] using hjl)]
 unfold icells
 rw [List.getElem?_map, hj]
 rfl
theorem Tryz.size_int : (Tryz.prog.info? 3).map (·.size) = some 1 := by kernel_rfl
set_option maxRecDepth 100000 in
set_option maxHeartbeats 4000000 in
theorem changes_14 (W0 w : World) (g i : Nat) (D : Pairs) (Φ : Nat → Prop) (o : OpS) (x : PD) (h : Inv W0 g D Φ w) (hA : Alike D) (ho : o.Ok W0) (hi3 : i < 3) (hx : D i = some x) :
  Calls Tryz.prog 18 #[.pointer (some ⟨g, 0, none⟩), .agg (o.with i 14)] w (StepPost W0 g) := by
 unfold OpS.with
 have hmo : Tryz.prog.follows Departure.mixedOrders = true := by kernel_rfl
 have hst := hA i x hx
 have HH := Lib.hid (And.intro h (And.intro hA (And.intro ho (And.intro hx hst))))
 have hi0 : (0 : Int) ≤ i := by omega
 have hi3' : (i : Int) < 3 := by omega
 clear h hA ho hx hst
 go_enter Tryz.func18, Tryz.ntmps18
 go_wp2_with fail
 obtain ⟨W, hW⟩ : ∃ W, w.alloc (.cells #[.int .i64 (i : Int), .int .i64 14, .string (bstr o.name), .string (bstr o.to), .slice o.bA o.body.length o.bc, .int .i64 o.at_, .int .i64 o.n, .slice o.kA o.keep.length o.kc, .int .i64 o.cap, .slice o.fA o.files.length o.fc, .int .i64 o.fuse, .bool o.down] 61) = W := ⟨_, rfl⟩
 rw [hW]
 have nW : New w W := hW ▸ Kp.alloc _ _ _
 have bW : W.heap[w.heap.size]? = some (.cells (o.with i 14) 61 (0, 0)) := hW ▸ heap_alloc_new w _
 have hI := HH.out.1.new nW
 have c0 : W.cell? ⟨w.heap.size, 0, none⟩ = some (.int .i64 (i : Int)) := (cell_of_block bW).trans rfl
 have p0 : W.cell? ⟨g, i, none⟩ = some (.pointer (some ⟨x.d, 0, none⟩)) := (hI.dpc hi3).1.trans (congrArg some (dp_some HH.out.2.2.2.1))
 have p1 : W.cell? ⟨g, 3 + i, none⟩ = some (.pointer (some ⟨x.r, 0, none⟩)) := (hI.rpc hi3).1.trans (congrArg some (rp_some HH.out.2.2.2.1))
 have HW := Lib.hid (And.intro nW (And.intro bW hI))
 clear hW nW bW hI
 refine wp_region_line (fun w' => w'.cell? ⟨w.heap.size, 0, none⟩ = some (.int .i64 (i : Int)) ∧ w'.cell? ⟨g, i, none⟩ = some (.pointer (some ⟨x.d, 0, none⟩))) (pl := [(0, true), (1, true), (2, true), (3, true), (4, true), (5, true), (6, true), (7, true)]) hmo (by kernel_rfl) ⟨by simpa using c0, by simpa using p0⟩ ?_
 iterate 8 (refine line_get rfl rfl (fun K hK => ?_); apply Exists.intro; refine ⟨fun w s => ?_, ?_⟩; (first | (have q := s rfl; go_simp; with_reducible rfl) | (go_simp; with_reducible rfl)); (go_simp; refine hK _ ?_; clear hK K))
 refine line_nil ?_
 go_wp2_with fail
 refine wp_region_line (fun w' => w'.cell? ⟨w.heap.size, 0, none⟩ = some (.int .i64 (i : Int)) ∧ w'.cell? ⟨g, 3 + i, none⟩ = some (.pointer (some ⟨x.r, 0, none⟩))) (pl := [(0, true), (1, true), (2, true), (3, true), (4, true), (5, true), (6, true), (7, true)]) hmo (by kernel_rfl) ⟨by simpa using c0, by simpa using p1⟩ ?_
 iterate 8 (refine line_get rfl rfl (fun K hK => ?_); apply Exists.intro; refine ⟨fun w s => ?_, ?_⟩; (first | (have q := s rfl; go_simp; with_reducible rfl) | (go_simp; with_reducible rfl)); (go_simp; refine hK _ ?_; clear hK K))
 refine line_nil ?_
 obtain ⟨V, hV⟩ : ∃ V, W.drew.drew = V := ⟨_, rfl⟩
 rw [hV]
 have nV : New W V := hV ▸ (Kp.drew _ _).trans (Kp.drew _ _) fid fid
 have bV : V.heap[w.heap.size]? = some (.cells (o.with i 14) 61 (0, 0)) := hV ▸ HW.out.2.1
 have hIV := HW.out.2.2.new nV
 have HV := Lib.hid (And.intro (HW.out.1.trans nV fid fid) (And.intro bV hIV))
 clear hV nV bV hIV c0 p0 p1
 have k1 : V.cell? ⟨w.heap.size, 1, none⟩ = some (.int .i64 14) := (cell_of_block HV.out.2.1).trans rfl
 have k7 : V.cell? ⟨w.heap.size, 7, none⟩ = some (.slice o.kA o.keep.length o.kc) := (cell_of_block HV.out.2.1).trans rfl
 go_wp2_with fail
 refine (RoomInts_calls V o.kA o.keep.length o.kc (icells o.keep) (HH.out.2.2.1.keep.low HV.out.2.2.low).rdC (icells_len _) (icells_wf _) HH.out.2.2.1.keepLen HV.out.2.2.tab).mono ?_
 rintro e w2 ⟨A2, c2, rfl, o2, nn2, f2⟩
 have hc2 := o2.cap
 have hbl := HH.out.2.2.1.keepLen
 simp only [maxLen] at hc2
 have q7 := New.cell nn2 k7
 have hI2 := HV.out.2.2.new nn2
 have hq := hI2.at_ i x HH.out.2.2.2.1
 have b2 := heap_kp' HV.out.2.1 nn2 id
 have H2 := Lib.hid (And.intro hI2 (And.intro hq (And.intro nn2 (And.intro o2 (And.intro f2 b2)))))
 clear hI2 hq nn2 o2 f2 b2 k1 k7
 have hup := fun (w : World) => run_slice_upto (P := Tryz.prog) 56 3 Tryz.underlying56 1 Tryz.size_int A2 (o.keep.length + 64) c2 o.keep.length (by omega) w
 go_wp2_with fail
 clear hup
 have hwx : w.heap.size ≤ w2.heap.size := Nat.le_trans HV.out.1.size H2.out.2.2.1.size
 have hfx : ∀ k, x.Fp k → k < w.heap.size := (HH.out.1.at_ i x HH.out.2.2.2.1).lt
 have hfa : ∀ k, Bk A2 k → ¬ x.Fp k := fun k hk hf => by have := H2.out.2.2.2.2.1 k hk; have := hfx k hf; have := HV.out.1.size; omega
 have HF := Lib.hid (And.intro hwx (And.intro hfx hfa))
 clear hwx hfx hfa
 refine (Crash_calls w2 x.d x.s x.F A2 o.keep.length c2 o.keep H2.out.2.1.p rfl (RdN.of_icells H2.out.2.2.2.1) (by omega) HH.out.2.2.1.keepIn (fun k hk hm => HF.out.2.2 k hk (.inl hm))).mono ?_
 rintro e w3 ⟨rfl, F', hD3, hM3⟩
 have H3 := Lib.hid (And.intro hD3 hM3)
 clear hD3 hM3
 have b3 := box_move (w := w) H2.out.2.2.2.2.2 H3.out.2 (fun k hk => HF.out.2.1 k (.inl hk)) (Nat.le_refl _)
 have q7 : w3.cell? ⟨w.heap.size, 7, none⟩ = some (.slice o.kA o.keep.length o.kc) := (cell_of_block b3).trans rfl
 have HB3 := Lib.hid b3
 clear b3
 go_wp2_with fail
 have hR3 := H2.out.2.1.q.kp H3.out.2.1 (fun k hk hm => H2.out.2.1.apart k hm hk)
 rw [← HH.out.2.2.2.2] at hR3
 have hI3 := H2.out.1.moveD HH.out.2.2.2.1 H3.out.1 H3.out.2
 have HR3 := Lib.hid (And.intro hR3 hI3)
 clear hR3 hI3
 refine (RCrash_calls w3 x.r x.s x.G o.kA o.kc o.keep HR3.out.1 (HH.out.2.2.1.keep.low HR3.out.2.low) (by omega) (fun hne k hb hm => HH.out.1.notIn HH.out.2.2.2.1 (HH.out.2.2.1.keep.lowBk hne _ hb) (.inr hm))).mono ?_
 rintro e w4 ⟨rfl, G', hD4, hM4⟩
 have H4 := Lib.hid (And.intro hD4 hM4)
 clear hD4 hM4
 have b4 := box_move (w := w) HB3.out H4.out.2 (fun k hk => HF.out.2.1 k (.inr hk)) (Nat.le_refl _)
 have q7 : w4.cell? ⟨w.heap.size, 7, none⟩ = some (.slice o.kA o.keep.length o.kc) := (cell_of_block b4).trans rfl
 clear b4
 go_wp2_with fail
 have hI4 := HR3.out.2.moveR (x := { x with s := x.s.crash o.keep, F := F' }) (upD_at _ _ _) H4.out.1 H4.out.2
 rw [upD_upD] at hI4
 have hO4 : Own w4 3 1 A2 c2 (o.keep.length + 64) (icells o.keep ++ kInts.marks 700000 64) := (H2.out.2.2.2.1.kp H3.out.2.1 (fun k hk hm => HF.out.2.2 k hk (.inl hm))).kp H4.out.2.1 (fun k hk hm => HF.out.2.2 k hk (.inr hm))
 have HI4 := Lib.hid (And.intro hI4 hO4)
 clear hI4 hO4
 refine (KeptInts_calls w4 A2 o.kA o.keep.length c2 o.kc (icells o.keep) HI4.out.2.rdC (HH.out.2.2.1.keep.low HI4.out.1.low).rdC (icells_len _) (icells_wf _) HH.out.2.2.1.keepLen HI4.out.1.tab).mono ?_
 rintro e w5 ⟨rfl, n5⟩
 have H5 := Lib.hid n5
 clear n5
 go_wp2_with fail
 go_ret
 exact ⟨rfl, _, _, HI4.out.1.new H5.out, HH.out.2.1.up rfl⟩
theorem changes_calls (W0 w : World) (g i : Nat) (D : Pairs) (Φ : Nat → Prop) (o : OpS) (x : PD) (h : Inv W0 g D Φ w) (hA : Alike D) (ho : o.Ok W0) (hi3 : i < 3) (hx : D i = some x) (hi : o.disk = i) (hk : o.kind = 3 ∨ o.kind = 4 ∨ o.kind = 5 ∨ o.kind = 6 ∨ o.kind = 7 ∨ o.kind = 12 ∨ o.kind = 14) :
  Calls Tryz.prog 18 #[.pointer (some ⟨g, 0, none⟩), .agg o.arr] w (StepPost W0 g) := by
 rcases hk with hk | hk | hk | hk | hk | hk | hk <;> rw [OpS.arr_with hi hk]
 ·exact changes_3 W0 w g i D Φ o x h hA ho hi3 hx
 ·exact changes_4 W0 w g i D Φ o x h hA ho hi3 hx
 ·exact changes_5 W0 w g i D Φ o x h hA ho hi3 hx
 ·exact changes_6 W0 w g i D Φ o x h hA ho hi3 hx
 ·exact changes_7 W0 w g i D Φ o x h hA ho hi3 hx
 ·exact changes_12 W0 w g i D Φ o x h hA ho hi3 hx
 ·exact changes_14 W0 w g i D Φ o x h hA ho hi3 hx
end Go.Proofs.YtekcoeonlfmebaaGreatDoor.Kit
