/- 1 texts in one: PRINTED by gen_playk.py. The play of the laws of the disk: looks: the calls that look. -/
import Derived.Test.YtekcoeonlfmebaaGreatDoorM37
import Derived.Test.YtekcoeonlfmebaaGreatDoorM42
import Derived.Test.YtekcoeonlfmebaaGreatDoorM22
import Derived.Test.YtekcoeonlfmebaaGreatDoorM30
import Derived.Test.YtekcoeonlfmebaaGreatDoorM31
import Derived.Test.YtekcoeonlfmebaaGreatDoorM17
namespace Go.Proofs.YtekcoeonlfmebaaGreatDoor.Kit
open Go Go.RowKit
theorem read_len {s : DS} (h : s.Ok) (n : Nm) (a m : Int) : (s.read n a m).1.length ≤ 1048576 := by
 unfold DS.read
 split
 ·simp
 ·split
  ·simp
  ·cases hf : s.find n with
   | none => simp only [Option.map_none, Option.getD_none]; split <;> simp
   | some f =>
    have h1 := used_at' h hf
    have h2 := h.used
    have h3 := h.cap
    simp only [Option.map_some, Option.getD_some]
    split
    ·simp
    ·simp only [List.length_take, List.length_drop]
     omega
theorem names_len {s : DS} (h : s.Ok) : s.namesOf.length ≤ 64 := by unfold DS.namesOf; rw [List.length_map]; exact h.few
theorem texts_wf (l : List Nm) : ∀ i, i < l.length → kTexts.wf (elt (l.map sv) kTexts.sz i) := by
 intro i hi
 refine ⟨l[i], ?_⟩
 show elt (l.map sv) 1 i = [.string (bstr l[i])]
 unfold elt
 rw [Nat.mul_one, ← List.map_drop, ← List.map_take, List.drop_eq_getElem_cons hi]
 rfl
def DS.lists (s : DS) : List Nm := if s.down = true then [] else s.namesOf
def DS.listE (s : DS) : Nat := if s.down = true then 34 else 0
theorem lists_len {s : DS} (h : s.Ok) : s.lists.length ≤ 64 := by
 unfold DS.lists
 split
 ·simp
 ·exact names_len h
def LsPost (w : World) (s : DS) (e : Ending) (w' : World) : Prop := ∃ A n c, e = .returned (.tuple #[.slice A n c, .int .i64 (s.listE : Int)]) ∧ NewNames w s.lists w' A n c
theorem NewNames.none_ (w : World) : NewNames w [] w none 0 0 := ⟨rfl, Own.nil _ _ _, Kp.refl _ _, fun _ h => absurd h Bk.none_⟩
theorem Lists_calls (w : World) (d : Nat) (s : DS) (F : List Nat) (hD : DiskAt w d s F) :
  Calls Tryz.prog 47 #[.pointer (some ⟨d, 0, none⟩)] w (LsPost w s) := by
 unfold LsPost DS.lists DS.listE
 cases hd : s.down with
 | true => exact (List_down w d s F hD hd).mono fun e w' ⟨h1, h2⟩ => ⟨none, 0, 0, h1, h2 ▸ NewNames.none_ w⟩
 | false => exact (List_calls w d s F hD hd).mono fun e w' ⟨A, n, c, h1, h2⟩ => ⟨A, n, c, h1, h2⟩
theorem RLists_calls (w : World) (r : Nat) (s : DS) (F : List Nat) (h : RefAt w r s F) :
  Calls Tryz.prog 118 #[.pointer (some ⟨r, 0, none⟩)] w (LsPost w s) := by
 unfold LsPost DS.lists DS.listE
 refine (RList_calls w r s F h).mono fun e w' hr => ?_
 rcases hr with ⟨hd, h1, h2⟩ | ⟨hd, A, n, c, h1, h2⟩
 ·rw [hd]
  exact ⟨none, 0, 0, h1, h2 ▸ NewNames.none_ w⟩
 ·rw [hd]
  exact ⟨A, n, c, h1, h2⟩
theorem bstr_eq (l : List UInt8) : ((bstr l).toList == (bstr l).toList) = true := by simp
set_option maxRecDepth 100000 in
set_option maxHeartbeats 4000000 in
theorem looks_8 (W0 w : World) (g i : Nat) (D : Pairs) (Φ : Nat → Prop) (o : OpS) (x : PD) (h : Inv W0 g D Φ w) (hA : Alike D) (ho : o.Ok W0) (hi3 : i < 3) (hx : D i = some x) :
  Calls Tryz.prog 19 #[.pointer (some ⟨g, 0, none⟩), .agg (o.with i 8)] w (StepPost W0 g) := by
 unfold OpS.with
 have hmo : Tryz.prog.follows Departure.mixedOrders = true := by kernel_rfl
 have hst := hA i x hx
 have HH := Lib.hid (And.intro h (And.intro hA (And.intro ho (And.intro hx hst))))
 have hi0 : (0 : Int) ≤ i := by omega
 have hi3' : (i : Int) < 3 := by omega
 clear h hA ho hx hst
 go_enter Tryz.func19, Tryz.ntmps19
 go_wp2_with fail
 obtain ⟨W, hW⟩ : ∃ W, w.alloc (.cells #[.int .i64 (i : Int), .int .i64 8, .string (bstr o.name), .string (bstr o.to), .slice o.bA o.body.length o.bc, .int .i64 o.at_, .int .i64 o.n, .slice o.kA o.keep.length o.kc, .int .i64 o.cap, .slice o.fA o.files.length o.fc, .int .i64 o.fuse, .bool o.down] 61) = W := ⟨_, rfl⟩
 rw [hW]
 have nW : New w W := hW ▸ Kp.alloc _ _ _
 have bW : W.heap[w.heap.size]? = some (.cells (o.with i 8) 61 (0, 0)) := hW ▸ heap_alloc_new w _
 have hI := HH.out.1.new nW
 have c0 : W.cell? ⟨w.heap.size, 0, none⟩ = some (.int .i64 (i : Int)) := (cell_of_block bW).trans rfl
 have p0 : W.cell? ⟨g, i, none⟩ = some (.pointer (some ⟨x.d, 0, none⟩)) := (hI.dpc hi3).1.trans (congrArg some (dp_some HH.out.2.2.2.1))
 have p1 : W.cell? ⟨g, 3 + i, none⟩ = some (.pointer (some ⟨x.r, 0, none⟩)) := (hI.rpc hi3).1.trans (congrArg some (rp_some HH.out.2.2.2.1))
 have HW := Lib.hid (And.intro nW (And.intro bW hI))
 clear hW nW bW hI
 refine wp_region_line (fun w' => w'.cell? ⟨w.heap.size, 0, none⟩ = some (.int .i64 (i : Int)) ∧ w'.cell? ⟨g, i, none⟩ = some (.pointer (some ⟨x.d, 0, none⟩))) (pl := [(0, true), (1, true), (2, true), (3, true), (4, true), (5, true), (6, true), (7, true)]) hmo (by kernel_rfl) ⟨by simpa using c0, by simpa using p0⟩ ?_
 iterate 8 (refine line_get rfl rfl (fun K hK => ?_); apply Exists.intro; refine ⟨fun w s => ?_, ?_⟩; (first | (have q := s rfl; go_simp; with_reducible rfl) | (go_simp; with_reducible rfl)); (go_simp; refine hK _ ?_; clear hK K))
 refine line_nil ?_
 go_wp2_with fail
 refine wp_region_line (fun w' => w'.cell? ⟨w.heap.size, 0, none⟩ = some (.int .i64 (i : Int)) ∧ w'.cell? ⟨g, 3 + i, none⟩ = some (.pointer (some ⟨x.r, 0, none⟩))) (pl := [(0, true), (1, true), (2, true), (3, true), (4, true), (5, true), (6, true), (7, true)]) hmo (by kernel_rfl) ⟨by simpa using c0, by simpa using p1⟩ ?_
 iterate 8 (refine line_get rfl rfl (fun K hK => ?_); apply Exists.intro; refine ⟨fun w s => ?_, ?_⟩; (first | (have q := s rfl; go_simp; with_reducible rfl) | (go_simp; with_reducible rfl)); (go_simp; refine hK _ ?_; clear hK K))
 refine line_nil ?_
 obtain ⟨V, hV⟩ : ∃ V, W.drew.drew = V := ⟨_, rfl⟩
 rw [hV]
 have nV : New W V := hV ▸ (Kp.drew _ _).trans (Kp.drew _ _) fid fid
 have bV : V.heap[w.heap.size]? = some (.cells (o.with i 8) 61 (0, 0)) := hV ▸ HW.out.2.1
 have hIV := HW.out.2.2.new nV
 have HV := Lib.hid (And.intro (HW.out.1.trans nV fid fid) (And.intro bV hIV))
 clear hV nV bV hIV c0 p0 p1
 have k1 : V.cell? ⟨w.heap.size, 1, none⟩ = some (.int .i64 8) := (cell_of_block HV.out.2.1).trans rfl
 have k2 : V.cell? ⟨w.heap.size, 2, none⟩ = some (.string (bstr o.name)) := (cell_of_block HV.out.2.1).trans rfl
 have k5 : V.cell? ⟨w.heap.size, 5, none⟩ = some (.int .i64 o.at_) := (cell_of_block HV.out.2.1).trans rfl
 have k6 : V.cell? ⟨w.heap.size, 6, none⟩ = some (.int .i64 o.n) := (cell_of_block HV.out.2.1).trans rfl
 have hq := HV.out.2.2.at_ i x HH.out.2.2.2.1
 have hrl := read_len hq.p.ok o.name o.at_ o.n
 have HQ := Lib.hid hq
 clear hq
 go_wp2_with fail
 refine (Read_calls V x.d x.s x.F o.name o.at_ o.n HQ.out.p HH.out.2.2.1.name HH.out.2.2.1.atIn.1 HH.out.2.2.1.atIn.2).mono ?_
 rintro e w5 ⟨A5, m5, c5, rfl, e5, o5, n5, f5⟩
 subst e5
 have q2 := New.cell n5 k2
 have q5 := New.cell n5 k5
 have q6 := New.cell n5 k6
 have H5 := Lib.hid (And.intro o5 (And.intro n5 (And.intro f5 (HQ.out.kp n5 (fun _ _ => id)))))
 clear o5 n5 f5 k1 k2 k5 k6
 go_wp2_with fail
 refine (Read_calls w5 x.d x.s x.F o.name 0 1 H5.out.2.2.2.p HH.out.2.2.1.name (by omega) (by omega)).mono ?_
 rintro e w6 ⟨A6, m6, c6, rfl, e6, o6, n6, f6⟩
 have q2 := New.cell n6 q2
 have q5 := New.cell n6 q5
 have q6 := New.cell n6 q6
 have H6 := Lib.hid (And.intro n6 (H5.out.2.2.2.kp n6 (fun _ _ => id)))
 clear o6 n6 f6 e6
 go_wp2_with fail
 refine (Read_calls w6 x.d x.s x.F o.name o.at_ o.n H6.out.2.p HH.out.2.2.1.name HH.out.2.2.1.atIn.1 HH.out.2.2.1.atIn.2).mono ?_
 rintro e w7 ⟨A7, m7, c7, rfl, e7, o7, n7, f7⟩
 subst e7
 have q2 := New.cell n7 q2
 have q5 := New.cell n7 q5
 have q6 := New.cell n7 q6
 have H7 := Lib.hid (And.intro o7 (And.intro n7 (And.intro f7 (H6.out.2.kp n7 (fun _ _ => id)))))
 clear o7 n7 f7
 go_wp2_with fail
 refine (RRead_calls w7 x.r x.t x.G o.name o.at_ o.n H7.out.2.2.2.q HH.out.2.2.1.name HH.out.2.2.1.atIn.1 HH.out.2.2.1.atIn.2).mono ?_
 rintro e w8 ⟨A8, m8, c8, rfl, e8, o8, n8, f8⟩
 rw [← HH.out.2.2.2.2] at o8 e8 ⊢
 subst e8
 have H8 := Lib.hid (And.intro o8 n8)
 clear o8 n8 f8 q2 q5 q6
 have n58 : New w5 w8 := (H6.out.1.trans H7.out.2.1 fid fid).trans H8.out.2 fid fid
 have oa := H5.out.1.new n58
 have ob := H7.out.1.new H8.out.2
 have va := run_conv_RdB (P := Tryz.prog) w8 (src := 55) (dst := 9) Tryz.underlying55 Tryz.underlying5 Tryz.underlying9 c5 oa.rd
 have vb := run_conv_RdB (P := Tryz.prog) w8 (src := 55) (dst := 9) Tryz.underlying55 Tryz.underlying5 Tryz.underlying9 c7 ob.rd
 have vw := run_conv_RdB (P := Tryz.prog) w8 (src := 55) (dst := 9) Tryz.underlying55 Tryz.underlying5 Tryz.underlying9 c8 H8.out.1.rd
 have hbe := bstr_eq (x.s.read o.name o.at_ o.n).1
 have HO := Lib.hid (And.intro oa (And.intro ob n58))
 clear oa ob n58
 obtain ⟨v, hv⟩ : ∃ v : Nat, (x.s.read o.name o.at_ o.n).2 = v := ⟨_, rfl⟩
 rw [hv]
 clear hv
 obtain ⟨l, hl⟩ : ∃ l, (x.s.read o.name o.at_ o.n).1 = l := ⟨_, rfl⟩
 rw [hl] at va vb vw hbe hrl HO H5 H7 H8 ⊢
 clear hl
 go_wp2_with fail
 refine (num_calls _ _).mono ?_
 rintro e w' ⟨rfl, rfl⟩
 go_wp2_with fail
 refine (num_calls _ _).mono ?_
 rintro e w' ⟨rfl, rfl⟩
 go_wp2_with fail
 refine (num_calls _ _).mono ?_
 rintro e w' ⟨rfl, rfl⟩
 go_wp2_with fail
 refine (num_calls _ _).mono ?_
 rintro e w' ⟨rfl, rfl⟩
 go_wp2_with fail
 clear va vb vw
 have hI8 := ((HV.out.2.2.new H5.out.2.1).new HO.out.2.2)
 have hz5 := H5.out.2.1.size
 have hz6 := H6.out.1.size
 have hz7 := H7.out.2.1.size
 have hz8 := H8.out.2.size
 have hV0 := HV.out.2.2.low.size
 have hA5 : ∀ k, Bk A5 k → V.heap.size ≤ k ∧ k < w5.heap.size := fun k hk => ⟨H5.out.2.2.1 k hk, H5.out.1.lt k hk⟩
 have hA7 : ∀ k, Bk A7 k → w6.heap.size ≤ k ∧ k < w7.heap.size := fun k hk => ⟨H7.out.2.2.1 k hk, H7.out.1.lt k hk⟩
 have hΦV : ∀ k, Φ k → k < V.heap.size := HV.out.2.2.book.lt
 have hDV : ∀ j y, D j = some y → ∀ k, y.Fp k → k < V.heap.size := fun j y hy => (HV.out.2.2.at_ j y hy).lt
 have HZ := Lib.hid (And.intro hI8 (And.intro hA5 (And.intro hA7 (And.intro hΦV (And.intro hDV (And.intro hz5 (And.intro hz6 (And.intro hz7 (And.intro hz8 hV0)))))))))
 clear hI8 hA5 hA7 hΦV hDV hz5 hz6 hz7 hz8 hV0
 refine (KeepBytes3 w8 g (pcOf D) Φ (fun _ => 0) rfl A5 l.length c5 HZ.out.1.book l HO.out.1 rfl (by omega) (fun k hk hf => by have := HZ.out.2.1 k hk; have := HZ.out.2.2.2.1 k hf; omega)).mono ?_
 rintro e w9 ⟨rfl, hp⟩
 obtain ⟨Φ9, hI9, hk9, hs9⟩ := HZ.out.1.put hp (fun k hk => by have := HZ.out.2.1 k hk; have := HZ.out.2.2.2.2.2.2.2.2.2; omega) (fun j y hy k hk hb => by have := HZ.out.2.1 k hb; have := HZ.out.2.2.2.2.1 j y hy k hk; omega)
 have H9 := Lib.hid (And.intro hI9 (And.intro hk9 hs9))
 clear hp hI9 hk9 hs9
 go_wp2_with fail
 have hA79 : ∀ k, Bk A7 k → ¬ (Φ k ∨ Bk A5 k) := fun k hk he => by
  have h1 := HZ.out.2.2.1 k hk
  have h6 := HZ.out.2.2.2.2.2.2.1
  rcases he with he | he
  ·have := HZ.out.2.2.2.1 k he
   have := HZ.out.2.2.2.2.2.1
   omega
  ·have := HZ.out.2.1 k he
   omega
 refine (WriteBytes3 w9 g (pcOf D) Φ9 (fun _ => 0) rfl A7 l.length c7 H9.out.1.book (bcs l) (HO.out.2.1.kp H9.out.2.1 hA79) (by omega) (fun k hk hf => (H9.out.2.2 k hf).elim (fun h => hA79 k hk (.inl h)) (fun h => h.elim (fun h => hA79 k hk (.inr h)) (fun h => by have := HZ.out.2.2.1 k hk; have := HZ.out.2.2.2.2.2.2.2.2.1; omega)))).mono ?_
 rintro e w10 ⟨rfl, hp⟩
 obtain ⟨Φ10, hI10, _, _⟩ := H9.out.1.put hp (fun k hk => by have := HZ.out.2.2.1 k hk; have := HZ.out.2.2.2.2.2.2.2.2.2; have := HZ.out.2.2.2.2.2.1; have := HZ.out.2.2.2.2.2.2.1; omega) (fun j y hy k hk hb => by have := HZ.out.2.2.1 k hb; have := HZ.out.2.2.2.2.1 j y hy k hk; have := HZ.out.2.2.2.2.2.1; have := HZ.out.2.2.2.2.2.2.1; omega)
 have H10 := Lib.hid hI10
 clear hp hI10 hA79
 go_wp2_with fail
 go_ret
 exact ⟨by simp, _, _, H10.out, HH.out.2.1⟩
set_option maxRecDepth 100000 in
set_option maxHeartbeats 4000000 in
theorem looks_9 (W0 w : World) (g i : Nat) (D : Pairs) (Φ : Nat → Prop) (o : OpS) (x : PD) (h : Inv W0 g D Φ w) (hA : Alike D) (ho : o.Ok W0) (hi3 : i < 3) (hx : D i = some x) :
  Calls Tryz.prog 19 #[.pointer (some ⟨g, 0, none⟩), .agg (o.with i 9)] w (StepPost W0 g) := by
 unfold OpS.with
 have hmo : Tryz.prog.follows Departure.mixedOrders = true := by kernel_rfl
 have hst := hA i x hx
 have HH := Lib.hid (And.intro h (And.intro hA (And.intro ho (And.intro hx hst))))
 have hi0 : (0 : Int) ≤ i := by omega
 have hi3' : (i : Int) < 3 := by omega
 clear h hA ho hx hst
 go_enter Tryz.func19, Tryz.ntmps19
 go_wp2_with fail
 obtain ⟨W, hW⟩ : ∃ W, w.alloc (.cells #[.int .i64 (i : Int), .int .i64 9, .string (bstr o.name), .string (bstr o.to), .slice o.bA o.body.length o.bc, .int .i64 o.at_, .int .i64 o.n, .slice o.kA o.keep.length o.kc, .int .i64 o.cap, .slice o.fA o.files.length o.fc, .int .i64 o.fuse, .bool o.down] 61) = W := ⟨_, rfl⟩
 rw [hW]
 have nW : New w W := hW ▸ Kp.alloc _ _ _
 have bW : W.heap[w.heap.size]? = some (.cells (o.with i 9) 61 (0, 0)) := hW ▸ heap_alloc_new w _
 have hI := HH.out.1.new nW
 have c0 : W.cell? ⟨w.heap.size, 0, none⟩ = some (.int .i64 (i : Int)) := (cell_of_block bW).trans rfl
 have p0 : W.cell? ⟨g, i, none⟩ = some (.pointer (some ⟨x.d, 0, none⟩)) := (hI.dpc hi3).1.trans (congrArg some (dp_some HH.out.2.2.2.1))
 have p1 : W.cell? ⟨g, 3 + i, none⟩ = some (.pointer (some ⟨x.r, 0, none⟩)) := (hI.rpc hi3).1.trans (congrArg some (rp_some HH.out.2.2.2.1))
 have HW := Lib.hid (And.intro nW (And.intro bW hI))
 clear hW nW bW hI
 refine wp_region_line (fun w' => w'.cell? ⟨w.heap.size, 0, none⟩ = some (.int .i64 (i : Int)) ∧ w'.cell? ⟨g, i, none⟩ = some (.pointer (some ⟨x.d, 0, none⟩))) (pl := [(0, true), (1, true), (2, true), (3, true), (4, true), (5, true), (6, true), (7, true)]) hmo (by kernel_rfl) ⟨by simpa using c0, by simpa using p0⟩ ?_
 iterate 8 (refine line_get rfl rfl (fun K hK => ?_); apply Exists.intro; refine ⟨fun w s => ?_, ?_⟩; (first | (have q := s rfl; go_simp; with_reducible rfl) | (go_simp; with_reducible rfl)); (go_simp; refine hK _ ?_; clear hK K))
 refine line_nil ?_
 go_wp2_with fail
 refine wp_region_line (fun w' => w'.cell? ⟨w.heap.size, 0, none⟩ = some (.int .i64 (i : Int)) ∧ w'.cell? ⟨g, 3 + i, none⟩ = some (.pointer (some ⟨x.r, 0, none⟩))) (pl := [(0, true), (1, true), (2, true), (3, true), (4, true), (5, true), (6, true), (7, true)]) hmo (by kernel_rfl) ⟨by simpa using c0, by simpa using p1⟩ ?_
 iterate 8 (refine line_get rfl rfl (fun K hK => ?_); apply Exists.intro; refine ⟨fun w s => ?_, ?_⟩; (first | (have q := s rfl; go_simp; with_reducible rfl) | (go_simp; with_reducible rfl)); (go_simp; refine hK _ ?_; clear hK K))
 refine line_nil ?_
 obtain ⟨V, hV⟩ : ∃ V, W.drew.drew = V := ⟨_, rfl⟩
 rw [hV]
 have nV : New W V := hV ▸ (Kp.drew _ _).trans (Kp.drew _ _) fid fid
 have bV : V.heap[w.heap.size]? = some (.cells (o.with i 9) 61 (0, 0)) := hV ▸ HW.out.2.1
 have hIV := HW.out.2.2.new nV
 have HV := Lib.hid (And.intro (HW.out.1.trans nV fid fid) (And.intro bV hIV))
 clear hV nV bV hIV c0 p0 p1
 have k1 : V.cell? ⟨w.heap.size, 1, none⟩ = some (.int .i64 9) := (cell_of_block HV.out.2.1).trans rfl
 have k2 : V.cell? ⟨w.heap.size, 2, none⟩ = some (.string (bstr o.name)) := (cell_of_block HV.out.2.1).trans rfl
 have hq := HV.out.2.2.at_ i x HH.out.2.2.2.1
 have HQ := Lib.hid hq
 clear hq
 go_wp2_with fail
 refine (Size_calls V x.d x.s x.F o.name HQ.out.p HH.out.2.2.1.name).mono ?_
 rintro e w5 ⟨rfl, n5⟩
 have q2 := New.cell n5 k2
 have H5 := Lib.hid (And.intro n5 (HQ.out.kp n5 (fun _ _ => id)))
 clear n5 k1 k2
 go_wp2_with fail
 refine (RSize_calls w5 x.r x.t x.G o.name H5.out.2.q HH.out.2.2.1.name).mono ?_
 rintro e w6 ⟨rfl, rfl⟩
 rw [← HH.out.2.2.2.2]
 obtain ⟨v, hv⟩ : ∃ v : Nat, (x.s.size o.name).2 = v := ⟨_, rfl⟩
 obtain ⟨u, hu⟩ : ∃ u : Nat, (x.s.size o.name).1 = u := ⟨_, rfl⟩
 rw [hv, hu]
 clear hv hu q2
 go_wp2_with fail
 refine (num_calls _ _).mono ?_
 rintro e w' ⟨rfl, rfl⟩
 go_wp2_with fail
 refine (num_calls _ _).mono ?_
 rintro e w' ⟨rfl, rfl⟩
 go_wp2_with fail
 go_ret
 exact ⟨by simp, _, _, HV.out.2.2.new H5.out.1, HH.out.2.1⟩
set_option maxRecDepth 100000 in
set_option maxHeartbeats 4000000 in
theorem looks_11 (W0 w : World) (g i : Nat) (D : Pairs) (Φ : Nat → Prop) (o : OpS) (x : PD) (h : Inv W0 g D Φ w) (hA : Alike D) (ho : o.Ok W0) (hi3 : i < 3) (hx : D i = some x) :
  Calls Tryz.prog 19 #[.pointer (some ⟨g, 0, none⟩), .agg (o.with i 11)] w (StepPost W0 g) := by
 unfold OpS.with
 have hmo : Tryz.prog.follows Departure.mixedOrders = true := by kernel_rfl
 have hst := hA i x hx
 have HH := Lib.hid (And.intro h (And.intro hA (And.intro ho (And.intro hx hst))))
 have hi0 : (0 : Int) ≤ i := by omega
 have hi3' : (i : Int) < 3 := by omega
 clear h hA ho hx hst
 go_enter Tryz.func19, Tryz.ntmps19
 go_wp2_with fail
 obtain ⟨W, hW⟩ : ∃ W, w.alloc (.cells #[.int .i64 (i : Int), .int .i64 11, .string (bstr o.name), .string (bstr o.to), .slice o.bA o.body.length o.bc, .int .i64 o.at_, .int .i64 o.n, .slice o.kA o.keep.length o.kc, .int .i64 o.cap, .slice o.fA o.files.length o.fc, .int .i64 o.fuse, .bool o.down] 61) = W := ⟨_, rfl⟩
 rw [hW]
 have nW : New w W := hW ▸ Kp.alloc _ _ _
 have bW : W.heap[w.heap.size]? = some (.cells (o.with i 11) 61 (0, 0)) := hW ▸ heap_alloc_new w _
 have hI := HH.out.1.new nW
 have c0 : W.cell? ⟨w.heap.size, 0, none⟩ = some (.int .i64 (i : Int)) := (cell_of_block bW).trans rfl
 have p0 : W.cell? ⟨g, i, none⟩ = some (.pointer (some ⟨x.d, 0, none⟩)) := (hI.dpc hi3).1.trans (congrArg some (dp_some HH.out.2.2.2.1))
 have p1 : W.cell? ⟨g, 3 + i, none⟩ = some (.pointer (some ⟨x.r, 0, none⟩)) := (hI.rpc hi3).1.trans (congrArg some (rp_some HH.out.2.2.2.1))
 have HW := Lib.hid (And.intro nW (And.intro bW hI))
 clear hW nW bW hI
 refine wp_region_line (fun w' => w'.cell? ⟨w.heap.size, 0, none⟩ = some (.int .i64 (i : Int)) ∧ w'.cell? ⟨g, i, none⟩ = some (.pointer (some ⟨x.d, 0, none⟩))) (pl := [(0, true), (1, true), (2, true), (3, true), (4, true), (5, true), (6, true), (7, true)]) hmo (by kernel_rfl) ⟨by simpa using c0, by simpa using p0⟩ ?_
 iterate 8 (refine line_get rfl rfl (fun K hK => ?_); apply Exists.intro; refine ⟨fun w s => ?_, ?_⟩; (first | (have q := s rfl; go_simp; with_reducible rfl) | (go_simp; with_reducible rfl)); (go_simp; refine hK _ ?_; clear hK K))
 refine line_nil ?_
 go_wp2_with fail
 refine wp_region_line (fun w' => w'.cell? ⟨w.heap.size, 0, none⟩ = some (.int .i64 (i : Int)) ∧ w'.cell? ⟨g, 3 + i, none⟩ = some (.pointer (some ⟨x.r, 0, none⟩))) (pl := [(0, true), (1, true), (2, true), (3, true), (4, true), (5, true), (6, true), (7, true)]) hmo (by kernel_rfl) ⟨by simpa using c0, by simpa using p1⟩ ?_
 iterate 8 (refine line_get rfl rfl (fun K hK => ?_); apply Exists.intro; refine ⟨fun w s => ?_, ?_⟩; (first | (have q := s rfl; go_simp; with_reducible rfl) | (go_simp; with_reducible rfl)); (go_simp; refine hK _ ?_; clear hK K))
 refine line_nil ?_
 obtain ⟨V, hV⟩ : ∃ V, W.drew.drew = V := ⟨_, rfl⟩
 rw [hV]
 have nV : New W V := hV ▸ (Kp.drew _ _).trans (Kp.drew _ _) fid fid
 have bV : V.heap[w.heap.size]? = some (.cells (o.with i 11) 61 (0, 0)) := hV ▸ HW.out.2.1
 have hIV := HW.out.2.2.new nV
 have HV := Lib.hid (And.intro (HW.out.1.trans nV fid fid) (And.intro bV hIV))
 clear hV nV bV hIV c0 p0 p1
 have k1 : V.cell? ⟨w.heap.size, 1, none⟩ = some (.int .i64 11) := (cell_of_block HV.out.2.1).trans rfl
 have hq := HV.out.2.2.at_ i x HH.out.2.2.2.1
 have HQ := Lib.hid hq
 clear hq
 go_wp2_with fail
 refine (Free_calls V x.d x.s x.F HQ.out.p).mono ?_
 rintro e w5 ⟨rfl, n5⟩
 have H5 := Lib.hid (And.intro n5 (HQ.out.kp n5 (fun _ _ => id)))
 clear n5 k1
 go_wp2_with fail
 refine (RFree_calls w5 x.r x.t x.G H5.out.2.q).mono ?_
 rintro e w6 ⟨rfl, n6⟩
 rw [← HH.out.2.2.2.2]
 have H6 := Lib.hid n6
 obtain ⟨v, hv⟩ : ∃ v : Int, (x.s.cap : Int) - x.s.used = v := ⟨_, rfl⟩
 rw [hv]
 clear hv n6
 go_wp2_with fail
 go_ret
 exact ⟨by simp, _, _, (HV.out.2.2.new H5.out.1).new H6.out, HH.out.2.1⟩
set_option maxRecDepth 100000 in
set_option maxHeartbeats 4000000 in
theorem looks_13 (W0 w : World) (g i : Nat) (D : Pairs) (Φ : Nat → Prop) (o : OpS) (x : PD) (h : Inv W0 g D Φ w) (hA : Alike D) (ho : o.Ok W0) (hi3 : i < 3) (hx : D i = some x) :
  Calls Tryz.prog 19 #[.pointer (some ⟨g, 0, none⟩), .agg (o.with i 13)] w (StepPost W0 g) := by
 unfold OpS.with
 have hmo : Tryz.prog.follows Departure.mixedOrders = true := by kernel_rfl
 have hst := hA i x hx
 have HH := Lib.hid (And.intro h (And.intro hA (And.intro ho (And.intro hx hst))))
 have hi0 : (0 : Int) ≤ i := by omega
 have hi3' : (i : Int) < 3 := by omega
 clear h hA ho hx hst
 go_enter Tryz.func19, Tryz.ntmps19
 go_wp2_with fail
 obtain ⟨W, hW⟩ : ∃ W, w.alloc (.cells #[.int .i64 (i : Int), .int .i64 13, .string (bstr o.name), .string (bstr o.to), .slice o.bA o.body.length o.bc, .int .i64 o.at_, .int .i64 o.n, .slice o.kA o.keep.length o.kc, .int .i64 o.cap, .slice o.fA o.files.length o.fc, .int .i64 o.fuse, .bool o.down] 61) = W := ⟨_, rfl⟩
 rw [hW]
 have nW : New w W := hW ▸ Kp.alloc _ _ _
 have bW : W.heap[w.heap.size]? = some (.cells (o.with i 13) 61 (0, 0)) := hW ▸ heap_alloc_new w _
 have hI := HH.out.1.new nW
 have c0 : W.cell? ⟨w.heap.size, 0, none⟩ = some (.int .i64 (i : Int)) := (cell_of_block bW).trans rfl
 have p0 : W.cell? ⟨g, i, none⟩ = some (.pointer (some ⟨x.d, 0, none⟩)) := (hI.dpc hi3).1.trans (congrArg some (dp_some HH.out.2.2.2.1))
 have p1 : W.cell? ⟨g, 3 + i, none⟩ = some (.pointer (some ⟨x.r, 0, none⟩)) := (hI.rpc hi3).1.trans (congrArg some (rp_some HH.out.2.2.2.1))
 have HW := Lib.hid (And.intro nW (And.intro bW hI))
 clear hW nW bW hI
 refine wp_region_line (fun w' => w'.cell? ⟨w.heap.size, 0, none⟩ = some (.int .i64 (i : Int)) ∧ w'.cell? ⟨g, i, none⟩ = some (.pointer (some ⟨x.d, 0, none⟩))) (pl := [(0, true), (1, true), (2, true), (3, true), (4, true), (5, true), (6, true), (7, true)]) hmo (by kernel_rfl) ⟨by simpa using c0, by simpa using p0⟩ ?_
 iterate 8 (refine line_get rfl rfl (fun K hK => ?_); apply Exists.intro; refine ⟨fun w s => ?_, ?_⟩; (first | (have q := s rfl; go_simp; with_reducible rfl) | (go_simp; with_reducible rfl)); (go_simp; refine hK _ ?_; clear hK K))
 refine line_nil ?_
 go_wp2_with fail
 refine wp_region_line (fun w' => w'.cell? ⟨w.heap.size, 0, none⟩ = some (.int .i64 (i : Int)) ∧ w'.cell? ⟨g, 3 + i, none⟩ = some (.pointer (some ⟨x.r, 0, none⟩))) (pl := [(0, true), (1, true), (2, true), (3, true), (4, true), (5, true), (6, true), (7, true)]) hmo (by kernel_rfl) ⟨by simpa using c0, by simpa using p1⟩ ?_
 iterate 8 (refine line_get rfl rfl (fun K hK => ?_); apply Exists.intro; refine ⟨fun w s => ?_, ?_⟩; (first | (have q := s rfl; go_simp; with_reducible rfl) | (go_simp; with_reducible rfl)); (go_simp; refine hK _ ?_; clear hK K))
 refine line_nil ?_
 obtain ⟨V, hV⟩ : ∃ V, W.drew.drew = V := ⟨_, rfl⟩
 rw [hV]
 have nV : New W V := hV ▸ (Kp.drew _ _).trans (Kp.drew _ _) fid fid
 have bV : V.heap[w.heap.size]? = some (.cells (o.with i 13) 61 (0, 0)) := hV ▸ HW.out.2.1
 have hIV := HW.out.2.2.new nV
 have HV := Lib.hid (And.intro (HW.out.1.trans nV fid fid) (And.intro bV hIV))
 clear hV nV bV hIV c0 p0 p1
 have k1 : V.cell? ⟨w.heap.size, 1, none⟩ = some (.int .i64 13) := (cell_of_block HV.out.2.1).trans rfl
 have hq := HV.out.2.2.at_ i x HH.out.2.2.2.1
 have HQ := Lib.hid hq
 clear hq
 go_wp2_with fail
 refine (Down_calls V x.d x.s x.F HQ.out.p).mono ?_
 rintro e w5 ⟨rfl, rfl⟩
 go_wp2_with fail
 refine (RDown_calls V x.r x.t x.G HQ.out.q).mono ?_
 rintro e w6 ⟨rfl, rfl⟩
 rw [← HH.out.2.2.2.2]
 generalize x.s.down = v
 clear k1
 go_wp2_with fail
 go_ret
 exact ⟨by simp, _, _, HV.out.2.2, HH.out.2.1⟩
set_option maxRecDepth 100000 in
set_option maxHeartbeats 4000000 in
theorem looks_10 (W0 w : World) (g i : Nat) (D : Pairs) (Φ : Nat → Prop) (o : OpS) (x : PD) (h : Inv W0 g D Φ w) (hA : Alike D) (ho : o.Ok W0) (hi3 : i < 3) (hx : D i = some x) :
  Calls Tryz.prog 19 #[.pointer (some ⟨g, 0, none⟩), .agg (o.with i 10)] w (StepPost W0 g) := by
 unfold OpS.with
 have hmo : Tryz.prog.follows Departure.mixedOrders = true := by kernel_rfl
 have hst := hA i x hx
 have HH := Lib.hid (And.intro h (And.intro hA (And.intro ho (And.intro hx hst))))
 have hi0 : (0 : Int) ≤ i := by omega
 have hi3' : (i : Int) < 3 := by omega
 clear h hA ho hx hst
 go_enter Tryz.func19, Tryz.ntmps19
 go_wp2_with fail
 obtain ⟨W, hW⟩ : ∃ W, w.alloc (.cells #[.int .i64 (i : Int), .int .i64 10, .string (bstr o.name), .string (bstr o.to), .slice o.bA o.body.length o.bc, .int .i64 o.at_, .int .i64 o.n, .slice o.kA o.keep.length o.kc, .int .i64 o.cap, .slice o.fA o.files.length o.fc, .int .i64 o.fuse, .bool o.down] 61) = W := ⟨_, rfl⟩
 rw [hW]
 have nW : New w W := hW ▸ Kp.alloc _ _ _
 have bW : W.heap[w.heap.size]? = some (.cells (o.with i 10) 61 (0, 0)) := hW ▸ heap_alloc_new w _
 have hI := HH.out.1.new nW
 have c0 : W.cell? ⟨w.heap.size, 0, none⟩ = some (.int .i64 (i : Int)) := (cell_of_block bW).trans rfl
 have p0 : W.cell? ⟨g, i, none⟩ = some (.pointer (some ⟨x.d, 0, none⟩)) := (hI.dpc hi3).1.trans (congrArg some (dp_some HH.out.2.2.2.1))
 have p1 : W.cell? ⟨g, 3 + i, none⟩ = some (.pointer (some ⟨x.r, 0, none⟩)) := (hI.rpc hi3).1.trans (congrArg some (rp_some HH.out.2.2.2.1))
 have HW := Lib.hid (And.intro nW (And.intro bW hI))
 clear hW nW bW hI
 refine wp_region_line (fun w' => w'.cell? ⟨w.heap.size, 0, none⟩ = some (.int .i64 (i : Int)) ∧ w'.cell? ⟨g, i, none⟩ = some (.pointer (some ⟨x.d, 0, none⟩))) (pl := [(0, true), (1, true), (2, true), (3, true), (4, true), (5, true), (6, true), (7, true)]) hmo (by kernel_rfl) ⟨by simpa using c0, by simpa using p0⟩ ?_
 iterate 8 (refine line_get rfl rfl (fun K hK => ?_); apply Exists.intro; refine ⟨fun w s => ?_, ?_⟩; (first | (have q := s rfl; go_simp; with_reducible rfl) | (go_simp; with_reducible rfl)); (go_simp; refine hK _ ?_; clear hK K))
 refine line_nil ?_
 go_wp2_with fail
 refine wp_region_line (fun w' => w'.cell? ⟨w.heap.size, 0, none⟩ = some (.int .i64 (i : Int)) ∧ w'.cell? ⟨g, 3 + i, none⟩ = some (.pointer (some ⟨x.r, 0, none⟩))) (pl := [(0, true), (1, true), (2, true), (3, true), (4, true), (5, true), (6, true), (7, true)]) hmo (by kernel_rfl) ⟨by simpa using c0, by simpa using p1⟩ ?_
 iterate 8 (refine line_get rfl rfl (fun K hK => ?_); apply Exists.intro; refine ⟨fun w s => ?_, ?_⟩; (first | (have q := s rfl; go_simp; with_reducible rfl) | (go_simp; with_reducible rfl)); (go_simp; refine hK _ ?_; clear hK K))
 refine line_nil ?_
 obtain ⟨V, hV⟩ : ∃ V, W.drew.drew = V := ⟨_, rfl⟩
 rw [hV]
 have nV : New W V := hV ▸ (Kp.drew _ _).trans (Kp.drew _ _) fid fid
 have bV : V.heap[w.heap.size]? = some (.cells (o.with i 10) 61 (0, 0)) := hV ▸ HW.out.2.1
 have hIV := HW.out.2.2.new nV
 have HV := Lib.hid (And.intro (HW.out.1.trans nV fid fid) (And.intro bV hIV))
 clear hV nV bV hIV c0 p0 p1
 have k1 : V.cell? ⟨w.heap.size, 1, none⟩ = some (.int .i64 10) := (cell_of_block HV.out.2.1).trans rfl
 have hq := HV.out.2.2.at_ i x HH.out.2.2.2.1
 have hnl := lists_len hq.p.ok
 have HQ := Lib.hid hq
 clear hq
 go_wp2_with fail
 refine (Lists_calls V x.d x.s x.F HQ.out.p).mono ?_
 rintro e w5 ⟨A5, m5, c5, rfl, e5, o5, n5, f5⟩
 subst e5
 have H5 := Lib.hid (And.intro o5 (And.intro n5 (And.intro f5 (HQ.out.kp n5 (fun _ _ => id)))))
 clear o5 n5 f5 k1
 go_wp2_with fail
 refine (Free_calls w5 x.d x.s x.F H5.out.2.2.2.p).mono ?_
 rintro e w6 ⟨rfl, n6⟩
 have H6 := Lib.hid (And.intro n6 (H5.out.2.2.2.kp n6 (fun _ _ => id)))
 clear n6
 go_wp2_with fail
 refine (Lists_calls w6 x.d x.s x.F H6.out.2.p).mono ?_
 rintro e w7 ⟨A7, m7, c7, rfl, e7, o7, n7, f7⟩
 subst e7
 have H7 := Lib.hid (And.intro o7 (And.intro n7 (And.intro f7 (H6.out.2.kp n7 (fun _ _ => id)))))
 clear o7 n7 f7
 go_wp2_with fail
 refine (RLists_calls w7 x.r x.t x.G H7.out.2.2.2.q).mono ?_
 rintro e w8 hr
 rw [← HH.out.2.2.2.2] at hr
 obtain ⟨A8, m8, c8, rfl, e8, o8, n8, f8⟩ := hr
 subst e8
 generalize x.s.listE = er
 have H8 := Lib.hid (And.intro o8 n8)
 clear o8 n8 f8
 have n58 : New w5 w8 := (H6.out.1.trans H7.out.2.1 fid fid).trans H8.out.2 fid fid
 have oa := H5.out.1.new n58
 have ob := H7.out.1.new H8.out.2
 have HO := Lib.hid (And.intro oa (And.intro ob n58))
 clear oa ob n58
 go_wp2_with fail
 refine (num_calls _ _).mono ?_
 rintro e w' ⟨rfl, rfl⟩
 go_wp2_with fail
 refine (num_calls _ _).mono ?_
 rintro e w' ⟨rfl, rfl⟩
 go_wp2_with fail
 refine (num_calls _ _).mono ?_
 rintro e w' ⟨rfl, rfl⟩
 go_wp2_with fail
 refine (num_calls _ _).mono ?_
 rintro e w' ⟨rfl, rfl⟩
 go_wp2_with fail
 refine (lawTexts_calls w8 A5 A8 x.s.lists.length x.s.lists.length c5 c8 x.s.lists HO.out.1.rdC H8.out.1.rdC rfl rfl hnl).mono ?_
 rintro e w9 ⟨rfl, n9⟩
 have H9 := Lib.hid n9
 clear n9
 go_wp2_with fail
 refine (lawTexts_calls w9 A7 A8 x.s.lists.length x.s.lists.length c7 c8 x.s.lists (HO.out.2.1.new H9.out).rdC (H8.out.1.new H9.out).rdC rfl rfl hnl).mono ?_
 rintro e wa ⟨rfl, na⟩
 have HA := Lib.hid na
 clear na
 go_wp2_with fail
 have n8a : New w8 wa := H9.out.trans HA.out fid fid
 have hIa := ((HV.out.2.2.new H5.out.2.1).new HO.out.2.2).new n8a
 have hz5 := H5.out.2.1.size
 have hz6 := H6.out.1.size
 have hz7 := H7.out.2.1.size
 have hz8 := H8.out.2.size
 have hV0 := HV.out.2.2.low.size
 have hza := n8a.size
 have hA5 : ∀ k, Bk A5 k → V.heap.size ≤ k ∧ k < w5.heap.size := fun k hk => ⟨H5.out.2.2.1 k hk, H5.out.1.lt k hk⟩
 have hA7 : ∀ k, Bk A7 k → w6.heap.size ≤ k ∧ k < w7.heap.size := fun k hk => ⟨H7.out.2.2.1 k hk, H7.out.1.lt k hk⟩
 have hΦV : ∀ k, Φ k → k < V.heap.size := HV.out.2.2.book.lt
 have hDV : ∀ j y, D j = some y → ∀ k, y.Fp k → k < V.heap.size := fun j y hy => (HV.out.2.2.at_ j y hy).lt
 have hA79 : ∀ k, Bk A7 k → ¬ (Φ k ∨ Bk A5 k) := fun k hk he => by
  have h1 := hA7 k hk
  rcases he with he | he
  ·have := hΦV k he
   omega
  ·have := hA5 k he
   omega
 have HZ := Lib.hid (And.intro hIa (And.intro (HO.out.1.new n8a) (And.intro (HO.out.2.1.new n8a) (And.intro hA79 (And.intro (fun k hk hf => by have := hA5 k hk; have := hΦV k hf; omega : ∀ k, Bk A5 k → ¬ Φ k) (And.intro (fun k hk => by have := hA5 k hk; omega : ∀ k, Bk A5 k → W0.heap.size ≤ k) (And.intro (fun j y hy k hk hb => by have := hA5 k hb; have := hDV j y hy k hk; omega : ∀ j y, D j = some y → ∀ k, y.Fp k → ¬ Bk A5 k) (And.intro (fun k hk => by have := hA7 k hk; omega : ∀ k, Bk A7 k → W0.heap.size ≤ k) (And.intro (fun j y hy k hk hb => by have := hA7 k hb; have := hDV j y hy k hk; omega : ∀ j y, D j = some y → ∀ k, y.Fp k → ¬ Bk A7 k) (fun k hk => by have := hA7 k hk; omega : ∀ k, Bk A7 k → k < wa.heap.size))))))))))
 clear n8a hIa hz5 hz6 hz7 hz8 hV0 hza hA5 hA7 hΦV hDV hA79
 refine (KeepTexts3 wa g (pcOf D) Φ (fun _ => 0) rfl A5 x.s.lists.length c5 HZ.out.1.book (x.s.lists.map sv) HZ.out.2.1 (texts_wf _) (by omega) HZ.out.2.2.2.2.1).mono ?_
 rintro e wb ⟨rfl, hp⟩
 obtain ⟨Φb, hIb, hkb, hsb⟩ := HZ.out.1.put hp HZ.out.2.2.2.2.2.1 HZ.out.2.2.2.2.2.2.1
 have HB := Lib.hid (And.intro hIb (And.intro hkb hsb))
 clear hp hIb hkb hsb
 go_wp2_with fail
 refine (WriteTexts3 wb g (pcOf D) Φb (fun _ => 0) rfl A7 x.s.lists.length c7 HB.out.1.book (x.s.lists.map sv) (HZ.out.2.2.1.kp HB.out.2.1 HZ.out.2.2.2.1) (by omega) HB.out.1.tab (fun hk => by have := HZ.out.2.2.2.2.2.2.2.1 _ hk; have := HB.out.1.tabL; omega) HB.out.1.tabΦ (fun k hk hf => (HB.out.2.2 k hf).elim (fun h => HZ.out.2.2.2.1 k hk (.inl h)) (fun h => h.elim (fun h => HZ.out.2.2.2.1 k hk (.inr h)) (fun h => by have := HZ.out.2.2.2.2.2.2.2.2.2 k hk; omega)))).mono ?_
 rintro e wc ⟨rfl, hp⟩
 obtain ⟨Φc, hIc, hkc, hsc⟩ := HB.out.1.put hp HZ.out.2.2.2.2.2.2.2.1 HZ.out.2.2.2.2.2.2.2.2.1
 have HC := Lib.hid hIc
 clear hp hIc hkc hsc
 go_wp2_with fail
 go_ret
 exact ⟨by simp, _, _, HC.out, HH.out.2.1⟩
theorem fv_tel (ys : List FV) : (ys.map FV.fi).map FI.tel = ys.map fun y => (y.f.name, y.f.data, (y.f.syn : Int)) := by rw [List.map_map]; rfl
theorem tel_eq {ys zs : List FV} (h : ys.map FV.f = zs.map FV.f) : (ys.map FV.fi).map FI.tel = (zs.map FV.fi).map FI.tel := by
 rw [fv_tel, fv_tel]
 have : ∀ l : List FV, (l.map fun y => (y.f.name, y.f.data, (y.f.syn : Int))) = (l.map FV.f).map fun f => (f.name, f.data, (f.syn : Int)) := fun l => by rw [List.map_map]; rfl
 rw [this, this, h]
theorem OwnF.rdI {w : World} {A : Option Addr} {c : Nat} {ys : List FV} (h : OwnF w A c ys) : RdI w A (ys.map FV.fi) := (h.toN.rd).toI
theorem OwnF.new {w w' : World} {A : Option Addr} {c : Nat} {ys : List FV} (h : OwnF w A c ys) (hk : New w w') : OwnF w' A c ys := h.keep fun k hm => hk.block k (h.lt k hm) id
theorem fl_len {s : DS} {ys : List FV} (h : s.Ok) (hy : ys.map FV.f = s.files) : ys.length ≤ 64 ∧ ∀ y ∈ ys, y.f.data.length ≤ 1048576 := by
 have h1 := congrArg List.length hy
 rw [List.length_map] at h1
 have h2 := h.few
 refine ⟨by omega, fun y hm => ?_⟩
 have hf : y.f ∈ s.files := hy ▸ List.mem_map_of_mem hm
 obtain ⟨l1, l2, he⟩ := List.append_of_mem hf
 have h3 : y.f.data.length ≤ s.used := by
  unfold DS.used
  rw [he, used_app, used_cons]
  omega
 have := h.used
 have := h.cap
 omega
set_option maxRecDepth 100000 in
set_option maxHeartbeats 4000000 in
theorem looks_15 (W0 w : World) (g i : Nat) (D : Pairs) (Φ : Nat → Prop) (o : OpS) (x : PD) (h : Inv W0 g D Φ w) (hA : Alike D) (ho : o.Ok W0) (hi3 : i < 3) (hx : D i = some x) :
  Calls Tryz.prog 19 #[.pointer (some ⟨g, 0, none⟩), .agg (o.with i 15)] w (StepPost W0 g) := by
 unfold OpS.with
 have hmo : Tryz.prog.follows Departure.mixedOrders = true := by kernel_rfl
 have hst := hA i x hx
 have HH := Lib.hid (And.intro h (And.intro hA (And.intro ho (And.intro hx hst))))
 have hi0 : (0 : Int) ≤ i := by omega
 have hi3' : (i : Int) < 3 := by omega
 clear h hA ho hx hst
 go_enter Tryz.func19, Tryz.ntmps19
 go_wp2_with fail
 obtain ⟨W, hW⟩ : ∃ W, w.alloc (.cells #[.int .i64 (i : Int), .int .i64 15, .string (bstr o.name), .string (bstr o.to), .slice o.bA o.body.length o.bc, .int .i64 o.at_, .int .i64 o.n, .slice o.kA o.keep.length o.kc, .int .i64 o.cap, .slice o.fA o.files.length o.fc, .int .i64 o.fuse, .bool o.down] 61) = W := ⟨_, rfl⟩
 rw [hW]
 have nW : New w W := hW ▸ Kp.alloc _ _ _
 have bW : W.heap[w.heap.size]? = some (.cells (o.with i 15) 61 (0, 0)) := hW ▸ heap_alloc_new w _
 have hI := HH.out.1.new nW
 have c0 : W.cell? ⟨w.heap.size, 0, none⟩ = some (.int .i64 (i : Int)) := (cell_of_block bW).trans rfl
 have p0 : W.cell? ⟨g, i, none⟩ = some (.pointer (some ⟨x.d, 0, none⟩)) := (hI.dpc hi3).1.trans (congrArg some (dp_some HH.out.2.2.2.1))
 have p1 : W.cell? ⟨g, 3 + i, none⟩ = some (.pointer (some ⟨x.r, 0, none⟩)) := (hI.rpc hi3).1.trans (congrArg some (rp_some HH.out.2.2.2.1))
 have HW := Lib.hid (And.intro nW (And.intro bW hI))
 clear hW nW bW hI
 refine wp_region_line (fun w' => w'.cell? ⟨w.heap.size, 0, none⟩ = some (.int .i64 (i : Int)) ∧ w'.cell? ⟨g, i, none⟩ = some (.pointer (some ⟨x.d, 0, none⟩))) (pl := [(0, true), (1, true), (2, true), (3, true), (4, true), (5, true), (6, true), (7, true)]) hmo (by kernel_rfl) ⟨by simpa using c0, by simpa using p0⟩ ?_
 iterate 8 (refine line_get rfl rfl (fun K hK => ?_); apply Exists.intro; refine ⟨fun w s => ?_, ?_⟩; (first | (have q := s rfl; go_simp; with_reducible rfl) | (go_simp; with_reducible rfl)); (go_simp; refine hK _ ?_; clear hK K))
 refine line_nil ?_
 go_wp2_with fail
 refine wp_region_line (fun w' => w'.cell? ⟨w.heap.size, 0, none⟩ = some (.int .i64 (i : Int)) ∧ w'.cell? ⟨g, 3 + i, none⟩ = some (.pointer (some ⟨x.r, 0, none⟩))) (pl := [(0, true), (1, true), (2, true), (3, true), (4, true), (5, true), (6, true), (7, true)]) hmo (by kernel_rfl) ⟨by simpa using c0, by simpa using p1⟩ ?_
 iterate 8 (refine line_get rfl rfl (fun K hK => ?_); apply Exists.intro; refine ⟨fun w s => ?_, ?_⟩; (first | (have q := s rfl; go_simp; with_reducible rfl) | (go_simp; with_reducible rfl)); (go_simp; refine hK _ ?_; clear hK K))
 refine line_nil ?_
 obtain ⟨V, hV⟩ : ∃ V, W.drew.drew = V := ⟨_, rfl⟩
 rw [hV]
 have nV : New W V := hV ▸ (Kp.drew _ _).trans (Kp.drew _ _) fid fid
 have bV : V.heap[w.heap.size]? = some (.cells (o.with i 15) 61 (0, 0)) := hV ▸ HW.out.2.1
 have hIV := HW.out.2.2.new nV
 have HV := Lib.hid (And.intro (HW.out.1.trans nV fid fid) (And.intro bV hIV))
 clear hV nV bV hIV c0 p0 p1
 have k1 : V.cell? ⟨w.heap.size, 1, none⟩ = some (.int .i64 15) := (cell_of_block HV.out.2.1).trans rfl
 have hq := HV.out.2.2.at_ i x HH.out.2.2.2.1
 have HQ := Lib.hid hq
 clear hq
 go_wp2_with fail
 refine (State_calls V x.d x.s x.F HQ.out.p).mono ?_
 rintro e w5 ⟨A5, c5, ys5, rfl, o5, y5, f5, n5⟩
 have H5 := Lib.hid (And.intro o5 (And.intro y5 (And.intro f5 (And.intro n5 (HQ.out.kp n5 (fun _ _ => id))))))
 clear o5 y5 f5 n5 k1
 go_wp2_with fail
 obtain ⟨wa, hwa⟩ : ∃ wa, w5.alloc (.cells #[.int .i64 (x.s.cap : Int), .slice A5 ys5.length c5, .int .i64 x.s.fuse, .bool x.s.down] 59) = wa := ⟨_, rfl⟩
 rw [hwa]
 have nwa : New w5 wa := hwa ▸ Kp.alloc _ _ _
 have bwa : wa.heap[w5.heap.size]? = some (.cells #[.int .i64 (x.s.cap : Int), .slice A5 ys5.length c5, .int .i64 x.s.fuse, .bool x.s.down] 59 (0, 0)) := hwa ▸ heap_alloc_new w5 _
 have HA := Lib.hid (And.intro nwa (And.intro bwa (H5.out.2.2.2.2.kp nwa (fun _ _ => id))))
 clear hwa nwa bwa
 refine (Lists_calls wa x.d x.s x.F HA.out.2.2.p).mono ?_
 rintro e w6 ⟨A6, m6, c6, rfl, e6, o6, n6, f6⟩
 have H6 := Lib.hid (And.intro n6 (HA.out.2.2.kp n6 (fun _ _ => id)))
 clear o6 n6 f6 e6
 go_wp2_with fail
 refine (State_calls w6 x.d x.s x.F H6.out.2.p).mono ?_
 rintro e w7 ⟨A7, c7, ys7, rfl, o7, y7, f7, n7⟩
 have H7 := Lib.hid (And.intro o7 (And.intro y7 (And.intro f7 (And.intro n7 (H6.out.2.kp n7 (fun _ _ => id))))))
 clear o7 y7 f7 n7
 go_wp2_with fail
 obtain ⟨wb, hwb⟩ : ∃ wb, w7.alloc (.cells #[.int .i64 (x.s.cap : Int), .slice A7 ys7.length c7, .int .i64 x.s.fuse, .bool x.s.down] 59) = wb := ⟨_, rfl⟩
 rw [hwb]
 have nwb : New w7 wb := hwb ▸ Kp.alloc _ _ _
 have bwb : wb.heap[w7.heap.size]? = some (.cells #[.int .i64 (x.s.cap : Int), .slice A7 ys7.length c7, .int .i64 x.s.fuse, .bool x.s.down] 59 (0, 0)) := hwb ▸ heap_alloc_new w7 _
 have HB := Lib.hid (And.intro nwb (And.intro bwb (H7.out.2.2.2.2.kp nwb (fun _ _ => id))))
 clear hwb nwb bwb
 refine (RState_calls wb x.r x.t x.G HB.out.2.2.q).mono ?_
 rintro e w8 hr
 rw [← HH.out.2.2.2.2] at hr
 obtain ⟨A8, c8, ys8, rfl, o8, y8, f8, n8⟩ := hr
 have H8 := Lib.hid (And.intro o8 (And.intro y8 (And.intro f8 n8)))
 clear o8 y8 f8 n8
 have nl : New wa (w8.alloc (.cells #[.int .i64 (x.s.cap : Int), .slice A8 ys8.length c8, .int .i64 x.s.fuse, .bool x.s.down] 59)) := ((H6.out.1.trans H7.out.2.2.2.1 fid fid).trans (HB.out.1.trans H8.out.2.2.2 fid fid) fid fid).trans (Kp.alloc _ _ _) fid fid
 have bal := heap_kp' HA.out.2.1 nl id
 have la0 : (w8.alloc (.cells #[.int .i64 (x.s.cap : Int), .slice A8 ys8.length c8, .int .i64 x.s.fuse, .bool x.s.down] 59)).cell? ⟨w5.heap.size, 0, none⟩ = some (.int .i64 (x.s.cap : Int)) := (cell_of_block bal).trans rfl
 have la1 : (w8.alloc (.cells #[.int .i64 (x.s.cap : Int), .slice A8 ys8.length c8, .int .i64 x.s.fuse, .bool x.s.down] 59)).cell? ⟨w5.heap.size, 1, none⟩ = some (.slice A5 ys5.length c5) := (cell_of_block bal).trans rfl
 have la2 : (w8.alloc (.cells #[.int .i64 (x.s.cap : Int), .slice A8 ys8.length c8, .int .i64 x.s.fuse, .bool x.s.down] 59)).cell? ⟨w5.heap.size, 2, none⟩ = some (.int .i64 x.s.fuse) := (cell_of_block bal).trans rfl
 have la3 : (w8.alloc (.cells #[.int .i64 (x.s.cap : Int), .slice A8 ys8.length c8, .int .i64 x.s.fuse, .bool x.s.down] 59)).cell? ⟨w5.heap.size, 3, none⟩ = some (.bool x.s.down) := (cell_of_block bal).trans rfl
 clear nl bal
 go_wp2_with fail
 clear la0 la1 la2 la3
 obtain ⟨wc, hwc⟩ : ∃ wc, w8.alloc (.cells #[.int .i64 (x.s.cap : Int), .slice A8 ys8.length c8, .int .i64 x.s.fuse, .bool x.s.down] 59) = wc := ⟨_, rfl⟩
 rw [hwc]
 have nwc : New w8 wc := hwc ▸ Kp.alloc _ _ _
 have bwc : wc.heap[w8.heap.size]? = some (.cells #[.int .i64 (x.s.cap : Int), .slice A8 ys8.length c8, .int .i64 x.s.fuse, .bool x.s.down] 59 (0, 0)) := hwc ▸ heap_alloc_new w8 _
 have n78 : New wb wc := H8.out.2.2.2.trans nwc fid fid
 have n7c : New w7 wc := HB.out.1.trans n78 fid fid
 have n6c : New w6 wc := H7.out.2.2.2.1.trans n7c fid fid
 have nac : New wa wc := H6.out.1.trans n6c fid fid
 have n5c : New w5 wc := HA.out.1.trans nac fid fid
 have ba := heap_kp' HA.out.2.1 nac id
 have bb := heap_kp' HB.out.2.1 n78 id
 have o5c := H5.out.1.new n5c
 have o7c := H7.out.1.new n7c
 have o8c := H8.out.1.new nwc
 have l57 : ys5.map FV.f = ys8.map FV.f := H5.out.2.1.trans H8.out.2.1.symm
 have l78 : ys7.map FV.f = ys8.map FV.f := H7.out.2.1.trans H8.out.2.1.symm
 have hl5 := fl_len HQ.out.p.ok H5.out.2.1
 have hl7 := fl_len HQ.out.p.ok H7.out.2.1
 have hn5 : ys8.length = (ys5.map FV.fi).length := by have := congrArg List.length l57; simpa using this.symm
 have hn7 : ys8.length = (ys7.map FV.fi).length := by have := congrArg List.length l78; simpa using this.symm
 have hIc := ((HV.out.2.2.new H5.out.2.2.2.1).new n5c)
 have HC := Lib.hid (And.intro hIc (And.intro o5c (And.intro o7c (And.intro o8c (And.intro l57 (And.intro l78 (And.intro hl5 (And.intro hl7 (And.intro hn5 (And.intro hn7 (And.intro n5c (And.intro n7c (And.intro ba bb)))))))))))))
 have a0 : wc.cell? ⟨w5.heap.size, 0, none⟩ = some (.int .i64 (x.s.cap : Int)) := (cell_of_block ba).trans rfl
 have a1 : wc.cell? ⟨w5.heap.size, 1, none⟩ = some (.slice A5 ys5.length c5) := (cell_of_block ba).trans rfl
 have a2 : wc.cell? ⟨w5.heap.size, 2, none⟩ = some (.int .i64 x.s.fuse) := (cell_of_block ba).trans rfl
 have a3 : wc.cell? ⟨w5.heap.size, 3, none⟩ = some (.bool x.s.down) := (cell_of_block ba).trans rfl
 have b0 : wc.cell? ⟨w7.heap.size, 0, none⟩ = some (.int .i64 (x.s.cap : Int)) := (cell_of_block bb).trans rfl
 have b1 : wc.cell? ⟨w7.heap.size, 1, none⟩ = some (.slice A7 ys7.length c7) := (cell_of_block bb).trans rfl
 have b2 : wc.cell? ⟨w7.heap.size, 2, none⟩ = some (.int .i64 x.s.fuse) := (cell_of_block bb).trans rfl
 have b3 : wc.cell? ⟨w7.heap.size, 3, none⟩ = some (.bool x.s.down) := (cell_of_block bb).trans rfl
 have d0 : wc.cell? ⟨w8.heap.size, 0, none⟩ = some (.int .i64 (x.s.cap : Int)) := (cell_of_block bwc).trans rfl
 have d1 : wc.cell? ⟨w8.heap.size, 1, none⟩ = some (.slice A8 ys8.length c8) := (cell_of_block bwc).trans rfl
 have d2 : wc.cell? ⟨w8.heap.size, 2, none⟩ = some (.int .i64 x.s.fuse) := (cell_of_block bwc).trans rfl
 have d3 : wc.cell? ⟨w8.heap.size, 3, none⟩ = some (.bool x.s.down) := (cell_of_block bwc).trans rfl
 clear hwc nwc bwc n78 n7c n6c nac n5c ba bb o5c o7c o8c l57 l78 hl5 hl7 hn5 hn7 hIc
 refine (SameI_calls wc (x.s.cap : Int) x.s.fuse x.s.down A5 A8 ys5.length ys8.length c5 c8 (ys5.map FV.fi) (ys8.map FV.fi) HC.out.2.1.rdI HC.out.2.2.2.1.rdI (tel_eq HC.out.2.2.2.2.1) (by simp) HC.out.2.2.2.2.2.2.2.2.1 (by simp; have := HC.out.2.2.2.2.2.2.1.1; omega)).mono ?_
 rintro e wd ⟨rfl, nd⟩
 have a0 := New.cell nd a0
 have a1 := New.cell nd a1
 have a2 := New.cell nd a2
 have a3 := New.cell nd a3
 have b0 := New.cell nd b0
 have b1 := New.cell nd b1
 have b2 := New.cell nd b2
 have b3 := New.cell nd b3
 have d0 := New.cell nd d0
 have d1 := New.cell nd d1
 have d2 := New.cell nd d2
 have d3 := New.cell nd d3
 have HDn := Lib.hid nd
 clear nd
 go_wp2_with fail
 refine (SameI_calls wd (x.s.cap : Int) x.s.fuse x.s.down A7 A8 ys7.length ys8.length c7 c8 (ys7.map FV.fi) (ys8.map FV.fi) (HC.out.2.2.1.new HDn.out).rdI (HC.out.2.2.2.1.new HDn.out).rdI (tel_eq HC.out.2.2.2.2.2.1) (by simp) HC.out.2.2.2.2.2.2.2.2.2.1 (by simp; have := HC.out.2.2.2.2.2.2.2.1.1; omega)).mono ?_
 rintro e we ⟨rfl, ne⟩
 have a0 := New.cell ne a0
 have a1 := New.cell ne a1
 have a2 := New.cell ne a2
 have a3 := New.cell ne a3
 have hce := HDn.out.trans ne fid fid
 have bb := heap_kp' HC.out.2.2.2.2.2.2.2.2.2.2.2.2.2 hce id
 have hz5 := H5.out.2.2.2.1.size
 have hz5c := HC.out.2.2.2.2.2.2.2.2.2.2.1.size
 have hz7c := HC.out.2.2.2.2.2.2.2.2.2.2.2.1.size
 have hzce := hce.size
 have hV0 := HV.out.2.2.low.size
 have hΦV : ∀ k, Φ k → k < V.heap.size := HV.out.2.2.book.lt
 have hDV : ∀ j y, D j = some y → ∀ k, y.Fp k → k < V.heap.size := fun j y hy => (HV.out.2.2.at_ j y hy).lt
 have hza := HA.out.1.size
 have hz6 := H6.out.1.size
 have hf5 : ∀ k ∈ bks A5 ++ fblks ys5, Free W0 D Φ k := fun k hk => by
  have h1 := H5.out.2.2.1 k hk
  exact ⟨by omega, fun hf => by have := hΦV k hf; omega, fun j y hy hf => by have := hDV j y hy k hf; omega⟩
 have hlt5 := H5.out.1.lt
 have hlt7 := H7.out.1.lt
 have hge7 : ∀ k ∈ bks A7 ++ fblks ys7, w5.heap.size ≤ k := fun k hk => by have := H7.out.2.2.1 k hk; omega
 have hbz : w7.heap.size < wc.heap.size := (Array.getElem?_eq_some_iff.1 HC.out.2.2.2.2.2.2.2.2.2.2.2.2.2).1
 have hz7 : w6.heap.size ≤ w7.heap.size := H7.out.2.2.2.1.size
 have HE := Lib.hid (And.intro (HC.out.1.new hce) (And.intro (HC.out.2.1.new hce) (And.intro (HC.out.2.2.1.new hce) (And.intro hf5 (And.intro bb (And.intro hΦV (And.intro hDV (And.intro hlt5 (And.intro hlt7 (And.intro hge7 (And.intro hbz (And.intro hzce (And.intro (show V.heap.size ≤ w5.heap.size from hz5) (And.intro (show w5.heap.size ≤ w7.heap.size by omega) (And.intro hV0 hz7c)))))))))))))))
 clear ne hce bb hz5 hz5c hz7c hzce hV0 hΦV hDV hza hz6 hf5 hlt5 hlt7 hge7 hbz hz7 b0 b1 b2 b3 d0 d1 d2 d3
 go_wp2_with fail
 refine (state_false W0 we g D Φ (x.s.cap : Int) x.s.fuse x.s.down A5 c5 ys5 HE.out.1 HE.out.2.1 HE.out.2.2.2.1 HC.out.2.2.2.2.2.2.1.1 HC.out.2.2.2.2.2.2.1.2).mono ?_
 rintro e wf ⟨rfl, Φf, hIf, hkf, hsf⟩
 have hdis : ∀ k ∈ bks A7 ++ fblks ys7, ¬ (Φ k ∨ k ∈ bks A5 ++ fblks ys5) := fun k hk he => by
  have h1 := HE.out.2.2.2.2.2.2.2.2.2.1 k hk
  rcases he with he | he
  ·have := HE.out.2.2.2.2.2.1 k he
   have := HE.out.2.2.2.2.2.2.2.2.2.2.2.2.1
   omega
  ·have := HE.out.2.2.2.2.2.2.2.1 k he
   omega
 have bf := heap_kp' HE.out.2.2.2.2.1 hkf (fun he => by
  have h7 := HE.out.2.2.2.2.2.2.2.2.2.2.2.2.2.1
  have h5 := HE.out.2.2.2.2.2.2.2.2.2.2.2.2.1
  rcases he with he | he
  ·have := HE.out.2.2.2.2.2.1 _ he
   omega
  ·have := HE.out.2.2.2.2.2.2.2.1 _ he
   omega)
 have o7f : OwnF wf A7 c7 ys7 := HE.out.2.2.1.keep fun k hm => hkf.block k (HE.out.2.2.1.lt k hm) (hdis k hm)
 have hf7 : ∀ k ∈ bks A7 ++ fblks ys7, Free W0 D Φf k := fun k hk => by
  have h1 := HE.out.2.2.2.2.2.2.2.2.2.1 k hk
  have h2 := HE.out.2.2.2.2.2.2.2.2.1 k hk
  have h5 := HE.out.2.2.2.2.2.2.2.2.2.2.2.2.1
  have h0 := HE.out.2.2.2.2.2.2.2.2.2.2.2.2.2.2.1
  have hce := HE.out.2.2.2.2.2.2.2.2.2.2.2.1
  have h7c := HE.out.2.2.2.2.2.2.2.2.2.2.2.2.2.2.2
  refine ⟨by omega, fun hf => (hsf k hf).elim (fun h => hdis k hk (.inl h)) (fun h => h.elim (fun h => hdis k hk (.inr h)) (fun h => by omega)), fun j y hy hf => by have := HE.out.2.2.2.2.2.2.1 j y hy k hf; omega⟩
 have HF := Lib.hid (And.intro hIf (And.intro o7f hf7))
 have b0 : wf.cell? ⟨w7.heap.size, 0, none⟩ = some (.int .i64 (x.s.cap : Int)) := (cell_of_block bf).trans rfl
 have b1 : wf.cell? ⟨w7.heap.size, 1, none⟩ = some (.slice A7 ys7.length c7) := (cell_of_block bf).trans rfl
 have b2 : wf.cell? ⟨w7.heap.size, 2, none⟩ = some (.int .i64 x.s.fuse) := (cell_of_block bf).trans rfl
 have b3 : wf.cell? ⟨w7.heap.size, 3, none⟩ = some (.bool x.s.down) := (cell_of_block bf).trans rfl
 clear hIf hkf hsf hdis bf o7f hf7 a0 a1 a2 a3
 go_wp2_with fail
 refine (state_true W0 wf g D Φf (x.s.cap : Int) x.s.fuse x.s.down A7 c7 ys7 HF.out.1 HF.out.2.1 HF.out.2.2 HC.out.2.2.2.2.2.2.2.1.1 HC.out.2.2.2.2.2.2.2.1.2).mono ?_
 rintro e wg ⟨rfl, Φg, hIg, _, _⟩
 have HG := Lib.hid hIg
 clear hIg b0 b1 b2 b3
 go_wp2_with fail
 go_ret
 exact ⟨rfl, _, _, HG.out, HH.out.2.1⟩
theorem looks_calls (W0 w : World) (g i : Nat) (D : Pairs) (Φ : Nat → Prop) (o : OpS) (x : PD) (h : Inv W0 g D Φ w) (hA : Alike D) (ho : o.Ok W0) (hi3 : i < 3) (hx : D i = some x) (hi : o.disk = i) (hk : o.kind = 8 ∨ o.kind = 9 ∨ o.kind = 10 ∨ o.kind = 11 ∨ o.kind = 13 ∨ o.kind = 15) :
  Calls Tryz.prog 19 #[.pointer (some ⟨g, 0, none⟩), .agg o.arr] w (StepPost W0 g) := by
 rcases hk with hk | hk | hk | hk | hk | hk <;> rw [OpS.arr_with hi hk]
 ·exact looks_8 W0 w g i D Φ o x h hA ho hi3 hx
 ·exact looks_9 W0 w g i D Φ o x h hA ho hi3 hx
 ·exact looks_10 W0 w g i D Φ o x h hA ho hi3 hx
 ·exact looks_11 W0 w g i D Φ o x h hA ho hi3 hx
 ·exact looks_13 W0 w g i D Φ o x h hA ho hi3 hx
 ·exact looks_15 W0 w g i D Φ o x h hA ho hi3 hx
end Go.Proofs.YtekcoeonlfmebaaGreatDoor.Kit
