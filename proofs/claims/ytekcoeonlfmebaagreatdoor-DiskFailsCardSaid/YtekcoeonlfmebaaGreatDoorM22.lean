/- 1 texts in one: disk.State: all that it keeps. -/
import Derived.Test.YtekcoeonlfmebaaGreatDoorM21
import Derived.Test.YtekcoeonlfmebaaGreatDoorM12
import Derived.Test.YtekcoeonlfmebaaGreatDoorM0
namespace Go.Proofs.YtekcoeonlfmebaaGreatDoor.Kit
open Go Go.RowKit
theorem find_file {s : DS} (h : s.Ok) {k : Nat} {f : Fl} (hf : s.files[k]? = some f) : s.find f.name = some f := by
 have hn := Rise.nodup h.rise
 obtain ⟨g, hg⟩ : ∃ g, s.find f.name = some g := by
  cases hg : s.find f.name with
  | some g => exact ⟨g, rfl⟩
  | none => exact absurd (by simp) (List.find?_eq_none.1 hg f (List.mem_of_getElem? hf))
 obtain ⟨hgn, l1, l2, hl, hne⟩ := DS.find_cut h hg
 have hm : f ∈ l1 ++ g :: l2 := hl ▸ List.mem_of_getElem? hf
 rw [hg]
 rcases List.mem_append.1 hm with h1 | h1
 ·exact absurd rfl (hne f (List.mem_append_left _ h1))
 ·rcases List.mem_cons.1 h1 with rfl | h1
  ·rfl
  ·exact absurd rfl (hne f (List.mem_append_right _ h1))
def StatePost (w : World) (s : DS) (e : Ending) (w' : World) : Prop :=
 ∃ A c ys, e = .returned (.agg #[.int .i64 (s.cap : Int), .slice A ys.length c, .int .i64 s.fuse, .bool s.down]) ∧ OwnF w' A c ys ∧ ys.map FV.f = s.files ∧ (∀ k, k ∈ bks A ++ fblks ys → w.heap.size ≤ k) ∧ New w w'
set_option maxRecDepth 100000 in
set_option maxHeartbeats 8000000 in
theorem State_calls (w : World) (d : Nat) (s : DS) (F : List Nat) (hD : DiskAt w d s F) :
  Calls Tryz.prog 14 #[.pointer (some ⟨d, 0, none⟩)] w (StatePost w s) := by
 obtain ⟨bm, hb⟩ := hD.cells
 have hdl := hD.lt d hD.mem
 have HD := Lib.hid hD
 have hmo : Tryz.prog.follows Departure.mixedOrders = true := by kernel_rfl
 have c0 : w.cell? ⟨d, 0, none⟩ = some (.int .i64 (s.cap : Int)) := (cell_of_block hb).trans rfl
 have c3 : w.cell? ⟨d, 3, none⟩ = some (.int .i64 s.fuse) := (cell_of_block hb).trans rfl
 have c4 : w.cell? ⟨d, 4, none⟩ = some (.bool s.down) := (cell_of_block hb).trans rfl
 clear hb hD
 go_enter Tryz.func14, Tryz.ntmps14
 go_wp2_with fail
 obtain ⟨W0, hW0⟩ : ∃ W0, w.alloc (.cells #[.int .i64 0, .slice none 0 0, .int .i64 0, .bool false] 59) = W0 := ⟨_, rfl⟩
 rw [hW0]
 have n0 : New w W0 := hW0 ▸ Kp.alloc _ _ _
 have z0 : W0.heap.size = w.heap.size + 1 := by rw [← hW0]; simp
 have r0 : W0.heap[w.heap.size]? = some (.cells #[.int .i64 0, .slice none 0 0, .int .i64 0, .bool false] 59 (0, 0)) := hW0 ▸ heap_alloc_new w _
 have d0 := n0.cell c0
 have d3 := n0.cell c3
 have d4 := n0.cell c4
 have HZ := Lib.hid z0
 clear hW0 z0
 refine wp_region_line (fun w' => w'.cell? ⟨d, 0, none⟩ = some (.int .i64 (s.cap : Int)) ∧ w'.cell? ⟨d, 3, none⟩ = some (.int .i64 s.fuse) ∧ w'.cell? ⟨d, 4, none⟩ = some (.bool s.down)) (pl := [(0, true), (1, true), (2, true), (3, true), (4, true), (5, true), (6, true), (7, true), (8, true), (9, true), (10, true), (11, true), (12, true), (13, false), (14, false)]) hmo (by kernel_rfl) ⟨by simpa using d0, by simpa using d3, by simpa using d4⟩ ?_
 iterate 13 (refine line_get rfl rfl (fun K hK => ?_); apply Exists.intro; refine ⟨fun w s => ?_, ?_⟩; (first | (have q := s rfl; go_simp; with_reducible rfl) | (go_simp; with_reducible rfl)); (go_simp; refine hK _ ?_; clear hK K))
 (refine line_do rfl rfl (fun K hK => ?_); go_simp)
 have n1 : New W0 (W0.alloc (.cells #[.int .i64 0, .slice none 0 0, .int .i64 0, .bool false] 59)).drew := (Kp.alloc _ _ _).trans (Kp.drew _ _) fid fid
 refine hK _ _ (fun _ => ⟨n1.cell d0, n1.cell d3, n1.cell d4⟩) ?_
 clear hK K
 (refine line_do rfl rfl (fun K hK => ?_); go_simp)
 refine hK _ _ (no_need (by kernel_rfl)) ?_
 clear hK K
 refine line_nil ?_
 have b1 : (W0.alloc (.cells #[.int .i64 (s.cap : Int), .slice none 0 0, .int .i64 s.fuse, .bool s.down] 59)).drew.heap[W0.heap.size]? = some (.cells #[.int .i64 (s.cap : Int), .slice none 0 0, .int .i64 s.fuse, .bool s.down] 59 (0, 0)) := heap_alloc_new W0 _
 have n2 : New W0 (W0.alloc (.cells #[.int .i64 (s.cap : Int), .slice none 0 0, .int .i64 s.fuse, .bool s.down] 59)).drew := (Kp.alloc _ _ _).trans (Kp.drew _ _) fid fid
 have z2 : (W0.alloc (.cells #[.int .i64 (s.cap : Int), .slice none 0 0, .int .i64 s.fuse, .bool s.down] 59)).drew.heap.size = W0.heap.size + 1 := by simp
 have HS := Lib.hid (And.intro n0 (And.intro n2 (And.intro b1 (And.intro r0 z2))))
 clear n1 n2 n0 b1 r0 z2 d0 d3 d4 c0 c3 c4
 generalize (W0.alloc (.cells #[.int .i64 (s.cap : Int), .slice none 0 0, .int .i64 s.fuse, .bool s.down] 59)).drew = W1 at *
 go_wp2_with fail
 refine (names_calls W1 d s F (HD.out.new (HS.out.1.trans HS.out.2.1 fid fid))).mono ?_
 rintro e W2 ⟨AN, nN, cN, rfl, hl, hO, hn, hf⟩
 have hlN : nN ≤ 64 := by rw [hl]; have := HD.out.ok.few; simpa [DS.namesOf] using this
 have HN := Lib.hid (And.intro hl (And.intro hO (And.intro hn hf)))
 clear hl hO hn hf
 go_wp2_with fail
 go_loopw [23] (fun i wr => ∃ (k : Nat) (A1 : Option Addr) (c1 : Nat) (ys : List FV), k ≤ nN ∧ i = .int .i64 (k : Int) ∧ Hid (ys.map FV.f = s.files.take k ∧ ys.length = k ∧ OwnF wr A1 c1 ys ∧ wr.heap[W0.heap.size]? = some (.cells #[.int .i64 (s.cap : Int), .slice A1 k c1, .int .i64 s.fuse, .bool s.down] 59 (0, 0)) ∧ Kp (fun j => j = W0.heap.size) W2 wr ∧ (∀ j, j ∈ bks A1 ++ fblks ys → W2.heap.size ≤ j))) (fun i _ => nN - (intOf i).toNat)
 case atStart =>
  refine ⟨0, none, 0, [], Nat.zero_le _, rfl, Lib.hid ⟨rfl, rfl, OwnF.nil _, ?_, Kp.refl _ _, fun j h => by simp [bks, fblks] at h⟩⟩
  exact (HN.out.2.2.1.block _ (by have := HS.out.2.2.2.2; omega) id).trans HS.out.2.2.1
 case round =>
  obtain ⟨k, A1, c1, ys, hk, rfl, HI⟩ := hrel
  have hbs : w.heap.size < W0.heap.size := by have := HZ.out; omega
  have hbd : ¬ (d = W0.heap.size) := by omega
  have nD : Kp (fun j => j = W0.heap.size) w wr := ((HS.out.1.trans HS.out.2.1 fid fid).trans HN.out.2.2.1 fid fid).trans HI.out.2.2.2.2.1 (fun _ _ h => h.elim) fid
  have hDr := HD.out.kp nD (fun j hj e => by have := HD.out.lt j hj; omega)
  by_cases hlt : k < nN
  ·obtain ⟨f, hf⟩ : ∃ f, s.files[k]? = some f := ⟨_, List.getElem?_eq_getElem (by have := HN.out.1; simp only [DS.namesOf, List.length_map] at this; omega)⟩
   have hfind := find_file HD.out.ok hf
   obtain ⟨bm, xs, hX, -⟩ := hDr
   obtain ⟨x, l1, l2, rfl, rfl, -, hat⟩ := hX.look_some hfind
   obtain ⟨gN, rfl⟩ := HN.out.2.1.some_ (by omega)
   have hgN := HN.out.2.2.2 gN (Bk.some_.2 rfl)
   have hON := HN.out.2.1.kp HI.out.2.2.2.2.1 (fun j hb e => by have := HN.out.2.2.2 j hb; have := HS.out.2.2.2.2; omega)
   have e0 : wr.cell? ⟨gN, k, none⟩ = some (.string (bstr x.f.name)) := hON.cell (by simp [DS.namesOf, hf])
   have e1 : wr.cell? ⟨d, 2, none⟩ = some (.map (some bm)) := (cell_of_block hX.blk).trans rfl
   have hlk : (Instr.lookup 83 (.map (some bm)) (.string (bstr x.f.name)) false).run Tryz.prog wr = .ok (.pointer (some ⟨x.b, 0, none⟩)) wr := by rw [run_look_at hX.map x.f.name, hat]; rfl
   have hxb := hX.mem_cut.1
   have hxo := hX.mem_cut.2
   have e2 : wr.cell? ⟨x.b, 0, none⟩ = some (.slice x.A x.f.data.length x.c) := (cell_of_block hxb).trans rfl
   have e3 : wr.cell? ⟨x.b, 1, none⟩ = some (.int .i64 (x.f.syn : Int)) := (cell_of_block hxb).trans rfl
   have e4 : wr.cell? ⟨W0.heap.size, 1, none⟩ = some (.slice A1 k c1) := (cell_of_block HI.out.2.2.2.1).trans rfl
   have hdl2 := used_at' hX.ok hfind
   have hcap := hX.ok.cap
   have hus := hX.ok.used
   have HX := Lib.hid (And.intro hX (And.intro hf (And.intro hxo hxb)))
   have hki : (k : Int) < (nN : Int) := by omega
   have hk0 : (0 : Int) ≤ k := by omega
   clear hX hf hxo hxb hON hat hfind nD hgN
   go_wp2_with fail
   refine wp_region_line (fun w' => w'.cell? ⟨W0.heap.size, 1, none⟩ = some (.slice A1 k c1) ∧ w'.cell? ⟨x.b, 0, none⟩ = some (.slice x.A x.f.data.length x.c) ∧ w'.cell? ⟨x.b, 1, none⟩ = some (.int .i64 (x.f.syn : Int))) (pl := [(0, true), (1, true), (2, true), (3, true), (4, true), (5, true), (6, true), (8, true), (9, true), (10, true), (11, true), (7, false), (12, true), (13, false), (14, false), (15, true), (16, false)]) hmo (by kernel_rfl) ⟨by simpa using e4, by simpa using e2, by simpa using e3⟩ ?_
   iterate 11 (refine line_get rfl rfl (fun K hK => ?_); apply Exists.intro; refine ⟨fun w s => ?_, ?_⟩; (first | (have q := s rfl; go_simp; with_reducible rfl) | (go_simp; with_reducible rfl)); (go_simp; refine hK _ ?_; clear hK K))
   (refine line_do rfl rfl (fun K hK => ?_); go_simp)
   refine (Clone_calls wr.drew x.A x.f.data.length x.c x.f.data (HX.out.2.2.1.new (Kp.drew _ _)).rd rfl (by omega)).mono ?_
   rintro e w3 ⟨A2, n2, c2, rfl, hcl⟩
   obtain ⟨hl2, ho2, hn2, hf2⟩ := hcl
   subst hl2
   have n23 : New wr w3 := (Kp.drew _ _).trans hn2 fid fid
   refine hK _ _ (fun _ => ⟨n23.cell e4, n23.cell e2, n23.cell e3⟩) ?_
   clear hK K
   have HC := Lib.hid (And.intro ho2 (And.intro n23 hf2))
   clear ho2 n23 hf2 hn2
   (refine line_get rfl rfl (fun K hK => ?_); apply Exists.intro; refine ⟨fun w s => ?_, ?_⟩; (first | (have q := s rfl; go_simp; with_reducible rfl) | (go_simp; with_reducible rfl)); (go_simp; refine hK _ ?_; clear hK K))
   (refine line_do rfl rfl (fun K hK => ?_); go_simp)
   have n4 : New wr (w3.alloc (.cells #[.string (bstr x.f.name), .slice A2 x.f.data.length c2, .int .i64 (x.f.syn : Int)] 82)) := HC.out.2.1.trans (Kp.alloc _ _ _) fid fid
   refine hK _ _ (fun _ => ⟨n4.cell e4, n4.cell e2, n4.cell e3⟩) ?_
   clear hK K
   refine line_do rfl rfl (fun K hK => ?_)
   refine wp_append_src _ (.tmp 34) (.tmp 46) 57 57 rfl 82 _ 3 48 Tryz.underlying57 Tryz.info_file rfl A1 c1 k (FV.flat ys) rfl ?own _ rfl 1 _ (Src.ofNew w3 Tryz.underlying57 #[.string (bstr x.f.name), .slice A2 x.f.data.length c2, .int .i64 (x.f.syn : Int)] 82 3 1 1 rfl (by simp [Value.oneCell'])) (by omega) (by omega) ?_
   case own => exact (HI.out.2.1 ▸ HI.out.2.2.1.1.new n4 :)
   intro A5 c5 w5 hA5 hk5 hb5
   have hA1 : ∀ j, Bk A1 j → W2.heap.size ≤ j := fun j hj => HI.out.2.2.2.2.2 j (List.mem_append_left _ (mem_bks.2 hj))
   have hz2 := HS.out.2.2.2.2
   have hzn := HN.out.2.2.1.size
   have hne1 : ¬ Bk A1 W0.heap.size := fun h => by have := hA1 _ h; omega
   have k45 : Kp (Bk A1) wr w5 := n4.trans hk5 (fun _ _ h => h.elim) fid
   have b5 : w5.heap[W0.heap.size]? = some (.cells #[.int .i64 (s.cap : Int), .slice A1 k c1, .int .i64 s.fuse, .bool s.down] 59 (0, 0)) := (k45.block _ (Array.getElem?_eq_some_iff.1 HI.out.2.2.2.1).1 hne1).trans HI.out.2.2.2.1
   have f5 : w5.cell? ⟨W0.heap.size, 1, none⟩ = some (.slice A1 k c1) := (cell_of_block b5).trans rfl
   have z5 : w5.frozen? ⟨W0.heap.size, 1, none⟩ = false := by simp [World.frozen?, b5]
   have HA := Lib.hid (And.intro hA5 (And.intro k45 (And.intro b5 (And.intro hb5 (And.intro hk5 n4)))))
   refine hK _ _ (no_need (by kernel_rfl)) ?_
   clear hK K hA5 k45 b5 hb5 hk5 hA1 hne1 n4
   (refine line_get rfl rfl (fun K hK => ?_); apply Exists.intro; refine ⟨fun w s => ?_, ?_⟩; (first | (have q := s rfl; go_simp; with_reducible rfl) | (go_simp; with_reducible rfl)); (go_simp; refine hK _ ?_; clear hK K))
   (refine line_do rfl rfl (fun K hK => ?_); go_simp)
   refine hK _ _ (no_need (by kernel_rfl)) ?_
   clear hK K
   refine line_nil ?_
   go_wp2_with fail
   have k56 : Kp (fun j => j = W0.heap.size) w5 (w5.setCell ⟨W0.heap.size, 1, none⟩ (.slice A5 (k + 1) c5)) := Kp.setCell _ _ _ rfl
   have hz3 := HC.out.2.1.size
   have hz4 := HA.out.2.2.2.2.1.size
   have hza : (w3.alloc (.cells #[.string (bstr x.f.name), .slice A2 x.f.data.length c2, .int .i64 (x.f.syn : Int)] 82)).heap.size = w3.heap.size + 1 := by simp
   have hzr := HI.out.2.2.2.2.1.size
   have hA1 : ∀ j, Bk A1 j → W2.heap.size ≤ j ∧ j < wr.heap.size := fun j hj => ⟨HI.out.2.2.2.2.2 j (List.mem_append_left _ (mem_bks.2 hj)), HI.out.2.2.1.lt j (List.mem_append_left _ (mem_bks.2 hj))⟩
   have hA2 : ∀ j, Bk A2 j → wr.heap.size ≤ j ∧ j < w3.heap.size := fun j hj => ⟨HC.out.2.2 j hj, HC.out.1.lt j hj⟩
   have kall : Kp (fun j => j = W0.heap.size ∨ Bk A1 j) wr (w5.setCell ⟨W0.heap.size, 1, none⟩ (.slice A5 (k + 1) c5)) := HA.out.2.1.trans k56 (fun _ _ h => .inr h) (fun _ _ h => .inl h)
   have ho2 : Own (w5.setCell ⟨W0.heap.size, 1, none⟩ (.slice A5 (k + 1) c5)) 5 1 A2 c2 x.f.data.length (bcs x.f.data) :=
    ((HC.out.1.new (Kp.alloc _ _ _)).kp HA.out.2.2.2.2.1 (fun j hj hb => by have := hA1 j hb; have := hA2 j hj; omega)).kp k56 (fun j hj e => by have := hA2 j hj; omega)
   have ho5 : Own (w5.setCell ⟨W0.heap.size, 1, none⟩ (.slice A5 (k + 1) c5)) 82 3 A5 c5 (k + 1) (FV.flat ys ++ [.string (bstr x.f.name), .slice A2 x.f.data.length c2, .int .i64 (x.f.syn : Int)]) :=
    HA.out.1.kp k56 (fun j hj e => (HA.out.2.2.2.1 j hj).elim (fun h => by have := hA1 j h; omega) (fun h => by omega))
   have b6 := heap_setCell_row (j := 1) HA.out.2.2.1 (.slice A5 (k + 1) c5)
   refine ⟨⟨k + 1, A5, c5, ys ++ [⟨x.f, A2, c2⟩], by omega, by go_num, Lib.hid ⟨?_, ?_, ?_, b6, ?_, ?_⟩⟩, by simp [intOf]; omega⟩
   ·rw [List.map_append, HI.out.1, List.take_add_one, HX.out.2.1]
    rfl
   ·rw [List.length_append, HI.out.2.1]
    rfl
   ·refine OwnF.push HI.out.2.2.1 ⟨x.f, A2, c2⟩ ho2 (by rw [HI.out.2.1]; exact ho5) (fun j hj => ?_) (fun j hj => (hA2 j hj).1) (fun j hj => ?_)
    ·have hm := List.mem_append_right (bks A1) hj
     refine kall.block j (HI.out.2.2.1.lt j hm) ?_
     rintro (e | hb)
     ·have := HI.out.2.2.2.2.2 j hm
      omega
     ·exact (List.nodup_append.1 HI.out.2.2.1.2.2).2.2 j (mem_bks.2 hb) j hj rfl
    ·rcases HA.out.2.2.2.1 j hj with h | h
     ·exact .inl h
     ·exact .inr ⟨by omega, fun hb => by have := hA2 j hb; omega⟩
   ·exact HI.out.2.2.2.2.1.trans kall fid (fun j hj h => h.elim id (fun hb => by have := hA1 j hb; omega))
   ·intro j hj
    rw [fblks_snoc] at hj
    rcases List.mem_append.1 hj with hj | hj
    ·rcases HA.out.2.2.2.1 j (mem_bks.1 hj) with h | h
     ·exact (hA1 j h).1
     ·omega
    ·rcases List.mem_append.1 hj with hj | hj
     ·exact HI.out.2.2.2.2.2 j (List.mem_append_right _ hj)
     ·have := hA2 j (mem_bks.1 hj)
      omega
  ·obtain rfl : k = nN := by omega
   have hz2 := HS.out.2.2.2.2
   have hzn := HN.out.2.2.1.size
   have hzr := HI.out.2.2.2.2.1.size
   have bs := HI.out.2.2.2.1
   have br : wr.heap[w.heap.size]? = some (.cells #[.int .i64 0, .slice none 0 0, .int .i64 0, .bool false] 59 (0, 0)) :=
    (HI.out.2.2.2.2.1.block _ (by omega) (by omega)).trans ((HN.out.2.2.1.block _ (by omega) id).trans ((HS.out.2.1.block _ (by omega) id).trans HS.out.2.2.2.1))
   have s0 : wr.cell? ⟨W0.heap.size, 0, none⟩ = some (.int .i64 (s.cap : Int)) := (cell_of_block bs).trans rfl
   have s1 : wr.cell? ⟨W0.heap.size, 1, none⟩ = some (.slice A1 k c1) := (cell_of_block bs).trans rfl
   have s2 : wr.cell? ⟨W0.heap.size, 2, none⟩ = some (.int .i64 s.fuse) := (cell_of_block bs).trans rfl
   have s3 : wr.cell? ⟨W0.heap.size, 3, none⟩ = some (.bool s.down) := (cell_of_block bs).trans rfl
   have q0 : wr.cell? ⟨w.heap.size, 0, none⟩ = some (.int .i64 0) := (cell_of_block br).trans rfl
   have q1 : wr.cell? ⟨w.heap.size, 1, none⟩ = some (.slice none 0 0) := (cell_of_block br).trans rfl
   have q2 : wr.cell? ⟨w.heap.size, 2, none⟩ = some (.int .i64 0) := (cell_of_block br).trans rfl
   have q3 : wr.cell? ⟨w.heap.size, 3, none⟩ = some (.bool false) := (cell_of_block br).trans rfl
   have p0 : wr.frozen? ⟨w.heap.size, 0, none⟩ = false := by simp [World.frozen?, br]
   have p1 : wr.frozen? ⟨w.heap.size, 1, none⟩ = false := by simp [World.frozen?, br]
   have p2 : wr.frozen? ⟨w.heap.size, 2, none⟩ = false := by simp [World.frozen?, br]
   have p3 : wr.frozen? ⟨w.heap.size, 3, none⟩ = false := by simp [World.frozen?, br]
   have HBr := Lib.hid (And.intro br (And.intro bs nD))
   clear br bs nD
   go_wp2_with fail
   have m0 := heap_setCell_row (j := 0) HBr.out.1 (.int .i64 (s.cap : Int))
   have m1 := heap_setCell_row (j := 1) m0 (.slice A1 k c1)
   have m2 := heap_setCell_row (j := 2) m1 (.int .i64 s.fuse)
   have m3 := heap_setCell_row (j := 3) m2 (.bool s.down)
   have kk : Kp (fun j => j = w.heap.size) wr ((((wr.setCell ⟨w.heap.size, 0, none⟩ (.int .i64 (s.cap : Int))).setCell ⟨w.heap.size, 1, none⟩ (.slice A1 k c1)).setCell ⟨w.heap.size, 2, none⟩ (.int .i64 s.fuse)).setCell ⟨w.heap.size, 3, none⟩ (.bool s.down)) :=
    (((Kp.setCell (S := fun j => j = w.heap.size) wr ⟨w.heap.size, 0, none⟩ _ rfl).trans (Kp.setCell (S := fun j => j = w.heap.size) _ ⟨w.heap.size, 1, none⟩ _ rfl) fid fid).trans (Kp.setCell (S := fun j => j = w.heap.size) _ ⟨w.heap.size, 2, none⟩ _ rfl) fid fid).trans (Kp.setCell (S := fun j => j = w.heap.size) _ ⟨w.heap.size, 3, none⟩ _ rfl) fid fid
   clear m0 m1 m2
   generalize ((((wr.setCell ⟨w.heap.size, 0, none⟩ (.int .i64 (s.cap : Int))).setCell ⟨w.heap.size, 1, none⟩ (.slice A1 k c1)).setCell ⟨w.heap.size, 2, none⟩ (.int .i64 s.fuse)).setCell ⟨w.heap.size, 3, none⟩ (.bool s.down)) = wz at *
   have v0 : wz.cell? ⟨w.heap.size, 0, none⟩ = some (.int .i64 (s.cap : Int)) := (cell_of_block m3).trans rfl
   have v1 : wz.cell? ⟨w.heap.size, 1, none⟩ = some (.slice A1 k c1) := (cell_of_block m3).trans rfl
   have v2 : wz.cell? ⟨w.heap.size, 2, none⟩ = some (.int .i64 s.fuse) := (cell_of_block m3).trans rfl
   have v3 : wz.cell? ⟨w.heap.size, 3, none⟩ = some (.bool s.down) := (cell_of_block m3).trans rfl
   refine bodyPost_ret (v := .agg #[.int .i64 (s.cap : Int), .slice A1 k c1, .int .i64 s.fuse, .bool s.down]) (by simp [results, Tryz.results14, go_sem, v0, v1, v2, v3]) rfl ⟨A1, c1, ys, by rw [HI.out.2.1], HI.out.2.2.1.kp kk (fun j hj e => ?_), ?_, fun j hj => ?_, ?_⟩
   ·have := HI.out.2.2.2.2.2 j hj
    omega
   ·have h1 := HN.out.1
    simp only [DS.namesOf, List.length_map] at h1
    rw [HI.out.1, h1, List.take_length]
   ·have := HI.out.2.2.2.2.2 j hj
    omega
   ·have nW : New w W2 := (HS.out.1.trans HS.out.2.1 fid fid).trans HN.out.2.2.1 fid fid
    have h2 : Kp (fun j => j = W0.heap.size ∨ j = w.heap.size) W2 wz := HI.out.2.2.2.2.1.trans kk (fun _ _ h => .inl h) (fun _ _ h => .inr h)
    exact nW.trans h2 fid (fun j hj h => by rcases h with e | e <;> omega)
end Go.Proofs.YtekcoeonlfmebaaGreatDoor.Kit
