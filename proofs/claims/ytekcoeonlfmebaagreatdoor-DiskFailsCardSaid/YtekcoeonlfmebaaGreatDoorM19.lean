/- 1 texts in one: daybookref03: Copied. -/
import Derived.Test.YtekcoeonlfmebaaGreatDoorM18
import Derived.Test.YtekcoeonlfmebaaGreatDoorM0
namespace Go.Proofs.YtekcoeonlfmebaaGreatDoor.Kit
open Go Go.RowKit
def CopiedPost (w : World) (cap fuse : Int) (down : Bool) (l : List Fl) (e : Ending) (w' : World) : Prop :=
 ∃ A c ys, e = .returned (.agg #[.int .i64 cap, .slice A ys.length c, .int .i64 fuse, .bool down]) ∧ OwnF w' A c ys ∧ ys.map FV.f = l ∧ (∀ k, k ∈ bks A ++ fblks ys → w.heap.size ≤ k) ∧ New w w'
theorem new3 {w W : World} {c1 c2 c3 : Array Value} {t : TypeId} (hW : ((w.alloc (.cells c1 t)).alloc (.cells c2 t)).alloc (.cells c3 t) = W) : New w W ∧ W.heap.size = w.heap.size + 3 ∧ W.heap[w.heap.size]? = some (.cells c1 t (0, 0)) ∧ W.heap[w.heap.size + 1]? = some (.cells c2 t (0, 0)) ∧ W.heap[w.heap.size + 1 + 1]? = some (.cells c3 t (0, 0)) := by
 have a1 := heap_alloc_new w (.cells c1 t)
 have a2 := heap_alloc_new (w.alloc (.cells c1 t)) (.cells c2 t)
 have a3 := heap_alloc_new ((w.alloc (.cells c1 t)).alloc (.cells c2 t)) (.cells c3 t)
 rw [World.size_alloc] at a2
 rw [World.size_alloc, World.size_alloc] at a3
 subst hW
 refine ⟨((Kp.alloc _ _ _).trans (Kp.alloc _ _ _) fid fid).trans (Kp.alloc _ _ _) fid fid, by simp, ?_, ?_, a3⟩
 ·exact heap_kp' (heap_kp' a1 (Kp.alloc (fun _ => False) _ _) id) (Kp.alloc (fun _ => False) _ _) id
 ·exact heap_kp' a2 (Kp.alloc (fun _ => False) _ _) id
set_option maxRecDepth 100000 in
set_option maxHeartbeats 8000000 in
theorem Copied_calls (w : World) (cap fuse : Int) (down : Bool) (A : Option Addr) (c : Nat) (xs : List FV) (h : RdF w A xs) (hl : xs.length ≤ 64) (hd : ∀ y ∈ xs, y.f.data.length ≤ 1048576) :
  Calls Tryz.prog 52 #[.agg #[.int .i64 cap, .slice A xs.length c, .int .i64 fuse, .bool down]] w (CopiedPost w cap fuse down (xs.map FV.f)) := by
 have hmo : Tryz.prog.follows Departure.mixedOrders = true := by kernel_rfl
 have HR := Lib.hid (And.intro h hd)
 clear h hd
 go_enter Tryz.func52, Tryz.ntmps52
 go_wp2_with fail
 obtain ⟨W, hW⟩ : ∃ W, ((w.alloc (.cells #[.int .i64 cap, .slice A xs.length c, .int .i64 fuse, .bool down] 59)).alloc (.cells #[.int .i64 0, .slice none 0 0, .int .i64 0, .bool false] 59)).alloc (.cells #[.int .i64 cap, .slice none 0 0, .int .i64 fuse, .bool down] 59) = W := ⟨_, rfl⟩
 rw [hW]
 have HW := Lib.hid (new3 hW)
 clear hW
 go_loopw [4] (fun i wr => ∃ (k : Nat) (A1 : Option Addr) (c1 : Nat) (ys : List FV), k ≤ xs.length ∧ i = .int .i64 (k : Int) ∧ Hid (ys.map FV.f = (xs.map FV.f).take k ∧ ys.length = k ∧ OwnF wr A1 c1 ys ∧ wr.heap[w.heap.size + 1 + 1]? = some (.cells #[.int .i64 cap, .slice A1 k c1, .int .i64 fuse, .bool down] 59 (0, 0)) ∧ Kp (fun j => j = w.heap.size + 1 + 1) W wr ∧ (∀ j, j ∈ bks A1 ++ fblks ys → W.heap.size ≤ j))) (fun i _ => xs.length - (intOf i).toNat)
 case atStart =>
  exact ⟨0, none, 0, [], Nat.zero_le _, rfl, Lib.hid ⟨rfl, rfl, OwnF.nil _, HW.out.2.2.2.2, Kp.refl _ _, fun j h => by simp [bks, fblks] at h⟩⟩
 case round =>
  obtain ⟨k, A1, c1, ys, hk, rfl, HI⟩ := hrel
  have hzW := HW.out.2.1
  have bB : wr.heap[w.heap.size]? = some (.cells #[.int .i64 cap, .slice A xs.length c, .int .i64 fuse, .bool down] 59 (0, 0)) := heap_kp' HW.out.2.2.1 HI.out.2.2.2.2.1 (by omega)
  have e1 : wr.cell? ⟨w.heap.size, 1, none⟩ = some (.slice A xs.length c) := (cell_of_block bB).trans rfl
  have hk0 : (0 : Int) ≤ k := by omega
  clear hzW
  by_cases hlt : k < xs.length
  ·have hki : (k : Int) < (xs.length : Int) := by omega
   have n01 : New w wr := HW.out.1.trans HI.out.2.2.2.2.1 fid (fun _ _ e => by omega)
   have hkr : RdF wr A xs := HR.out.1.new n01
   clear n01
   obtain ⟨y, hy⟩ : ∃ y, xs[k]? = some y := ⟨_, List.getElem?_eq_getElem hlt⟩
   obtain ⟨g, off, rfl, r0, r1, r2⟩ := hkr.at_ hlt
   have hye : xs[k] = y := (List.getElem?_eq_some_iff.1 hy).2
   rw [hye] at r0 r1 r2
   have hyl := HR.out.2 y (List.mem_of_getElem? hy)
   have hyr := hkr.2 y (List.mem_of_getElem? hy)
   have e4 : wr.cell? ⟨w.heap.size + 1 + 1, 1, none⟩ = some (.slice A1 k c1) := (cell_of_block HI.out.2.2.2.1).trans rfl
   have HY := Lib.hid (And.intro hy (And.intro hyr bB))
   clear hy hye hyr hkr bB
   go_wp2_with fail
   obtain ⟨wa, hwa⟩ : ∃ wa, wr.alloc (.cells #[.string (bstr y.f.name), .slice y.A y.f.data.length y.c, .int .i64 (y.f.syn : Int)] 82) = wa := ⟨_, rfl⟩
   rw [hwa]
   have na : New wr wa := hwa ▸ Kp.alloc _ _ _
   have ba : wa.heap[wr.heap.size]? = some (.cells #[.string (bstr y.f.name), .slice y.A y.f.data.length y.c, .int .i64 (y.f.syn : Int)] 82 (0, 0)) := hwa ▸ heap_alloc_new wr _
   have za : wa.heap.size = wr.heap.size + 1 := by rw [← hwa]; simp
   have d0 : wa.cell? ⟨wr.heap.size, 0, none⟩ = some (.string (bstr y.f.name)) := (cell_of_block ba).trans rfl
   have d1 : wa.cell? ⟨wr.heap.size, 1, none⟩ = some (.slice y.A y.f.data.length y.c) := (cell_of_block ba).trans rfl
   have d2 : wa.cell? ⟨wr.heap.size, 2, none⟩ = some (.int .i64 (y.f.syn : Int)) := (cell_of_block ba).trans rfl
   have d4 := na.cell e4
   have HA := Lib.hid (And.intro na za)
   clear hwa ba na za r0 r1 r2 e1 e4
   refine wp_region_line (fun w' => w'.cell? ⟨w.heap.size + 1 + 1, 1, none⟩ = some (.slice A1 k c1) ∧ w'.cell? ⟨wr.heap.size, 0, none⟩ = some (.string (bstr y.f.name)) ∧ w'.cell? ⟨wr.heap.size, 1, none⟩ = some (.slice y.A y.f.data.length y.c) ∧ w'.cell? ⟨wr.heap.size, 2, none⟩ = some (.int .i64 (y.f.syn : Int))) (pl := [(0, true), (1, true), (2, true), (3, true), (5, true), (6, true), (8, true), (9, true), (4, false), (7, false), (10, true), (11, false), (12, false), (13, true), (14, false)]) hmo (by kernel_rfl) ⟨by simpa using d4, by simpa using d0, by simpa using d1, by simpa using d2⟩ ?_
   iterate 8 (refine line_get rfl rfl (fun K hK => ?_); apply Exists.intro; refine ⟨fun w s => ?_, ?_⟩; (first | (have q := s rfl; go_simp; with_reducible rfl) | (go_simp; with_reducible rfl)); (go_simp; refine hK _ ?_; clear hK K))
   (refine line_do rfl rfl (fun K hK => ?_); go_simp)
   have nb : New wa (wa.alloc (.cells #[] 5)).drew := (Kp.alloc _ _ _).trans (Kp.drew _ _) fid fid
   refine hK _ _ (fun _ => ⟨nb.cell d4, nb.cell d0, nb.cell d1, nb.cell d2⟩) ?_
   clear hK K
   refine line_do rfl rfl (fun K hK => ?_)
   refine wp_append_src _ (.tmp 29) (.tmp 31) 55 55 rfl 5 (.int .u8 0) 1 1 Tryz.underlying55 Tryz.info_u8 rfl (some ⟨wa.heap.size, 0, none⟩) 0 0 [] rfl ((Own.bare wa _ _).new (Kp.drew _ _)) _ rfl y.f.data.length (bcs y.f.data) (Src.ofRdB _ Tryz.underlying55 y.c ((HY.out.2.1.new HA.out.1).new nb)) (by omega) (by omega) ?_
   intro A3 c3 w3 q1 q2 q3
   have n3 : New wa w3 := nb.trans q2 fid (fun j hj h => by have := Bk.some_.1 h; simp at this; omega)
   refine hK _ _ (fun _ => ⟨n3.cell d4, n3.cell d0, n3.cell d1, n3.cell d2⟩) ?_
   clear hK K
   have l3 : (0 : Nat) + y.f.data.length = y.f.data.length := Nat.zero_add _
   rw [l3] at q1 ⊢
   have z3 : ∀ k, Bk A3 k → wa.heap.size ≤ k := fun k hk => (q3 k hk).elim (fun h => by have := Bk.some_.1 h; simp at this; omega) (fun h => by rw [h]; simp)
   have HC := Lib.hid (And.intro q1 (And.intro n3 z3))
   clear q1 q2 q3 n3 z3 l3 nb
   (refine line_get rfl rfl (fun K hK => ?_); apply Exists.intro; refine ⟨fun w s => ?_, ?_⟩; (first | (have q := s rfl; go_simp; with_reducible rfl) | (go_simp; with_reducible rfl)); (go_simp; refine hK _ ?_; clear hK K))
   (refine line_do rfl rfl (fun K hK => ?_); go_simp)
   have n4 : New wa (w3.alloc (.cells #[.string (bstr y.f.name), .slice A3 y.f.data.length c3, .int .i64 (y.f.syn : Int)] 82)) := HC.out.2.1.trans (Kp.alloc _ _ _) fid fid
   refine hK _ _ (fun _ => ⟨n4.cell d4, n4.cell d0, n4.cell d1, n4.cell d2⟩) ?_
   clear hK K
   refine line_do rfl rfl (fun K hK => ?_)
   have n4r : New wr (w3.alloc (.cells #[.string (bstr y.f.name), .slice A3 y.f.data.length c3, .int .i64 (y.f.syn : Int)] 82)) := HA.out.1.trans n4 fid fid
   refine wp_append_src _ (.tmp 26) (.tmp 36) 57 57 rfl 82 _ 3 48 Tryz.underlying57 Tryz.info_file rfl A1 c1 k (FV.flat ys) rfl ?own _ rfl 1 _ (Src.ofNew w3 Tryz.underlying57 #[.string (bstr y.f.name), .slice A3 y.f.data.length c3, .int .i64 (y.f.syn : Int)] 82 3 1 1 rfl (by simp [Value.oneCell'])) (by omega) (by omega) ?_
   case own => exact (HI.out.2.1 ▸ HI.out.2.2.1.1.new n4r :)
   intro A5 c5 w5 hA5 hk5 hb5
   have hA1 : ∀ j, Bk A1 j → W.heap.size ≤ j := fun j hj => HI.out.2.2.2.2.2 j (List.mem_append_left _ (mem_bks.2 hj))
   have hzW := HW.out.2.1
   have hne1 : ¬ Bk A1 (w.heap.size + 1 + 1) := fun h => by have := hA1 _ h; omega
   have k45 : Kp (Bk A1) wr w5 := n4r.trans hk5 (fun _ _ h => h.elim) fid
   have b5 : w5.heap[w.heap.size + 1 + 1]? = some (.cells #[.int .i64 cap, .slice A1 k c1, .int .i64 fuse, .bool down] 59 (0, 0)) := (k45.block _ (Array.getElem?_eq_some_iff.1 HI.out.2.2.2.1).1 hne1).trans HI.out.2.2.2.1
   have f5 : w5.cell? ⟨w.heap.size + 1 + 1, 1, none⟩ = some (.slice A1 k c1) := (cell_of_block b5).trans rfl
   have z5 : w5.frozen? ⟨w.heap.size + 1 + 1, 1, none⟩ = false := by simp [World.frozen?, b5]
   have HB := Lib.hid (And.intro hA5 (And.intro k45 (And.intro b5 (And.intro hb5 (And.intro hk5 n4r)))))
   refine hK _ _ (no_need (by kernel_rfl)) ?_
   clear hK K hA5 k45 b5 hb5 hk5 hA1 hne1 n4 n4r d0 d1 d2 d4
   (refine line_get rfl rfl (fun K hK => ?_); apply Exists.intro; refine ⟨fun w s => ?_, ?_⟩; (first | (have q := s rfl; go_simp; with_reducible rfl) | (go_simp; with_reducible rfl)); (go_simp; refine hK _ ?_; clear hK K))
   (refine line_do rfl rfl (fun K hK => ?_); go_simp)
   refine hK _ _ (no_need (by kernel_rfl)) ?_
   clear hK K
   refine line_nil ?_
   go_wp2_with fail
   have k56 : Kp (fun j => j = w.heap.size + 1 + 1) w5 (w5.setCell ⟨w.heap.size + 1 + 1, 1, none⟩ (.slice A5 (k + 1) c5)) := Kp.setCell _ _ _ rfl
   have hz3 := HC.out.2.1.size
   have hza := HA.out.2
   have hz4 := HB.out.2.2.2.2.1.size
   have hzb : (w3.alloc (.cells #[.string (bstr y.f.name), .slice A3 y.f.data.length c3, .int .i64 (y.f.syn : Int)] 82)).heap.size = w3.heap.size + 1 := by simp
   have hzr := HI.out.2.2.2.2.1.size
   have hA1 : ∀ j, Bk A1 j → W.heap.size ≤ j ∧ j < wr.heap.size := fun j hj => ⟨HI.out.2.2.2.2.2 j (List.mem_append_left _ (mem_bks.2 hj)), HI.out.2.2.1.lt j (List.mem_append_left _ (mem_bks.2 hj))⟩
   have hA3 : ∀ j, Bk A3 j → wr.heap.size < j ∧ j < w3.heap.size := fun j hj => ⟨by have := HC.out.2.2 j hj; omega, HC.out.1.lt j hj⟩
   have kall : Kp (fun j => j = w.heap.size + 1 + 1 ∨ Bk A1 j) wr (w5.setCell ⟨w.heap.size + 1 + 1, 1, none⟩ (.slice A5 (k + 1) c5)) := HB.out.2.1.trans k56 (fun _ _ h => .inr h) (fun _ _ h => .inl h)
   have ho2 : Own (w5.setCell ⟨w.heap.size + 1 + 1, 1, none⟩ (.slice A5 (k + 1) c5)) 5 1 A3 c3 y.f.data.length (bcs y.f.data) :=
    ((HC.out.1.new (Kp.alloc _ _ _)).kp HB.out.2.2.2.2.1 (fun j hj hb => by have := hA1 j hb; have := hA3 j hj; omega)).kp k56 (fun j hj e => by have := hA3 j hj; omega)
   have ho5 : Own (w5.setCell ⟨w.heap.size + 1 + 1, 1, none⟩ (.slice A5 (k + 1) c5)) 82 3 A5 c5 (k + 1) (FV.flat ys ++ [.string (bstr y.f.name), .slice A3 y.f.data.length c3, .int .i64 (y.f.syn : Int)]) :=
    HB.out.1.kp k56 (fun j hj e => (HB.out.2.2.2.1 j hj).elim (fun h => by have := hA1 j h; omega) (fun h => by omega))
   have b6 := heap_setCell_row (j := 1) HB.out.2.2.1 (.slice A5 (k + 1) c5)
   refine ⟨⟨k + 1, A5, c5, ys ++ [⟨y.f, A3, c3⟩], by omega, by go_num, Lib.hid ⟨?_, ?_, ?_, b6, ?_, ?_⟩⟩, by simp [intOf]; omega⟩
   ·rw [List.map_append, HI.out.1, List.take_add_one, List.getElem?_map, HY.out.1]
    rfl
   ·rw [List.length_append, HI.out.2.1]
    rfl
   ·refine OwnF.push HI.out.2.2.1 ⟨y.f, A3, c3⟩ ho2 (by rw [HI.out.2.1]; exact ho5) (fun j hj => ?_) (fun j hj => Nat.le_of_lt (hA3 j hj).1) (fun j hj => ?_)
    ·have hm := List.mem_append_right (bks A1) hj
     refine kall.block j (HI.out.2.2.1.lt j hm) ?_
     rintro (e | hb)
     ·have := HI.out.2.2.2.2.2 j hm
      omega
     ·exact (List.nodup_append.1 HI.out.2.2.1.2.2).2.2 j (mem_bks.2 hb) j hj rfl
    ·rcases HB.out.2.2.2.1 j hj with h | h
     ·exact .inl h
     ·exact .inr ⟨by omega, fun hb => by have := hA3 j hb; omega⟩
   ·exact HI.out.2.2.2.2.1.trans kall fid (fun j hj h => h.elim id (fun hb => by have := hA1 j hb; omega))
   ·intro j hj
    rw [fblks_snoc] at hj
    rcases List.mem_append.1 hj with hj | hj
    ·rcases HB.out.2.2.2.1 j (mem_bks.1 hj) with h | h
     ·exact (hA1 j h).1
     ·omega
    ·rcases List.mem_append.1 hj with hj | hj
     ·exact HI.out.2.2.2.2.2 j (List.mem_append_right _ hj)
     ·have := hA3 j (mem_bks.1 hj)
      omega
  ·obtain rfl : k = xs.length := by omega
   have hzW := HW.out.2.1
   have hzr := HI.out.2.2.2.2.1.size
   have bs := HI.out.2.2.2.1
   have br : wr.heap[w.heap.size + 1]? = some (.cells #[.int .i64 0, .slice none 0 0, .int .i64 0, .bool false] 59 (0, 0)) := heap_kp' HW.out.2.2.2.1 HI.out.2.2.2.2.1 (by omega)
   have s0 : wr.cell? ⟨w.heap.size + 1 + 1, 0, none⟩ = some (.int .i64 cap) := (cell_of_block bs).trans rfl
   have s1 : wr.cell? ⟨w.heap.size + 1 + 1, 1, none⟩ = some (.slice A1 xs.length c1) := (cell_of_block bs).trans rfl
   have s2 : wr.cell? ⟨w.heap.size + 1 + 1, 2, none⟩ = some (.int .i64 fuse) := (cell_of_block bs).trans rfl
   have s3 : wr.cell? ⟨w.heap.size + 1 + 1, 3, none⟩ = some (.bool down) := (cell_of_block bs).trans rfl
   have q0 : wr.cell? ⟨w.heap.size + 1, 0, none⟩ = some (.int .i64 0) := (cell_of_block br).trans rfl
   have q1 : wr.cell? ⟨w.heap.size + 1, 1, none⟩ = some (.slice none 0 0) := (cell_of_block br).trans rfl
   have q2 : wr.cell? ⟨w.heap.size + 1, 2, none⟩ = some (.int .i64 0) := (cell_of_block br).trans rfl
   have q3 : wr.cell? ⟨w.heap.size + 1, 3, none⟩ = some (.bool false) := (cell_of_block br).trans rfl
   have p0 : wr.frozen? ⟨w.heap.size + 1, 0, none⟩ = false := by simp [World.frozen?, br]
   have p1 : wr.frozen? ⟨w.heap.size + 1, 1, none⟩ = false := by simp [World.frozen?, br]
   have p2 : wr.frozen? ⟨w.heap.size + 1, 2, none⟩ = false := by simp [World.frozen?, br]
   have p3 : wr.frozen? ⟨w.heap.size + 1, 3, none⟩ = false := by simp [World.frozen?, br]
   have hkd := not_lt_self xs.length
   have HBr := Lib.hid br
   clear br bs bB hzW hzr
   go_wp2_with fail
   have m0 := heap_setCell_row (j := 0) HBr.out (.int .i64 cap)
   have m1 := heap_setCell_row (j := 1) m0 (.slice A1 xs.length c1)
   have m2 := heap_setCell_row (j := 2) m1 (.int .i64 fuse)
   have m3 := heap_setCell_row (j := 3) m2 (.bool down)
   have kk : Kp (fun j => j = w.heap.size + 1) wr ((((wr.setCell ⟨w.heap.size + 1, 0, none⟩ (.int .i64 cap)).setCell ⟨w.heap.size + 1, 1, none⟩ (.slice A1 xs.length c1)).setCell ⟨w.heap.size + 1, 2, none⟩ (.int .i64 fuse)).setCell ⟨w.heap.size + 1, 3, none⟩ (.bool down)) :=
    (((Kp.setCell (S := fun j => j = w.heap.size + 1) wr ⟨w.heap.size + 1, 0, none⟩ _ rfl).trans (Kp.setCell (S := fun j => j = w.heap.size + 1) _ ⟨w.heap.size + 1, 1, none⟩ _ rfl) fid fid).trans (Kp.setCell (S := fun j => j = w.heap.size + 1) _ ⟨w.heap.size + 1, 2, none⟩ _ rfl) fid fid).trans (Kp.setCell (S := fun j => j = w.heap.size + 1) _ ⟨w.heap.size + 1, 3, none⟩ _ rfl) fid fid
   clear m0 m1 m2
   generalize ((((wr.setCell ⟨w.heap.size + 1, 0, none⟩ (.int .i64 cap)).setCell ⟨w.heap.size + 1, 1, none⟩ (.slice A1 xs.length c1)).setCell ⟨w.heap.size + 1, 2, none⟩ (.int .i64 fuse)).setCell ⟨w.heap.size + 1, 3, none⟩ (.bool down)) = wz at *
   have v0 : wz.cell? ⟨w.heap.size + 1, 0, none⟩ = some (.int .i64 cap) := (cell_of_block m3).trans rfl
   have v1 : wz.cell? ⟨w.heap.size + 1, 1, none⟩ = some (.slice A1 xs.length c1) := (cell_of_block m3).trans rfl
   have v2 : wz.cell? ⟨w.heap.size + 1, 2, none⟩ = some (.int .i64 fuse) := (cell_of_block m3).trans rfl
   have v3 : wz.cell? ⟨w.heap.size + 1, 3, none⟩ = some (.bool down) := (cell_of_block m3).trans rfl
   have hzW := HW.out.2.1
   have hzr := HI.out.2.2.2.2.1.size
   refine bodyPost_ret (v := .agg #[.int .i64 cap, .slice A1 xs.length c1, .int .i64 fuse, .bool down]) (by simp [results, Tryz.results52, go_sem, v0, v1, v2, v3]) rfl ⟨A1, c1, ys, by rw [HI.out.2.1], HI.out.2.2.1.kp kk (fun j hj e => ?_), ?_, fun j hj => ?_, ?_⟩
   ·have := HI.out.2.2.2.2.2 j hj
    omega
   ·rw [HI.out.1, List.take_of_length_le (by simp)]
   ·have := HI.out.2.2.2.2.2 j hj
    omega
   ·have h2 : Kp (fun j => j = w.heap.size + 1 + 1 ∨ j = w.heap.size + 1) W wz := HI.out.2.2.2.2.1.trans kk (fun _ _ h => .inl h) (fun _ _ h => .inr h)
    exact HW.out.1.trans h2 fid (fun j hj h => by rcases h with e | e <;> omega)
end Go.Proofs.YtekcoeonlfmebaaGreatDoor.Kit
