/- daybooklaw03.goes: one file through all calls. -/
import Derived.Test.YtekcoeonlfmebaaGoesM
import Derived.Test.YtekcoeonlfmebaaFirst
import Derived.Laws.OwnMore
namespace Go.Proofs.Ytekcoeonlfmebaa.Kit
open Go Go.RowKit

theorem up_size {s : DS} (hU : s.Up) {x : Fl} (hg : goodN x.name = true) (h : s.find x.name = none) : (s.with x).size x.name = (x.data.length, 0) := by
  unfold DS.size
  rw [(hU.with x).down, if_neg (by decide), with_there hg h, if_neg (by decide), with_find h]
  rfl
set_option maxRecDepth 100000 in
set_option maxHeartbeats 4000000 in
theorem goes_calls (w : World) (d : Nat) (s t : DS) (F : List Nat) (hD : DiskAt w d s F) (ht : t = s.crash []) (hok : t.Ok) (hU : t.Up) (hg : t.find nGoes = none) (hw : t.find nWent = none) (hl : t.files.length < 64) :
    Calls Try.prog 17 #[.pointer (some ⟨d, 0, none⟩)] w fun e w' => e = .returned (.bool true) ∧ Kp (· ∈ F) w w' := by
  have hD0 := hD
  obtain ⟨N, hN⟩ : ∃ N, t.cap = t.used + N := ⟨t.cap - t.used, by have := hok.used; omega⟩
  have hcap := hok.cap
  have hfr : (t.cap : Int) - (t.used : Int) = (N : Int) := by omega
  have HT := Lib.hid (And.intro hU (And.intro hg (And.intro hw (And.intro hl (And.intro hN hfr)))))
  have HD := Lib.hid (And.intro hD (And.intro ht hok))
  have hN2 : N ≤ 1048576 := by omega
  clear hD hD0 hU hg hw hl hN ht hok hfr
  go_enter Try.func17, Try.ntmps17
  go_wp2_with fail
  refine (Crash_calls w d s F none 0 0 [] HD.out.1 rfl (fun h => absurd rfl h) (by decide) (by simp) (fun k hk => absurd hk Bk.none_)).mono ?_
  rintro e w0 ⟨rfl, F0, q1, q2⟩
  rw [← HD.out.2.1] at q1
  have H0 := Lib.hid (And.intro q1 q2)
  clear q1 q2
  go_wp2_with fail
  refine (State_calls w0 d t F0 H0.out.1).mono ?_
  rintro e w1 ⟨A, c, ys, rfl, -, hys, -, n1⟩
  have hyl : ys.length < 64 := by have := congrArg List.length hys; rw [List.length_map] at this; have := HT.out.2.2.2.1; omega
  have H1 := Lib.hid (And.intro (H0.out.1.new n1) (H0.out.2.trans (Mv.of_new n1)))
  clear hys n1
  go_wp2_with fail
  obtain ⟨u1, hu1⟩ : ∃ u, w1.alloc (.cells #[.int .i64 (t.cap : Int), .slice A ys.length c, .int .i64 t.fuse, .bool t.down] 32) = u := ⟨_, rfl⟩
  rw [hu1]
  have m1 : New w1 u1 := hu1 ▸ Kp.alloc _ _ _
  have b1 : u1.heap[w1.heap.size]? = some (.cells #[.int .i64 (t.cap : Int), .slice A ys.length c, .int .i64 t.fuse, .bool t.down] 32 (0, 0)) := hu1 ▸ heap_alloc_new w1 _
  refine (Free_calls u1 d t F0 (H1.out.1.new m1)).mono ?_
  rintro e w2 ⟨rfl, n2⟩
  rw [HT.out.2.2.2.2.2]
  have b2 := heap_kp b1 n2 id
  have H2 := Lib.hid (And.intro ((H1.out.1.new m1).new n2) (And.intro ((H1.out.2.trans (Mv.of_new m1)).trans (Mv.of_new n2)) b2))
  clear hu1 m1 b1 n2 b2
  go_wp2_with fail
  refine (Remove_calls w2 d t F0 nGoes H2.out.1 (by decide)).mono ?_
  rintro e w3 h
  obtain ⟨rfl, F3, q1, q2⟩ := h.eq (up_remove_none HT.out.1 good_goes HT.out.2.1)
  have b3 : w3.heap[w1.heap.size]? = _ := heap_kp H2.out.2.2 q2.1 (fun hm => by have := H1.out.1.lt _ hm; omega)
  have H3 := Lib.hid (And.intro q1 (And.intro (H2.out.2.1.trans q2) (And.intro b3 q2.2)))
  clear h q1 q2 b3
  go_wp2_with fail
  refine (Remove_calls w3 d t F3 nWent H3.out.1 (by decide)).mono ?_
  rintro e w4 h
  obtain ⟨rfl, F4, q1, q2⟩ := h.eq (up_remove_none HT.out.1 good_went HT.out.2.2.1)
  have b4 : w4.heap[w1.heap.size]? = _ := heap_kp H3.out.2.2.1 q2.1 (fun hm => by
    have h1 := H3.out.2.2.2 _ hm
    have h2 := (Array.getElem?_eq_some_iff.1 H2.out.2.2).1
    rcases h1 with h1 | h1
    · have := H1.out.1.lt _ h1
      omega
    · omega)
  have f4 : w4.cell? ⟨w1.heap.size, 1, none⟩ = some (.slice A ys.length c) := (cell_of_block b4).trans rfl
  have hy2 : decide ((ys.length : Int) ≥ 64) = false := decide_eq_false (by omega)
  have H4 := Lib.hid (And.intro q1 (H3.out.2.1.trans q2))
  clear h q1 q2 b4
  obtain ⟨i8, hi8, hz8, hc8, hs8⟩ := info_parts Try.info_u8
  have hmk := fun w => run_make (P := Try.prog) w 28 5 i8 _ Try.underlying28 hi8 hz8 .i64 .i64 ((N : Int) + 1) ((N : Int) + 1) (by omega) (by omega) (by rw [hs8]; omega) (by omega)
  rw [hc8] at hmk
  simp only [show ((N : Int) + 1).toNat = N + 1 by omega, Nat.mul_one] at hmk
  have hwn : IntKind.i64.wrap ((N : Int) + 1) = (N : Int) + 1 := by rw [IntKind.wrap_i64]; omega
  clear hi8 hz8 hc8 hs8
  by_cases hN0 : N = 0
  · have hNp : decide (0 < N) = false := decide_eq_false (by omega)
    have hmn : min (N : Int) 1 = 0 := by omega
    clear hN0
    go_wp2_with fail
    refine (Create_calls w4 d t F4 nGoes H4.out.1 (by decide)).mono ?_
    rintro e w5 h
    obtain ⟨rfl, F5, q1, q2⟩ := h.eq (up_create HT.out.1 good_goes HT.out.2.1 HT.out.2.2.2.1)
    have H5 := Lib.hid (And.intro q1 (H4.out.2.trans q2))
    clear h q1 q2
    go_wp2_with fail
    refine (num_calls _ _).mono ?_
    rintro e x ⟨rfl, rfl⟩
    go_wp2_with fail
    refine (Create_calls w5 d _ F5 nGoes H5.out.1 (by decide)).mono ?_
    rintro e w6 h
    obtain ⟨rfl, F6, q1, q2⟩ := h.eq (up_create_there (x := ⟨nGoes, [], 0⟩) HT.out.1 good_goes HT.out.2.1)
    have H6 := Lib.hid (And.intro q1 (H5.out.2.trans q2))
    clear h q1 q2
    go_wp2_with fail
    refine (num_calls _ _).mono ?_
    rintro e x ⟨rfl, rfl⟩
    go_wp2_with fail
    obtain ⟨u6, hu6⟩ : ∃ u, w6.alloc (.cells (madeCells #[.int .u8 0] (N + 1)) 5) = u := ⟨_, rfl⟩
    rw [hu6]
    have m6 : New w6 u6 := hu6 ▸ Kp.alloc _ _ _
    have r6 : RdB u6 (some ⟨w6.heap.size, 0, none⟩) (List.replicate (N + 1) 0) := hu6 ▸ rd_row (heap_alloc_new w6 _) (by rw [toList_madeCells_one]; simp [bcs])
    refine (Append_calls u6 d _ F6 nGoes (some ⟨w6.heap.size, 0, none⟩) _ _ (List.replicate (N + 1) 0) (H6.out.1.new m6) (by decide) r6 (by simp) (by omega) (fun k hk e => by have h1 := Bk.some_.1 hk; have h2 := H6.out.1.lt d H6.out.1.mem; simp at h1; omega)).mono ?_
    rintro e w7 h
    obtain ⟨rfl, F7, q1, q2⟩ := h.eq (up_append_full (x := ⟨nGoes, [], 0⟩) HT.out.1 _ good_goes HT.out.2.1 (by have := HT.out.2.2.2.2.1; first | (simp only [List.length_replicate]; omega) | (simp only [List.length_replicate, List.length_nil]; omega)))
    have H7 := Lib.hid (And.intro q1 ((H6.out.2.trans (Mv.of_new m6)).trans q2))
    clear h q1 q2 m6 r6 hu6
    go_wp2_with fail
    refine (num_calls _ _).mono ?_
    rintro e x ⟨rfl, rfl⟩
    go_wp2_with fail
    refine (Sync_calls w7 d _ F7 nGoes H7.out.1 (by decide)).mono ?_
    rintro e w8 h
    obtain ⟨rfl, F8, q1, q2⟩ := h.eq (up_sync (x := ⟨nGoes, [], 0⟩) HT.out.1 good_goes HT.out.2.1)
    have H8 := Lib.hid (And.intro q1 (H7.out.2.trans q2))
    clear h q1 q2
    go_wp2_with fail
    refine (num_calls _ _).mono ?_
    rintro e x ⟨rfl, rfl⟩
    go_wp2_with fail
    refine (Rename_calls w8 d _ F8 nGoes nWent H8.out.1 (by decide) (by decide)).mono ?_
    rintro e w9 h
    obtain ⟨rfl, F9, q1, q2⟩ := h.eq (up_rename (x := ⟨nGoes, [], 0⟩) HT.out.1 good_goes good_went HT.out.2.1 HT.out.2.2.1 (by decide))
    have H9 := Lib.hid (And.intro q1 (H8.out.2.trans q2))
    clear h q1 q2
    go_wp2_with fail
    refine (num_calls _ _).mono ?_
    rintro e x ⟨rfl, rfl⟩
    go_wp2_with fail
    refine (Rename_calls w9 d _ F9 nGoes nWent H9.out.1 (by decide) (by decide)).mono ?_
    rintro e w10 h
    obtain ⟨rfl, F10, q1, q2⟩ := h.eq (up_rename_none (HT.out.1.with _) good_goes good_went (with_other HT.out.2.1 (by decide)))
    have H10 := Lib.hid (And.intro q1 (H9.out.2.trans q2))
    clear h q1 q2
    go_wp2_with fail
    refine (num_calls _ _).mono ?_
    rintro e x ⟨rfl, rfl⟩
    go_wp2_with fail
    refine (Size_calls w10 d _ F10 nWent H10.out.1 (by decide)).mono ?_
    rintro e w11 ⟨rfl, n11⟩
    rw [show (DS.with t ⟨nWent, [], 0⟩).size nWent = (0, 0) from up_size HT.out.1 (x := ⟨nWent, [], 0⟩) good_went HT.out.2.2.1]
    have H11 := Lib.hid (And.intro (H10.out.1.new n11) (H10.out.2.trans (Mv.of_new n11)))
    clear n11
    go_wp2_with fail
    refine (num_calls _ _).mono ?_
    rintro e x ⟨rfl, rfl⟩
    go_wp2_with fail
    refine (Remove_calls w11 d _ F10 nWent H11.out.1 (by decide)).mono ?_
    rintro e w12 h
    obtain ⟨rfl, F12, q1, q2⟩ := h.eq (up_remove (x := ⟨nWent, [], 0⟩) HT.out.1 good_went HT.out.2.2.1)
    have H12 := Lib.hid (And.intro q1 (H11.out.2.trans q2))
    clear h q1 q2
    go_wp2_with fail
    refine (num_calls _ _).mono ?_
    rintro e x ⟨rfl, rfl⟩
    go_wp2_with fail
    refine (Remove_calls w12 d _ F12 nWent H12.out.1 (by decide)).mono ?_
    rintro e w13 h
    obtain ⟨rfl, F13, q1, q2⟩ := h.eq (up_remove_none HT.out.1 good_went HT.out.2.2.1)
    have H13 := Lib.hid (And.intro q1 (H12.out.2.trans q2))
    clear h q1 q2
    go_wp2_with fail
    refine (num_calls _ _).mono ?_
    rintro e x ⟨rfl, rfl⟩
    go_wp2_with fail
    refine (Free_calls w13 d t F13 H13.out.1).mono ?_
    rintro e w14 ⟨rfl, n14⟩
    rw [HT.out.2.2.2.2.2]
    have HZ := Lib.hid (H13.out.2.1.trans n14 (fun _ _ h => h) (fun _ _ h => h.elim))
    clear n14
    go_wp2_with fail
    go_ret
    exact ⟨by simp, HZ.out⟩
  · have hNp : decide (0 < N) = true := decide_eq_true (by omega)
    have hmn : min (N : Int) 1 = 1 := by omega
    have hN1 := Nat.pos_of_ne_zero hN0
    clear hN0
    go_wp2_with fail
    refine (Create_calls w4 d t F4 nGoes H4.out.1 (by decide)).mono ?_
    rintro e w5 h
    obtain ⟨rfl, F5, q1, q2⟩ := h.eq (up_create HT.out.1 good_goes HT.out.2.1 HT.out.2.2.2.1)
    have H5 := Lib.hid (And.intro q1 (H4.out.2.trans q2))
    clear h q1 q2
    go_wp2_with fail
    refine (num_calls _ _).mono ?_
    rintro e x ⟨rfl, rfl⟩
    go_wp2_with fail
    refine (Create_calls w5 d _ F5 nGoes H5.out.1 (by decide)).mono ?_
    rintro e w6 h
    obtain ⟨rfl, F6, q1, q2⟩ := h.eq (up_create_there (x := ⟨nGoes, [], 0⟩) HT.out.1 good_goes HT.out.2.1)
    have H6 := Lib.hid (And.intro q1 (H5.out.2.trans q2))
    clear h q1 q2
    go_wp2_with fail
    refine (num_calls _ _).mono ?_
    rintro e x ⟨rfl, rfl⟩
    go_wp2_with fail
    obtain ⟨u6, hu6⟩ : ∃ u, w6.alloc (.cells #[.int .u8 7] 5) = u := ⟨_, rfl⟩
    rw [hu6]
    have m6 : New w6 u6 := hu6 ▸ Kp.alloc _ _ _
    have r6 : RdB u6 (some ⟨w6.heap.size, 0, none⟩) [7] := hu6 ▸ rd_row (heap_alloc_new w6 _) rfl
    refine (Append_calls u6 d _ F6 nGoes (some ⟨w6.heap.size, 0, none⟩) _ _ [7] (H6.out.1.new m6) (by decide) r6 rfl (by decide) (fun k hk e => by have h1 := Bk.some_.1 hk; have h2 := H6.out.1.lt d H6.out.1.mem; simp at h1; omega)).mono ?_
    rintro e w7 h
    obtain ⟨rfl, F7, q1, q2⟩ := h.eq (up_append (x := ⟨nGoes, [], 0⟩) HT.out.1 [7] good_goes HT.out.2.1 (by have := HT.out.2.2.2.2.1; simp only [List.length_cons, List.length_nil]; omega))
    have H7 := Lib.hid (And.intro q1 ((H6.out.2.trans (Mv.of_new m6)).trans q2))
    clear h q1 q2 m6 r6 hu6
    go_wp2_with fail
    refine (num_calls _ _).mono ?_
    rintro e x ⟨rfl, rfl⟩
    go_wp2_with fail
    obtain ⟨u7, hu7⟩ : ∃ u, w7.alloc (.cells (madeCells #[.int .u8 0] (N + 1)) 5) = u := ⟨_, rfl⟩
    rw [hu7]
    have m7 : New w7 u7 := hu7 ▸ Kp.alloc _ _ _
    have r7 : RdB u7 (some ⟨w7.heap.size, 0, none⟩) (List.replicate (N + 1) 0) := hu7 ▸ rd_row (heap_alloc_new w7 _) (by rw [toList_madeCells_one]; simp [bcs])
    refine (Append_calls u7 d _ F7 nGoes (some ⟨w7.heap.size, 0, none⟩) _ _ (List.replicate (N + 1) 0) (H7.out.1.new m7) (by decide) r7 (by simp) (by omega) (fun k hk e => by have h1 := Bk.some_.1 hk; have h2 := H7.out.1.lt d H7.out.1.mem; simp at h1; omega)).mono ?_
    rintro e w8 h
    obtain ⟨rfl, F8, q1, q2⟩ := h.eq (up_append_full (x := ⟨nGoes, [7], 0⟩) HT.out.1 _ good_goes HT.out.2.1 (by have := HT.out.2.2.2.2.1; first | (simp only [List.length_replicate]; omega) | (simp only [List.length_replicate, List.length_nil]; omega)))
    have H8 := Lib.hid (And.intro q1 ((H7.out.2.trans (Mv.of_new m7)).trans q2))
    clear h q1 q2 m7 r7 hu7
    go_wp2_with fail
    refine (num_calls _ _).mono ?_
    rintro e x ⟨rfl, rfl⟩
    go_wp2_with fail
    refine (Sync_calls w8 d _ F8 nGoes H8.out.1 (by decide)).mono ?_
    rintro e w9 h
    obtain ⟨rfl, F9, q1, q2⟩ := h.eq (up_sync (x := ⟨nGoes, [7], 0⟩) HT.out.1 good_goes HT.out.2.1)
    have H9 := Lib.hid (And.intro q1 (H8.out.2.trans q2))
    clear h q1 q2
    go_wp2_with fail
    refine (num_calls _ _).mono ?_
    rintro e x ⟨rfl, rfl⟩
    go_wp2_with fail
    refine (Rename_calls w9 d _ F9 nGoes nWent H9.out.1 (by decide) (by decide)).mono ?_
    rintro e w10 h
    obtain ⟨rfl, F10, q1, q2⟩ := h.eq (up_rename (x := ⟨nGoes, [7], 1⟩) HT.out.1 good_goes good_went HT.out.2.1 HT.out.2.2.1 (by decide))
    have H10 := Lib.hid (And.intro q1 (H9.out.2.trans q2))
    clear h q1 q2
    go_wp2_with fail
    refine (num_calls _ _).mono ?_
    rintro e x ⟨rfl, rfl⟩
    go_wp2_with fail
    refine (Rename_calls w10 d _ F10 nGoes nWent H10.out.1 (by decide) (by decide)).mono ?_
    rintro e w11 h
    obtain ⟨rfl, F11, q1, q2⟩ := h.eq (up_rename_none (HT.out.1.with _) good_goes good_went (with_other HT.out.2.1 (by decide)))
    have H11 := Lib.hid (And.intro q1 (H10.out.2.trans q2))
    clear h q1 q2
    go_wp2_with fail
    refine (num_calls _ _).mono ?_
    rintro e x ⟨rfl, rfl⟩
    go_wp2_with fail
    refine (Size_calls w11 d _ F11 nWent H11.out.1 (by decide)).mono ?_
    rintro e w12 ⟨rfl, n12⟩
    rw [show (DS.with t ⟨nWent, [7], 1⟩).size nWent = (1, 0) from up_size HT.out.1 (x := ⟨nWent, [7], 1⟩) good_went HT.out.2.2.1]
    have H12 := Lib.hid (And.intro (H11.out.1.new n12) (H11.out.2.trans (Mv.of_new n12)))
    clear n12
    go_wp2_with fail
    refine (num_calls _ _).mono ?_
    rintro e x ⟨rfl, rfl⟩
    go_wp2_with fail
    refine (Remove_calls w12 d _ F11 nWent H12.out.1 (by decide)).mono ?_
    rintro e w13 h
    obtain ⟨rfl, F13, q1, q2⟩ := h.eq (up_remove (x := ⟨nWent, [7], 1⟩) HT.out.1 good_went HT.out.2.2.1)
    have H13 := Lib.hid (And.intro q1 (H12.out.2.trans q2))
    clear h q1 q2
    go_wp2_with fail
    refine (num_calls _ _).mono ?_
    rintro e x ⟨rfl, rfl⟩
    go_wp2_with fail
    refine (Remove_calls w13 d _ F13 nWent H13.out.1 (by decide)).mono ?_
    rintro e w14 h
    obtain ⟨rfl, F14, q1, q2⟩ := h.eq (up_remove_none HT.out.1 good_went HT.out.2.2.1)
    have H14 := Lib.hid (And.intro q1 (H13.out.2.trans q2))
    clear h q1 q2
    go_wp2_with fail
    refine (num_calls _ _).mono ?_
    rintro e x ⟨rfl, rfl⟩
    go_wp2_with fail
    refine (Free_calls w14 d t F14 H14.out.1).mono ?_
    rintro e w15 ⟨rfl, n15⟩
    rw [HT.out.2.2.2.2.2]
    have HZ := Lib.hid (H14.out.2.1.trans n15 (fun _ _ h => h) (fun _ _ h => h.elim))
    clear n15
    go_wp2_with fail
    go_ret
    exact ⟨by simp, HZ.out⟩
end Go.Proofs.Ytekcoeonlfmebaa.Kit
