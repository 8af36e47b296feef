/- 1 texts in one: PRINTED by gen_keptf.py. daybookkeep: does a copy of files, whose bytes lie elsewhere, still show them? -/
import Derived.Test.YtekcoeonlfmebaaGreatDoorM10
namespace Go.Proofs.YtekcoeonlfmebaaGreatDoor.Kit
open Go Go.RowKit
set_option maxHeartbeats 1000000 in
theorem sameF_calls (w : World) (nm : List UInt8) (fA fB : Option Addr) (fn fc fd : Nat) (sy : Int) :
  Calls Tryz.prog 200 #[.agg #[.string (bstr nm), .slice fA fn fc, .int .i64 sy], .agg #[.string (bstr nm), .slice fB fn fd, .int .i64 sy]] w fun e w' => e = .returned (.bool true) ∧ New w w' := by
 go_enter Tryz.func200, Tryz.ntmps200
 go_wp2_with fail
 go_ret
 exact ⟨rfl, (Kp.alloc _ _ _).trans (Kp.alloc _ _ _) fid fid⟩
set_option maxRecDepth 10000 in
set_option maxHeartbeats 4000000 in
theorem KeptF_calls0 (rid : Nat) (hr : rid = 700000) (w : World) (A B : Option Addr) (n c d : Nat) (xs ys : List Value) (hA : RdC w A (xs ++ kFiles.marks rid 64)) (hB : RdC w B ys) (hx : xs.length = n * kFiles.sz) (hy : ys.length = n * kFiles.sz) (hsim : ∀ i, i < n → ∃ nm fA fB fn fc fd sy, elt xs kFiles.sz i = cellsFiles nm fA fn fc sy ∧ elt ys kFiles.sz i = cellsFiles nm fB fn fd sy) (hb : n ≤ 2932031007317) (hT : Tab w) :
  Calls Tryz.prog 98 #[.slice A (n + 64) c, .slice B n d] w fun e w' => e = .returned (.bool true) ∧ New w w' := by
 have HR := Lib.hid hr
 have hrl : rid ≤ 1000000 := by omega
 clear hr
 have hl2 : (xs ++ kFiles.marks rid 64).length = (n + 64) * kFiles.sz := by rw [List.length_append, hx, EK.marks_length kFiles_ok, Nat.add_mul]
 have H := Lib.hid (And.intro hA (And.intro hB (And.intro hx (And.intro hl2 (And.intro (And.intro hsim hy) hT)))))
 clear hA hB hx hl2 hsim hy hT
 have hmo : Tryz.prog.follows Departure.mixedOrders = true := by kernel_rfl
 go_enter Tryz.func98, Tryz.ntmps98
 go_wp2_with fail
 go_loopw [5] (fun i wr => ∃ k : Nat, k ≤ n + 64 ∧ i = .int .i64 (k : Int) ∧ Hid (New w wr)) (fun i _ => n + 64 - (intOf i).toNat)
 case atStart => exact ⟨0, Nat.zero_le _, rfl, Lib.hid (Kp.refl _ _)⟩
 case round =>
  obtain ⟨k, hk, rfl, HI⟩ := hrel
  by_cases hlt : k < n + 64
  ·obtain ⟨b1, o1, rfl, hc1⟩ := (H.out.1.new HI.out).elt_at H.out.2.2.2.1 hlt (by decide)
   have hk0 : (0 : Int) ≤ k := by omega
   have hki : (k : Int) < (n : Int) + 64 := by omega
   by_cases hin : k < n
   ·obtain ⟨b2, o2, rfl, hc2⟩ := (H.out.2.1.new HI.out).elt_at H.out.2.2.2.2.1.2 hin (by decide)
    rw [elt_app_left H.out.2.2.1 hin] at hc1
    obtain ⟨nm, fA, fB, fn, fc, fd, sy, hv1, hv2⟩ := H.out.2.2.2.2.1.1 k hin
    rw [hv1] at hc1
    rw [hv2] at hc2
    have e0 : wr.cell? ⟨b1, o1 + k * 3, none⟩ = some (.string (bstr nm)) := by have := hc1 0 _ rfl; exact this
    have d0 : wr.cell? ⟨b2, o2 + k * 3, none⟩ = some (.string (bstr nm)) := by have := hc2 0 _ rfl; exact this
    have e1 : wr.cell? ⟨b1, o1 + k * 3 + 1, none⟩ = some (.slice fA fn fc) := by have := hc1 1 _ rfl; exact this
    have d1 : wr.cell? ⟨b2, o2 + k * 3 + 1, none⟩ = some (.slice fB fn fd) := by have := hc2 1 _ rfl; exact this
    have e2 : wr.cell? ⟨b1, o1 + k * 3 + 2, none⟩ = some (.int .i64 sy) := by have := hc1 2 _ rfl; exact this
    have d2 : wr.cell? ⟨b2, o2 + k * 3 + 2, none⟩ = some (.int .i64 sy) := by have := hc2 2 _ rfl; exact this
    clear hc1 hc2 hv1 hv2
    have hki2 : (k : Int) < (n : Int) := by omega
    have hng : ¬ n ≤ k := by omega
    go_wp2
    refine wp_region_line (fun w' => w'.cell? ⟨b1, o1 + k * 3, none⟩ = some (.string (bstr nm)) ∧ w'.cell? ⟨b1, o1 + k * 3 + 1, none⟩ = some (.slice fA fn fc) ∧ w'.cell? ⟨b1, o1 + k * 3 + 2, none⟩ = some (.int .i64 sy) ∧ w'.cell? ⟨b2, o2 + k * 3, none⟩ = some (.string (bstr nm)) ∧ w'.cell? ⟨b2, o2 + k * 3 + 1, none⟩ = some (.slice fB fn fd) ∧ w'.cell? ⟨b2, o2 + k * 3 + 2, none⟩ = some (.int .i64 sy)) (pl := [(0, true), (1, true), (2, true), (3, true), (4, true), (5, true), (6, true), (7, true), (8, true), (9, true), (10, true), (11, true), (12, true), (13, false), (14, true), (15, true), (16, true), (17, true), (18, true), (19, true), (20, true), (21, true), (22, true), (23, true), (24, true), (25, true), (26, true), (27, true), (28, true), (29, true), (30, false), (31, false), (32, true), (33, true), (34, true)]) hmo (by kernel_rfl) ⟨by simpa using e0, by simpa using e1, by simpa using e2, by simpa using d0, by simpa using d1, by simpa using d2⟩ ?_
    iterate 13 (refine line_get rfl rfl (fun K hK => ?_); apply Exists.intro; refine ⟨fun w s => ?_, ?_⟩; (first | (have q := s rfl; go_simp; with_reducible rfl) | (go_simp; with_reducible rfl)); (go_simp; refine hK _ ?_; clear hK K))
    (refine line_do rfl rfl (fun K hK => ?_); go_simp)
    refine (sameF_calls _ nm fA fB fn fc fd sy).mono ?_
    rintro e w3 ⟨rfl, n3⟩
    have NN : New wr w3 := Kp.trans (Kp.drew _ _) n3 fid fid
    refine hK _ _ (fun _ => ⟨NN.cell e0, NN.cell e1, NN.cell e2, NN.cell d0, NN.cell d1, NN.cell d2⟩) ?_
    clear hK K
    have e0 : w3.cell? ⟨b1, o1 + k * 3, none⟩ = some (.string (bstr nm)) := NN.cell e0
    have e1 : w3.cell? ⟨b1, o1 + k * 3 + 1, none⟩ = some (.slice fA fn fc) := NN.cell e1
    have e2 : w3.cell? ⟨b1, o1 + k * 3 + 2, none⟩ = some (.int .i64 sy) := NN.cell e2
    have d0 : w3.cell? ⟨b2, o2 + k * 3, none⟩ = some (.string (bstr nm)) := NN.cell d0
    have d1 : w3.cell? ⟨b2, o2 + k * 3 + 1, none⟩ = some (.slice fB fn fd) := NN.cell d1
    have d2 : w3.cell? ⟨b2, o2 + k * 3 + 2, none⟩ = some (.int .i64 sy) := NN.cell d2
    have N_w3 := Lib.hid NN
    clear NN n3
    iterate 8 (refine line_get rfl rfl (fun K hK => ?_); apply Exists.intro; refine ⟨fun w s => ?_, ?_⟩; (first | (have q := s rfl; go_simp; with_reducible rfl) | (go_simp; with_reducible rfl)); (go_simp; refine hK _ ?_; clear hK K))
    iterate 8 (refine line_past rfl rfl (fun K hK => ?_); go_simp; refine hK _ ?_; clear hK K)
    iterate 2 (refine line_miss rfl rfl (fun _ => ⟨e0, e1, e2, d0, d1, d2⟩) ?_; go_simp)
    (refine line_past rfl rfl (fun K hK => ?_); go_simp; refine hK _ ?_; clear hK K)
    iterate 2 (refine line_get rfl rfl (fun K hK => ?_); apply Exists.intro; refine ⟨fun w s => ?_, ?_⟩; (first | (have q := s rfl; go_simp; with_reducible rfl) | (go_simp; with_reducible rfl)); (go_simp; refine hK _ ?_; clear hK K))
    refine line_nil ?_
    go_wp2
    exact ⟨⟨k + 1, by omega, by go_num, Lib.hid (HI.out.trans N_w3.out fid fid)⟩, by simp [intOf]; omega⟩
   ·rw [elt_app_from H.out.2.2.1 (by omega), elt_marks kFiles_ok rid 64 (k - n) (by omega)] at hc1
    obtain ⟨j, hj⟩ : ∃ j, k - n = j := ⟨_, rfl⟩
    rw [hj] at hc1
    have HJ := Lib.hid hj
    have hjl : j < 64 := by omega
    clear hj
    have e0 : wr.cell? ⟨b1, o1 + k * 3, none⟩ = some (.string (bstr (textL rid j))) := by have := hc1 0 _ rfl; exact this
    have e1 : wr.cell? ⟨b1, o1 + k * 3 + 1, none⟩ = some (.slice none 0 0) := by have := hc1 1 _ rfl; exact this
    have e2 : wr.cell? ⟨b1, o1 + k * 3 + 2, none⟩ = some (.int .i64 (-(j : Int) - 1)) := by have := hc1 2 _ rfl; exact this
    clear hc1
    have hge : (n : Int) ≤ (k : Int) := by omega
    have hge2 : n ≤ k := by omega
    go_wp2
    refine wp_region_line (fun w' => w'.cell? ⟨b1, o1 + k * 3, none⟩ = some (.string (bstr (textL rid j))) ∧ w'.cell? ⟨b1, o1 + k * 3 + 1, none⟩ = some (.slice none 0 0) ∧ w'.cell? ⟨b1, o1 + k * 3 + 2, none⟩ = some (.int .i64 (-(j : Int) - 1))) (pl := [(0, true), (1, true), (2, true), (3, true), (4, true), (5, true), (6, true), (7, true), (8, true), (9, true), (10, true), (11, true), (12, true), (13, false), (14, true), (15, true), (16, true), (17, true), (18, true), (19, true), (20, true), (21, true), (22, true), (23, true), (24, true), (25, true), (26, true), (27, true), (28, true), (29, true), (30, false), (31, false), (32, true), (33, true), (34, true)]) hmo (by kernel_rfl) ⟨by simpa using e0, by simpa using e1, by simpa using e2⟩ ?_
    iterate 5 (refine line_get rfl rfl (fun K hK => ?_); apply Exists.intro; refine ⟨fun w s => ?_, ?_⟩; (first | (have q := s rfl; go_simp; with_reducible rfl) | (go_simp; with_reducible rfl)); (go_simp; refine hK _ ?_; clear hK K))
    iterate 8 (refine line_past rfl rfl (fun K hK => ?_); go_simp; refine hK _ ?_; clear hK K)
    refine line_miss rfl rfl (fun _ => ⟨by simpa using e0, by simpa using e1, by simpa using e2⟩) ?_
    go_simp
    (refine line_past rfl rfl (fun K hK => ?_); go_simp; refine hK _ ?_; clear hK K)
    iterate 15 (refine line_get rfl rfl (fun K hK => ?_); apply Exists.intro; refine ⟨fun w s => ?_, ?_⟩; (first | (have q := s rfl; go_simp; with_reducible rfl) | (go_simp; with_reducible rfl)); (go_simp; refine hK _ ?_; clear hK K))
    (refine line_do rfl rfl (fun K hK => ?_); go_simp)
    refine (markFiles_calls _ rid j _ _ (by have := HR.out; omega) (by have := HJ.out; first | omega | (rw [IntKind.wrap_i64]; omega)) (by omega) (by omega) ((H.out.2.2.2.2.2.new HI.out).new (Kp.drew _ _))).mono ?_
    rintro e w3 ⟨rfl, n3⟩
    have NN : New wr w3 := Kp.trans (Kp.drew _ _) n3 fid fid
    refine hK _ _ (fun _ => ⟨NN.cell e0, NN.cell e1, NN.cell e2⟩) ?_
    clear hK K
    have e0 : w3.cell? ⟨b1, o1 + k * 3, none⟩ = some (.string (bstr (textL rid j))) := NN.cell e0
    have e1 : w3.cell? ⟨b1, o1 + k * 3 + 1, none⟩ = some (.slice none 0 0) := NN.cell e1
    have e2 : w3.cell? ⟨b1, o1 + k * 3 + 2, none⟩ = some (.int .i64 (-(j : Int) - 1)) := NN.cell e2
    have N_w3 := Lib.hid NN
    clear NN n3
    (refine line_do rfl rfl (fun K hK => ?_); go_simp)
    refine (sameFiles_calls _ (textL rid j) none 0 0 (-(j : Int) - 1)).mono ?_
    rintro e w4 ⟨rfl, n4⟩
    have NN : New w3 w4 := n4
    refine hK _ _ (fun _ => ⟨NN.cell e0, NN.cell e1, NN.cell e2⟩) ?_
    clear hK K
    have e0 : w4.cell? ⟨b1, o1 + k * 3, none⟩ = some (.string (bstr (textL rid j))) := NN.cell e0
    have e1 : w4.cell? ⟨b1, o1 + k * 3 + 1, none⟩ = some (.slice none 0 0) := NN.cell e1
    have e2 : w4.cell? ⟨b1, o1 + k * 3 + 2, none⟩ = some (.int .i64 (-(j : Int) - 1)) := NN.cell e2
    have N_w4 := Lib.hid NN
    clear NN n4
    iterate 3 (refine line_get rfl rfl (fun K hK => ?_); apply Exists.intro; refine ⟨fun w s => ?_, ?_⟩; (first | (have q := s rfl; go_simp; with_reducible rfl) | (go_simp; with_reducible rfl)); (go_simp; refine hK _ ?_; clear hK K))
    refine line_nil ?_
    go_wp2
    exact ⟨⟨k + 1, by omega, by go_num, Lib.hid ((HI.out.trans N_w3.out fid fid).trans N_w4.out fid fid)⟩, by simp [intOf]; omega⟩
  ·obtain rfl : k = n + 64 := by omega
   go_wp2
   go_ret
   exact ⟨rfl, HI.out⟩
theorem KeptF_calls (w : World) (A B : Option Addr) (n c d : Nat) (xs ys : List Value) (hA : RdC w A (xs ++ kFiles.marks 700000 64)) (hB : RdC w B ys) (hx : xs.length = n * kFiles.sz) (hy : ys.length = n * kFiles.sz) (hsim : ∀ i, i < n → ∃ nm fA fB fn fc fd sy, elt xs kFiles.sz i = cellsFiles nm fA fn fc sy ∧ elt ys kFiles.sz i = cellsFiles nm fB fn fd sy) (hb : n ≤ 2932031007317) (hT : Tab w) :
  Calls Tryz.prog 98 #[.slice A (n + 64) c, .slice B n d] w fun e w' => e = .returned (.bool true) ∧ New w w' := KeptF_calls0 700000 rfl w A B n c d xs ys hA hB hx hy hsim hb hT
end Go.Proofs.YtekcoeonlfmebaaGreatDoor.Kit
