/- 1 texts in one: daybookkeep: a copy of a list of Ints with marks behind it, and whether it still shows them. -/
import Derived.Test.YtekcoeonlfmebaaGreatDoorM35
import Derived.Test.YtekcoeonlfmebaaGreatDoorM0
namespace Go.Proofs.YtekcoeonlfmebaaGreatDoor.Kit
open Go Go.RowKit
def RoomIntsPost (rid : Nat) (w : World) (n : Nat) (xs : List Value) (e : Ending) (w' : World) : Prop := ∃ A c, e = .returned (.slice A (n + 64) c) ∧ Own w' kInts.e kInts.sz A c (n + 64) (xs ++ kInts.marks rid 64) ∧ New w w' ∧ ∀ j, Bk A j → w.heap.size ≤ j
set_option maxHeartbeats 2000000 in
theorem RoomInts_calls0 (rid : Nat) (hr : rid = 700000) (w : World) (A : Option Addr) (n c : Nat) (xs : List Value) (hl : RdC w A xs) (hx : xs.length = n * kInts.sz) (hwf : ∀ i, i < n → kInts.wf (elt xs kInts.sz i)) (hb : n ≤ 17592186043904) (hT : Tab w) :
  Calls Tryz.prog 110 #[.slice A n c] w (RoomIntsPost rid w n xs) := by
 have HR := Lib.hid hr
 have hrl : rid ≤ 1000000 := by omega
 clear hr
 have H := Lib.hid (And.intro hl (And.intro hx (And.intro hwf hT)))
 clear hl hx hwf hT
 go_enter Tryz.func110, Tryz.ntmps110
 go_wp2_with (at_builtin; refine wpList_append_src _ rfl (.tmp 5) (.tmp 6) 56 56 rfl 3 _ 1 8 Tryz.underlying56 Tryz.info_I rfl _ 0 0 [] rfl (Own.bare _ _ _) _ rfl n xs (Src.ofRdC Tryz.underlying56 c (H.out.1.new (Kp.alloc _ _ _)) H.out.2.1 (by decide) (kInts_ok.all H.out.2.1 H.out.2.2.1)) (by omega) (by omega) ?_; intro A2 c2 w2 h1 h2 h3; have H2 := Lib.hid (And.intro h1 (And.intro h2 h3)); clear h1 h2 h3)
 go_loopw [3, 4] (fun a i wr => ∃ (k : Nat) (A1 : Option Addr) (c1 : Nat), k ≤ 64 ∧ i = .int .i64 (k : Int) ∧ a = .slice A1 (n + k) c1 ∧ Hid (Own wr kInts.e kInts.sz A1 c1 (n + k) (xs ++ kInts.marks rid k) ∧ New w wr ∧ (∀ j, Bk A1 j → w.heap.size ≤ j))) (fun _ i _ => 64 - (intOf i).toNat)
 case atStart => exact ⟨0, A2, c2, by omega, by simp, by simp, Lib.hid ⟨by have h := H2.out.1; simp only [Nat.zero_add, List.nil_append] at h; simpa [EK.marks] using (show Own w2 kInts.e kInts.sz A2 c2 n xs from h), (Kp.alloc (fun _ => False) w _).trans H2.out.2.1 fid (fun x hx h => by have := Bk.some_.1 h; simp at this; omega), fun j hj => (H2.out.2.2 j hj).elim (fun h => by have := Bk.some_.1 h; simp at this; omega) (fun h => by simp at h; omega)⟩⟩
 case round =>
  obtain ⟨k, A1, c1, hk, rfl, rfl, HI⟩ := hrel
  by_cases hlt : k < 64
  ·go_wp2_with fail
   refine (markInts_calls wr rid k _ _ (by have := HR.out; omega) rfl (by omega) (by omega) (H.out.2.2.2.new HI.out.2.1)).mono ?_
   rintro e w3 ⟨rfl, n3⟩
   have HN := Lib.hid n3
   clear n3
   go_wp2_with (at_builtin; refine wpList_append_src _ rfl (.tmp 12) (.tmp 15) 56 56 rfl 3 _ 1 8 Tryz.underlying56 Tryz.info_I rfl A1 c1 (n + k) (xs ++ kInts.marks rid k) rfl ((HI.out.1.new HN.out).new (Kp.alloc _ _ _)) _ rfl 1 _ (Src.ofNew w3 Tryz.underlying56 #[.int .i64 (-1000000 * ((rid : Int) % 1000 + 1) - (k : Int))] 3 1 1 1 rfl (by simp [Value.oneCell'])) (by omega) (by omega) ?_; intro A3 c3 w4 h1 h2 h3; have H3 := Lib.hid (And.intro h1 (And.intro h2 h3)); clear h1 h2 h3)
   have hz := HI.out.2.1.size
   have hz3 := HN.out.size
   refine ⟨⟨k + 1, A3, c3, by omega, by go_num, rfl, Lib.hid ⟨?_, ?_, fun j hj => ?_⟩⟩, by simp [intOf]; omega⟩
   ·rw [EK.marks_snoc, ← List.append_assoc]
    exact H3.out.1
   ·exact (HI.out.2.1.trans HN.out fid fid).trans ((Kp.alloc (fun _ => False) w3 _).trans H3.out.2.1 (fun _ _ h => h.elim) fid) fid (fun x hx h => by have := HI.out.2.2 x h; omega)
   ·rcases H3.out.2.2 j hj with h | h
    ·exact HI.out.2.2 j h
    ·simp at h
     omega
  ·obtain rfl : k = 64 := by omega
   go_wp2
   go_ret
   exact ⟨A1, c1, rfl, HI.out.1, HI.out.2.1, HI.out.2.2⟩
theorem RoomInts_calls (w : World) (A : Option Addr) (n c : Nat) (xs : List Value) (hl : RdC w A xs) (hx : xs.length = n * kInts.sz) (hwf : ∀ i, i < n → kInts.wf (elt xs kInts.sz i)) (hb : n ≤ 17592186043904) (hT : Tab w) :
  Calls Tryz.prog 110 #[.slice A n c] w (RoomIntsPost 700000 w n xs) := RoomInts_calls0 700000 rfl w A n c xs hl hx hwf hb hT
set_option maxRecDepth 10000 in
set_option maxHeartbeats 4000000 in
theorem KeptInts_calls0 (rid : Nat) (hr : rid = 700000) (w : World) (A B : Option Addr) (n c d : Nat) (xs : List Value) (hA : RdC w A (xs ++ kInts.marks rid 64)) (hB : RdC w B xs) (hx : xs.length = n * kInts.sz) (hwf : ∀ i, i < n → kInts.wf (elt xs kInts.sz i)) (hb : n ≤ 17592186043904) (hT : Tab w) :
  Calls Tryz.prog 112 #[.slice A (n + 64) c, .slice B n d] w fun e w' => e = .returned (.bool true) ∧ New w w' := by
 have HR := Lib.hid hr
 have hrl : rid ≤ 1000000 := by omega
 clear hr
 have hl2 : (xs ++ kInts.marks rid 64).length = (n + 64) * kInts.sz := by rw [List.length_append, hx, EK.marks_length kInts_ok, Nat.add_mul]
 have H := Lib.hid (And.intro hA (And.intro hB (And.intro hx (And.intro hl2 (And.intro hwf hT)))))
 clear hA hB hx hl2 hwf hT
 have hmo : Tryz.prog.follows Departure.mixedOrders = true := by kernel_rfl
 go_enter Tryz.func112, Tryz.ntmps112
 go_wp2_with fail
 go_loopw [5] (fun i wr => ∃ k : Nat, k ≤ n + 64 ∧ i = .int .i64 (k : Int) ∧ Hid (New w wr)) (fun i _ => n + 64 - (intOf i).toNat)
 case atStart => exact ⟨0, Nat.zero_le _, rfl, Lib.hid (Kp.refl _ _)⟩
 case round =>
  obtain ⟨k, hk, rfl, HI⟩ := hrel
  by_cases hlt : k < n + 64
  ·obtain ⟨b1, o1, rfl, hc1⟩ := (H.out.1.new HI.out).elt_at H.out.2.2.2.1 hlt (by decide)
   have hk0 : (0 : Int) ≤ k := by omega
   have hki : (k : Int) < (n : Int) + 64 := by omega
   by_cases hin : k < n
   ·obtain ⟨b2, o2, rfl, hc2⟩ := (H.out.2.1.new HI.out).elt_at H.out.2.2.1 hin (by decide)
    rw [elt_app_left H.out.2.2.1 hin] at hc1
    obtain ⟨sy, hv⟩ := H.out.2.2.2.2.1 k hin
    rw [hv] at hc1 hc2
    have e0 : wr.cell? ⟨b1, o1 + k, none⟩ = some (.int .i64 sy) := by have := hc1 0 _ rfl; rw [show k * kInts.sz = k from Nat.mul_one _] at this; exact this
    have d0 : wr.cell? ⟨b2, o2 + k, none⟩ = some (.int .i64 sy) := by have := hc2 0 _ rfl; rw [show k * kInts.sz = k from Nat.mul_one _] at this; exact this
    clear hc1 hc2 hv
    have hki2 : (k : Int) < (n : Int) := by omega
    have hng : ¬ n ≤ k := by omega
    go_wp2
    refine wp_region_line (fun w' => w'.cell? ⟨b1, o1 + k, none⟩ = some (.int .i64 sy) ∧ w'.cell? ⟨b2, o2 + k, none⟩ = some (.int .i64 sy)) (pl := [(0, true), (1, true), (2, true), (3, true), (4, true), (5, true), (6, true), (7, true), (8, true), (9, true), (10, true), (11, true), (12, true), (13, false), (14, true), (15, true), (16, true), (17, true), (18, true), (19, true), (20, true), (21, true), (22, true), (23, true), (24, true), (25, true), (26, true), (27, true), (28, true), (29, true), (30, false), (31, false), (32, true), (33, true), (34, true)]) hmo (by kernel_rfl) ⟨by simpa using e0, by simpa using d0⟩ ?_
    iterate 13 (refine line_get rfl rfl (fun K hK => ?_); apply Exists.intro; refine ⟨fun w s => ?_, ?_⟩; (first | (have q := s rfl; go_simp; with_reducible rfl) | (go_simp; with_reducible rfl)); (go_simp; refine hK _ ?_; clear hK K))
    (refine line_do rfl rfl (fun K hK => ?_); go_simp)
    refine (sameInts_calls _ sy).mono ?_
    rintro e w3 ⟨rfl, n3⟩
    have NN : New wr w3 := Kp.trans (Kp.drew _ _) n3 fid fid
    refine hK _ _ (fun _ => ⟨NN.cell e0, NN.cell d0⟩) ?_
    clear hK K
    have e0 : w3.cell? ⟨b1, o1 + k, none⟩ = some (.int .i64 sy) := NN.cell e0
    have d0 : w3.cell? ⟨b2, o2 + k, none⟩ = some (.int .i64 sy) := NN.cell d0
    have N_w3 := Lib.hid NN
    clear NN n3
    iterate 8 (refine line_get rfl rfl (fun K hK => ?_); apply Exists.intro; refine ⟨fun w s => ?_, ?_⟩; (first | (have q := s rfl; go_simp; with_reducible rfl) | (go_simp; with_reducible rfl)); (go_simp; refine hK _ ?_; clear hK K))
    iterate 8 (refine line_past rfl rfl (fun K hK => ?_); go_simp; refine hK _ ?_; clear hK K)
    iterate 2 (refine line_miss rfl rfl (fun _ => ⟨e0, d0⟩) ?_; go_simp)
    (refine line_past rfl rfl (fun K hK => ?_); go_simp; refine hK _ ?_; clear hK K)
    iterate 2 (refine line_get rfl rfl (fun K hK => ?_); apply Exists.intro; refine ⟨fun w s => ?_, ?_⟩; (first | (have q := s rfl; go_simp; with_reducible rfl) | (go_simp; with_reducible rfl)); (go_simp; refine hK _ ?_; clear hK K))
    refine line_nil ?_
    go_wp2
    exact ⟨⟨k + 1, by omega, by go_num, Lib.hid (HI.out.trans N_w3.out fid fid)⟩, by simp [intOf]; omega⟩
   ·rw [elt_app_from H.out.2.2.1 (by omega), elt_marks kInts_ok rid 64 (k - n) (by omega)] at hc1
    obtain ⟨j, hj⟩ : ∃ j, k - n = j := ⟨_, rfl⟩
    rw [hj] at hc1
    have HJ := Lib.hid hj
    have hjl : j < 64 := by omega
    clear hj
    have e0 : wr.cell? ⟨b1, o1 + k, none⟩ = some (.int .i64 (-1000000 * ((rid : Int) % 1000 + 1) - (j : Int))) := by have := hc1 0 _ rfl; rw [show k * kInts.sz = k from Nat.mul_one _] at this; exact this
    clear hc1
    have hge : (n : Int) ≤ (k : Int) := by omega
    have hge2 : n ≤ k := by omega
    go_wp2
    refine wp_region_line (fun w' => w'.cell? ⟨b1, o1 + k, none⟩ = some (.int .i64 (-1000000 * ((rid : Int) % 1000 + 1) - (j : Int)))) (pl := [(0, true), (1, true), (2, true), (3, true), (4, true), (5, true), (6, true), (7, true), (8, true), (9, true), (10, true), (11, true), (12, true), (13, false), (14, true), (15, true), (16, true), (17, true), (18, true), (19, true), (20, true), (21, true), (22, true), (23, true), (24, true), (25, true), (26, true), (27, true), (28, true), (29, true), (30, false), (31, false), (32, true), (33, true), (34, true)]) hmo (by kernel_rfl) (by simpa using e0) ?_
    iterate 5 (refine line_get rfl rfl (fun K hK => ?_); apply Exists.intro; refine ⟨fun w s => ?_, ?_⟩; (first | (have q := s rfl; go_simp; with_reducible rfl) | (go_simp; with_reducible rfl)); (go_simp; refine hK _ ?_; clear hK K))
    iterate 8 (refine line_past rfl rfl (fun K hK => ?_); go_simp; refine hK _ ?_; clear hK K)
    refine line_miss rfl rfl (fun _ => (by simpa using e0)) ?_
    go_simp
    (refine line_past rfl rfl (fun K hK => ?_); go_simp; refine hK _ ?_; clear hK K)
    iterate 15 (refine line_get rfl rfl (fun K hK => ?_); apply Exists.intro; refine ⟨fun w s => ?_, ?_⟩; (first | (have q := s rfl; go_simp; with_reducible rfl) | (go_simp; with_reducible rfl)); (go_simp; refine hK _ ?_; clear hK K))
    (refine line_do rfl rfl (fun K hK => ?_); go_simp)
    refine (markInts_calls _ rid j _ _ (by have := HR.out; omega) (by have := HJ.out; first | omega | (rw [IntKind.wrap_i64]; omega)) (by omega) (by omega) ((H.out.2.2.2.2.2.new HI.out).new (Kp.drew _ _))).mono ?_
    rintro e w3 ⟨rfl, n3⟩
    have NN : New wr w3 := Kp.trans (Kp.drew _ _) n3 fid fid
    refine hK _ _ (fun _ => NN.cell e0) ?_
    clear hK K
    have e0 : w3.cell? ⟨b1, o1 + k, none⟩ = some (.int .i64 (-1000000 * ((rid : Int) % 1000 + 1) - (j : Int))) := NN.cell e0
    have N_w3 := Lib.hid NN
    clear NN n3
    (refine line_do rfl rfl (fun K hK => ?_); go_simp)
    refine (sameInts_calls _ (-1000000 * ((rid : Int) % 1000 + 1) - (j : Int))).mono ?_
    rintro e w4 ⟨rfl, n4⟩
    have NN : New w3 w4 := n4
    refine hK _ _ (fun _ => NN.cell e0) ?_
    clear hK K
    have e0 : w4.cell? ⟨b1, o1 + k, none⟩ = some (.int .i64 (-1000000 * ((rid : Int) % 1000 + 1) - (j : Int))) := NN.cell e0
    have N_w4 := Lib.hid NN
    clear NN n4
    iterate 3 (refine line_get rfl rfl (fun K hK => ?_); apply Exists.intro; refine ⟨fun w s => ?_, ?_⟩; (first | (have q := s rfl; go_simp; with_reducible rfl) | (go_simp; with_reducible rfl)); (go_simp; refine hK _ ?_; clear hK K))
    refine line_nil ?_
    go_wp2
    exact ⟨⟨k + 1, by omega, by go_num, Lib.hid ((HI.out.trans N_w3.out fid fid).trans N_w4.out fid fid)⟩, by simp [intOf]; omega⟩
  ·obtain rfl : k = n + 64 := by omega
   go_wp2
   go_ret
   exact ⟨rfl, HI.out⟩
theorem KeptInts_calls (w : World) (A B : Option Addr) (n c d : Nat) (xs : List Value) (hA : RdC w A (xs ++ kInts.marks 700000 64)) (hB : RdC w B xs) (hx : xs.length = n * kInts.sz) (hwf : ∀ i, i < n → kInts.wf (elt xs kInts.sz i)) (hb : n ≤ 17592186043904) (hT : Tab w) :
  Calls Tryz.prog 112 #[.slice A (n + 64) c, .slice B n d] w fun e w' => e = .returned (.bool true) ∧ New w w' := KeptInts_calls0 700000 rfl w A B n c d xs hA hB hx hwf hb hT
end Go.Proofs.YtekcoeonlfmebaaGreatDoor.Kit
