/- 1 texts in one: daybookkeep: a copy of bytes with marks behind it, and whether it still shows them. -/
import Derived.Test.YtekcoeonlfmebaaGreatDoorM1
import Derived.Test.YtekcoeonlfmebaaGreatDoorM0
namespace Go.Proofs.YtekcoeonlfmebaaGreatDoor.Kit
open Go Go.RowKit
def RoomPost (w : World) (l : List UInt8) (e : Ending) (w' : World) : Prop := ∃ A n c, e = .returned (.slice A n c) ∧ NewBytes w (l ++ marksB 700000 64) w' A n c
set_option maxHeartbeats 1000000 in
theorem RoomB_calls (w : World) (A : Option Addr) (n c : Nat) (l : List UInt8) (hl : RdB w A l) (hn : n = l.length) (hb : n ≤ 140737488351232) :
  Calls Tryz.prog 101 #[.slice A n c] w (RoomPost w l) := by
 subst hn
 have H := Lib.hid hl
 clear hl
 go_enter Tryz.func101, Tryz.ntmps101
 go_wp2_with (at_builtin; refine wpList_append_src _ rfl (.tmp 5) (.tmp 6) 55 55 rfl 5 (.int .u8 0) 1 1 Tryz.underlying55 Tryz.info_u8 rfl _ 0 0 [] rfl (Own.bare _ _ _) _ rfl l.length (bcs l) (Src.ofRdB _ Tryz.underlying55 c (H.out.new (Kp.alloc _ _ _))) (by omega) (by omega) ?_; intro A2 c2 w2 h1 h2 h3; have H2 := Lib.hid (And.intro h1 (And.intro h2 h3)); clear h1 h2 h3)
 go_loopw [3, 4] (fun a i wr => ∃ (k : Nat) (A1 : Option Addr) (c1 : Nat), k ≤ 64 ∧ i = .int .i64 (k : Int) ∧ a = .slice A1 (l.length + k) c1 ∧ Hid (Own wr 5 1 A1 c1 (l.length + k) (bcs (l ++ marksB 700000 k)) ∧ New w wr ∧ (∀ j, Bk A1 j → w.heap.size ≤ j))) (fun _ i _ => 64 - (intOf i).toNat)
 case atStart => exact ⟨0, A2, c2, by omega, by simp, by simp, Lib.hid ⟨by simpa [marksB] using H2.out.1, (Kp.alloc (fun _ => False) w _).trans H2.out.2.1 fid (fun x hx h => by have := Bk.some_.1 h; simp at this; omega), fun j hj => (H2.out.2.2 j hj).elim (fun h => by have := Bk.some_.1 h; simp at this; omega) (fun h => by simp at h; omega)⟩⟩
 case round =>
  obtain ⟨k, A1, c1, hk, rfl, rfl, HI⟩ := hrel
  by_cases hlt : k < 64
  ·have hm := (markB 700000 k).toNat_lt
   go_wp2_with (first | (go_at_call 199; refine (markBytes_calls _ 700000 k _ _ rfl rfl (by omega) (by omega)).mono ?_; rintro e w' ⟨rfl, rfl⟩) | (at_builtin; refine wpList_append_src _ rfl (.tmp 12) (.tmp 15) 55 55 rfl 5 (.int .u8 0) 1 1 Tryz.underlying55 Tryz.info_u8 rfl A1 c1 (l.length + k) (bcs (l ++ marksB 700000 k)) rfl (HI.out.1.new (Kp.alloc _ _ _)) _ rfl 1 _ (Src.ofNew _ Tryz.underlying55 #[.int .u8 ((markB 700000 k).toNat : Int)] 5 1 1 1 rfl (by simp [Value.oneCell'])) (by omega) (by omega) ?_; intro A3 c3 w3 h31 h32 h33; have H3 := Lib.hid (And.intro h31 (And.intro h32 h33)); clear h31 h32 h33))
   have hz := HI.out.2.1.size
   refine ⟨⟨k + 1, A3, c3, by omega, by go_num, rfl, Lib.hid ⟨?_, ?_, fun j hj => ?_⟩⟩, by simp [intOf]; omega⟩
   ·rw [marksB_snoc, ← List.append_assoc, bcs_append]
    exact H3.out.1
   ·exact HI.out.2.1.trans ((Kp.alloc (fun _ => False) wr _).trans H3.out.2.1 (fun _ _ h => h.elim) fid) fid (fun x hx h => by have := HI.out.2.2 x h; omega)
   ·rcases H3.out.2.2 j hj with h | h
    ·exact HI.out.2.2 j h
    ·simp at h
     omega
  ·obtain rfl : k = 64 := by omega
   go_wp2
   go_ret
   exact ⟨A1, _, c1, rfl, by rw [List.length_append, marksB_length], HI.out.1, HI.out.2.1, HI.out.2.2⟩
set_option maxHeartbeats 1000000 in
theorem KeptB_calls (w : World) (A B : Option Addr) (n m c d : Nat) (l : List UInt8) (hA : RdB w A (l ++ marksB 700000 64)) (hB : RdB w B l) (hn : n = l.length + 64) (hm : m = l.length) (hb : m ≤ 140737488351232) :
  Calls Tryz.prog 97 #[.slice A n c, .slice B m d] w fun e w' => e = .returned (.bool true) ∧ ∃ q, w' = w.drewN q := by
 subst hn
 subst hm
 have H := Lib.hid (And.intro hA hB)
 clear hA hB
 go_enter Tryz.func97, Tryz.ntmps97
 go_wp2_with fail
 go_loopw [5] (fun i wr => ∃ k q : Nat, k ≤ l.length + 64 ∧ i = .int .i64 (k : Int) ∧ wr = w.drewN q) (fun i _ => l.length + 64 - (intOf i).toNat)
 case atStart => exact ⟨0, 0, Nat.zero_le _, rfl, rfl⟩
 case round =>
  obtain ⟨k, q, hk, rfl, rfl⟩ := hrel
  have hmo : Tryz.prog.follows Departure.mixedOrders = true := by kernel_rfl
  by_cases hlt : k < l.length + 64
  ·obtain ⟨b1, o1, rfl, hc1⟩ := H.out.1.at_ (k := k) (by rw [List.length_append, marksB_length]; exact hlt)
   have e1 := hc1 k (by rw [List.length_append, marksB_length]; exact hlt)
   have hk0 : (0 : Int) ≤ k := by omega
   have hki : (k : Int) < (l.length : Int) + 64 := by omega
   by_cases hin : k < l.length
   ·obtain ⟨b2, o2, rfl, hc2⟩ := H.out.2.at_ hin
    have e2 := hc2 k hin
    rw [List.getElem_append_left hin] at e1
    have HC := Lib.hid (And.intro hc1 hc2)
    clear hc1 hc2
    generalize l[k] = x at e1 e2
    have hki2 : (k : Int) < (l.length : Int) := by omega
    have hng : ¬ l.length ≤ k := by omega
    go_wp2
    refine wp_region_line (fun w' => w'.cell? ⟨b1, o1 + k, none⟩ = some (.int .u8 (x.toNat : Int)) ∧ w'.cell? ⟨b2, o2 + k, none⟩ = some (.int .u8 (x.toNat : Int))) (pl := [(0, true), (1, true), (2, true), (3, true), (4, true), (5, true), (6, true), (7, true), (8, true), (9, true), (10, true), (11, true), (12, true), (13, false), (14, true), (15, true), (16, true), (17, true), (18, true), (19, true), (20, true), (21, true), (22, true), (23, true), (24, true), (25, true), (26, true), (27, true), (28, true), (29, true), (30, false), (31, false), (32, true), (33, true), (34, true)]) hmo (by kernel_rfl) ⟨by simpa using e1, by simpa using e2⟩ ?_
    iterate 13 (refine line_get rfl rfl (fun K hK => ?_); apply Exists.intro; refine ⟨fun w s => ?_, ?_⟩; (first | (have q := s rfl; go_simp; with_reducible rfl) | (go_simp; with_reducible rfl)); (go_simp; refine hK _ ?_; clear hK K))
    (refine line_do rfl rfl (fun K hK => ?_); go_simp)
    refine (sameBytes_calls _ x x).mono ?_
    rintro e w' ⟨rfl, rfl⟩
    rw [show decide (x = x) = true from decide_eq_true rfl]
    refine hK _ _ (fun _ => ⟨by simpa using e1, by simpa using e2⟩) ?_
    clear hK K
    iterate 8 (refine line_get rfl rfl (fun K hK => ?_); apply Exists.intro; refine ⟨fun w s => ?_, ?_⟩; (first | (have q := s rfl; go_simp; with_reducible rfl) | (go_simp; with_reducible rfl)); (go_simp; refine hK _ ?_; clear hK K))
    iterate 8 (refine line_past rfl rfl (fun K hK => ?_); go_simp; refine hK _ ?_; clear hK K)
    iterate 2 (refine line_miss rfl rfl (fun _ => ⟨by simpa using e1, by simpa using e2⟩) ?_; go_simp)
    (refine line_past rfl rfl (fun K hK => ?_); go_simp; refine hK _ ?_; clear hK K)
    iterate 2 (refine line_get rfl rfl (fun K hK => ?_); apply Exists.intro; refine ⟨fun w s => ?_, ?_⟩; (first | (have q := s rfl; go_simp; with_reducible rfl) | (go_simp; with_reducible rfl)); (go_simp; refine hK _ ?_; clear hK K))
    refine line_nil ?_
    go_wp2
    exact ⟨⟨k + 1, q + 1, by omega, by go_num, rfl⟩, by simp [intOf]; omega⟩
   ·have HC := Lib.hid hc1
    clear hc1
    rw [List.getElem_append_right (by omega)] at e1
    have hx : (marksB 700000 64)[k - l.length]'(by rw [marksB_length]; omega) = markB 700000 (k - l.length) := by simp [marksB]
    rw [hx] at e1
    clear hx
    generalize hx : markB 700000 (k - l.length) = x at e1
    have HX := Lib.hid hx
    clear hx
    have hge : (l.length : Int) ≤ k := by omega
    have hge2 : l.length ≤ k := by omega
    have hxl := x.toNat_lt
    go_wp2
    refine wp_region_line (fun w' => w'.cell? ⟨b1, o1 + k, none⟩ = some (.int .u8 (x.toNat : Int))) (pl := [(0, true), (1, true), (2, true), (3, true), (4, true), (5, true), (6, true), (7, true), (8, true), (9, true), (10, true), (11, true), (12, true), (13, false), (14, true), (15, true), (16, true), (17, true), (18, true), (19, true), (20, true), (21, true), (22, true), (23, true), (24, true), (25, true), (26, true), (27, true), (28, true), (29, true), (30, false), (31, false), (32, true), (33, true), (34, true)]) hmo (by kernel_rfl) (by simpa using e1) ?_
    iterate 5 (refine line_get rfl rfl (fun K hK => ?_); apply Exists.intro; refine ⟨fun w s => ?_, ?_⟩; (first | (have q := s rfl; go_simp; with_reducible rfl) | (go_simp; with_reducible rfl)); (go_simp; refine hK _ ?_; clear hK K))
    iterate 8 (refine line_past rfl rfl (fun K hK => ?_); go_simp; refine hK _ ?_; clear hK K)
    refine line_miss rfl rfl (fun _ => by simpa using e1) ?_
    go_simp
    (refine line_past rfl rfl (fun K hK => ?_); go_simp; refine hK _ ?_; clear hK K)
    iterate 15 (refine line_get rfl rfl (fun K hK => ?_); apply Exists.intro; refine ⟨fun w s => ?_, ?_⟩; (first | (have q := s rfl; go_simp; with_reducible rfl) | (go_simp; with_reducible rfl)); (go_simp; refine hK _ ?_; clear hK K))
    (refine line_do rfl rfl (fun K hK => ?_); go_simp)
    refine (markBytes_calls _ 700000 (k - l.length) _ _ rfl (by first | omega | (rw [IntKind.wrap_i64]; omega)) (by omega) (by omega)).mono ?_
    rintro e w' ⟨rfl, rfl⟩
    rw [HX.out]
    refine hK _ _ (fun _ => by simpa using e1) ?_
    clear hK K
    (refine line_do rfl rfl (fun K hK => ?_); go_simp)
    refine (sameBytes_calls _ x x).mono ?_
    rintro e w' ⟨rfl, rfl⟩
    rw [show decide (x = x) = true from decide_eq_true rfl]
    refine hK _ _ (fun _ => by simpa using e1) ?_
    clear hK K
    iterate 3 (refine line_get rfl rfl (fun K hK => ?_); apply Exists.intro; refine ⟨fun w s => ?_, ?_⟩; (first | (have q := s rfl; go_simp; with_reducible rfl) | (go_simp; with_reducible rfl)); (go_simp; refine hK _ ?_; clear hK K))
    refine line_nil ?_
    go_wp2
    exact ⟨⟨k + 1, q + 1, by omega, by go_num, rfl⟩, by simp [intOf]; omega⟩
  ·obtain rfl : k = l.length + 64 := by omega
   go_wp2
   go_ret
   exact ⟨rfl, q, rfl⟩
end Go.Proofs.YtekcoeonlfmebaaGreatDoor.Kit
