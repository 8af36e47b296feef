/- 1 texts in one: daybookref03: Append. -/
import Derived.Test.YtekcoeonlfmebaaGreatDoorM28
namespace Go.Proofs.YtekcoeonlfmebaaGreatDoor.Kit
open Go Go.RowKit
theorem RBytesV_calls (w : World) (cap fuse : Int) (down : Bool) (A : Option Addr) (c : Nat) (ys : List FV) (m : Nat) (h : RdF w A ys) (hl : ys.length ≤ 4611686018427387904) (hm : usedF (ys.map FV.f) = m) (hs : m ≤ 4611686018427387904) :
  Calls Tryz.prog 207 #[.agg #[.int .i64 cap, .slice A ys.length c, .int .i64 fuse, .bool down]] w fun e w' => e = .returned (.int .i64 (m : Int)) ∧ New w w' := by
 have e : (ys.map FV.fi).map FI.fl = ys.map FV.f := by rw [List.map_map]; exact List.map_congr_left fun y _ => y.fi_fl
 have := RBytes_calls w cap fuse down A c (ys.map FV.fi) h.toI (by rw [List.length_map]; exact hl) (by rw [e, hm]; exact hs)
 rw [List.length_map, e, hm] at this
 exact this
theorem RdB.kp2 {w w' : World} {S : Nat → Prop} {A : Option Addr} {l : List UInt8} (h : RdB w A l) (hk : Kp S w w') (hS : l ≠ [] → ∀ k, Bk A k → ¬ S k) : RdB w' A l := fun hl => (h.kp hk (hS hl)) hl
set_option maxRecDepth 100000 in
set_option maxHeartbeats 4000000 in
theorem RAppend_calls (w : World) (r : Nat) (s : DS) (F : List Nat) (n : Nm) (B : Option Addr) (bc : Nat) (l : List UInt8) (h : RefAt w r s F) (hn : n.length ≤ 9223372036854775807) (hB : RdB w B l) (hr : l ≠ [] → ¬ Bk B r) (hl : l.length ≤ 140737488355328) :
  Calls Tryz.prog 102 #[.pointer (some ⟨r, 0, none⟩), .string (bstr n), .slice B l.length bc] w (RChangePost r F w (s.append n l)) := by
 have hmo : Tryz.prog.follows Departure.mixedOrders = true := by kernel_rfl
 obtain ⟨A, c, ys, hX, rfl⟩ := h
 have c0 : w.cell? ⟨r, 0, none⟩ = some (.int .i64 (s.cap : Int)) := (cell_of_block hX.blk).trans rfl
 have c1 : w.cell? ⟨r, 1, none⟩ = some (.slice A ys.length c) := (cell_of_block hX.blk).trans rfl
 have c2 : w.cell? ⟨r, 2, none⟩ = some (.int .i64 s.fuse) := (cell_of_block hX.blk).trans rfl
 have c3 : w.cell? ⟨r, 3, none⟩ = some (.bool s.down) := (cell_of_block hX.blk).trans rfl
 have hfew := hX.few
 have hcap := hX.ok.cap
 have hused := hX.ok.used
 have HX := Lib.hid hX
 have HB := Lib.hid (And.intro hB hr)
 have HU := Lib.hid (show usedF (ys.map FV.f) = s.used by rw [hX.files]; rfl)
 clear hX hB hr
 have HR := Lib.hid (show ∀ q e w', q = s.append n l → RChangePost r (r :: nblks A ys) w q e w' → RChangePost r (r :: nblks A ys) w (s.append n l) e w' from fun _ _ _ h h' => h ▸ h')
 cases hdn : s.down with
 | true =>
  rw [hdn] at c3
  have HD := Lib.hid (show (34, s) = s.append n l from (change_down hdn).symm)
  clear hdn
  go_enter Tryz.func102, Tryz.ntmps102
  go_wp2_with fail
  go_ret
  exact HR.out _ _ _ HD.out ⟨rfl, HX.out.same (Kp.refl _ _)⟩
 | false =>
  rw [hdn] at c3
  have HD := Lib.hid hdn
  clear hdn
  by_cases ht : s.there n = 0
  ·obtain ⟨hg, fl, hfl⟩ := there_zero ht
   obtain ⟨i, y, hy, hyf, hyn, hz⟩ := HX.out.place hfl
   have hpz : placeZ s n = (i : Int) := by unfold placeZ; rw [if_pos ht]; exact hz
   subst hyf
   have hyu := used_at' HX.out.ok hfl
   have HT := Lib.hid (And.intro ht (And.intro hpz (And.intro hy (And.intro hfl hyn))))
   have hil : i < ys.length := (List.getElem?_eq_some_iff.1 hy).1
   have hi0 : (0 : Int) ≤ i := by omega
   have hin : (i : Int) < (ys.length : Int) := by omega
   clear ht hg hfl hy hyn hz hpz
   have hwr : IntKind.i64.wrap ((s.used : Int) + (l.length : Int)) = (s.used : Int) + (l.length : Int) := by rw [IntKind.wrap_i64]; omega
   by_cases hfull : s.cap < s.used + l.length
   ·have hf1 : decide ((s.cap : Int) < (s.used : Int) + (l.length : Int)) = true := decide_eq_true (by omega)
    have hf2 : decide (s.cap < s.used + l.length) = true := decide_eq_true hfull
    have HM := Lib.hid (show (30, s) = s.append n l from (by unfold DS.append; rw [if_neg (by rw [HT.out.1]; simp), if_pos hfull]; exact (change_err HD.out (by decide)).symm))
    go_enter Tryz.func102, Tryz.ntmps102
    go_wp2_with fail
    refine (RThere_calls w r c s A ys n HX.out hn).mono ?_
    rintro e x ⟨rfl, rfl⟩
    rw [HT.out.1, HT.out.2.1]
    go_wp2_with fail
    refine wp_region_line (fun w' => w'.cell? ⟨r, 0, none⟩ = some (.int .i64 (s.cap : Int)) ∧ w'.cell? ⟨r, 1, none⟩ = some (.slice A ys.length c) ∧ w'.cell? ⟨r, 2, none⟩ = some (.int .i64 s.fuse) ∧ w'.cell? ⟨r, 3, none⟩ = some (.bool false)) (pl := [(0, true), (1, true), (2, true), (3, true), (5, true), (6, true), (8, true), (9, true), (10, true), (11, true), (12, true), (4, false), (7, true), (13, true)]) hmo (by kernel_rfl) ⟨by simpa using c0, by simpa using c1, by simpa using c2, by simpa using c3⟩ ?_
    iterate 11 (refine line_get rfl rfl (fun K hK => ?_); apply Exists.intro; refine ⟨fun w s => ?_, ?_⟩; (first | (have q := s rfl; go_simp; with_reducible rfl) | (go_simp; with_reducible rfl)); (go_simp; refine hK _ ?_; clear hK K))
    (refine line_do rfl rfl (fun K hK => ?_); go_simp)
    refine (RBytesV_calls w.drew s.cap s.fuse false A c ys s.used (HX.out.own.rd.new (Kp.drew _ _)) (by omega) HU.out (by omega)).mono ?_
    rintro e w2 ⟨rfl, n2⟩
    have n02 : New w w2 := (Kp.drew _ _).trans n2 fid fid
    refine hK _ _ (fun _ => ⟨n02.cell c0, n02.cell c1, n02.cell c2, n02.cell c3⟩) ?_
    clear hK K n2
    have HN := Lib.hid n02
    have HX2 := Lib.hid (HX.out.new n02)
    clear n02
    iterate 2 (refine line_get rfl rfl (fun K hK => ?_); apply Exists.intro; refine ⟨fun w s => ?_, ?_⟩; (first | (have q := s rfl; go_simp; with_reducible rfl) | (go_simp; with_reducible rfl)); (go_simp; refine hK _ ?_; clear hK K))
    refine line_nil ?_
    go_wp2_with fail
    go_ret
    exact HR.out _ _ _ HM.out ⟨rfl, HX2.out.same (HN.out.mono fun _ _ h => h.elim)⟩
   ·have hf1 : decide ((s.cap : Int) < (s.used : Int) + (l.length : Int)) = false := decide_eq_false (by omega)
    have hf2 : decide (s.cap < s.used + l.length) = false := decide_eq_false hfull
    have he : s.append n l = s.change 0 (fun s => { s with files := updF n (fun f => { f with data := f.data ++ l }) s.files }) := by unfold DS.append; rw [if_neg (by rw [HT.out.1]; simp), if_neg hfull]
    by_cases hfu : s.fuse = 0
    ·have HM := Lib.hid (show (34, s.power) = s.append n l from (by rw [he]; exact (change_fuse HD.out hfu).symm))
     have HF := Lib.hid (show (!decide (s.fuse = 0)) = false by rw [hfu]; rfl)
     clear hfu he
     go_enter Tryz.func102, Tryz.ntmps102
     go_wp2_with fail
     refine (RThere_calls w r c s A ys n HX.out hn).mono ?_
     rintro e x ⟨rfl, rfl⟩
     rw [HT.out.1, HT.out.2.1]
     go_wp2_with fail
     refine wp_region_line (fun w' => w'.cell? ⟨r, 0, none⟩ = some (.int .i64 (s.cap : Int)) ∧ w'.cell? ⟨r, 1, none⟩ = some (.slice A ys.length c) ∧ w'.cell? ⟨r, 2, none⟩ = some (.int .i64 s.fuse) ∧ w'.cell? ⟨r, 3, none⟩ = some (.bool false)) (pl := [(0, true), (1, true), (2, true), (3, true), (5, true), (6, true), (8, true), (9, true), (10, true), (11, true), (12, true), (4, false), (7, true), (13, true)]) hmo (by kernel_rfl) ⟨by simpa using c0, by simpa using c1, by simpa using c2, by simpa using c3⟩ ?_
     iterate 11 (refine line_get rfl rfl (fun K hK => ?_); apply Exists.intro; refine ⟨fun w s => ?_, ?_⟩; (first | (have q := s rfl; go_simp; with_reducible rfl) | (go_simp; with_reducible rfl)); (go_simp; refine hK _ ?_; clear hK K))
     (refine line_do rfl rfl (fun K hK => ?_); go_simp)
     refine (RBytesV_calls w.drew s.cap s.fuse false A c ys s.used (HX.out.own.rd.new (Kp.drew _ _)) (by omega) HU.out (by omega)).mono ?_
     rintro e w2 ⟨rfl, n2⟩
     have n02 : New w w2 := (Kp.drew _ _).trans n2 fid fid
     refine hK _ _ (fun _ => ⟨n02.cell c0, n02.cell c1, n02.cell c2, n02.cell c3⟩) ?_
     clear hK K n2
     have HN := Lib.hid n02
     have HX2 := Lib.hid (HX.out.new n02)
     clear n02
     iterate 2 (refine line_get rfl rfl (fun K hK => ?_); apply Exists.intro; refine ⟨fun w s => ?_, ?_⟩; (first | (have q := s rfl; go_simp; with_reducible rfl) | (go_simp; with_reducible rfl)); (go_simp; refine hK _ ?_; clear hK K))
     refine line_nil ?_
     go_wp2_with fail
     refine (RPower_calls w2 r c s A ys HX2.out HD.out).mono ?_
     rintro e w1 ⟨rfl, hx1, k1⟩
     rw [HF.out]
     have H1 := Lib.hid (And.intro hx1 k1)
     clear hx1 k1
     go_wp2_with fail
     go_ret
     exact HR.out _ _ _ HM.out ⟨rfl, H1.out.1.same (HN.out.trans H1.out.2 (fun _ _ h => h.elim) fid)⟩
    ·have HM := Lib.hid (show (0, (fun s => { s with files := updF n (fun f => { f with data := f.data ++ l }) s.files }) s.power) = s.append n l from (by rw [he]; exact (change_go (h := (fun s => { s with files := updF n (fun f => { f with data := f.data ++ l }) s.files })) HD.out hfu).symm))
     have HF := Lib.hid (And.intro (show (!decide (s.fuse = 0)) = true by rw [decide_eq_false hfu]; rfl) hfu)
     clear hfu he
     go_enter Tryz.func102, Tryz.ntmps102
     go_wp2_with fail
     refine (RThere_calls w r c s A ys n HX.out hn).mono ?_
     rintro e x ⟨rfl, rfl⟩
     rw [HT.out.1, HT.out.2.1]
     go_wp2_with fail
     refine wp_region_line (fun w' => w'.cell? ⟨r, 0, none⟩ = some (.int .i64 (s.cap : Int)) ∧ w'.cell? ⟨r, 1, none⟩ = some (.slice A ys.length c) ∧ w'.cell? ⟨r, 2, none⟩ = some (.int .i64 s.fuse) ∧ w'.cell? ⟨r, 3, none⟩ = some (.bool false)) (pl := [(0, true), (1, true), (2, true), (3, true), (5, true), (6, true), (8, true), (9, true), (10, true), (11, true), (12, true), (4, false), (7, true), (13, true)]) hmo (by kernel_rfl) ⟨by simpa using c0, by simpa using c1, by simpa using c2, by simpa using c3⟩ ?_
     iterate 11 (refine line_get rfl rfl (fun K hK => ?_); apply Exists.intro; refine ⟨fun w s => ?_, ?_⟩; (first | (have q := s rfl; go_simp; with_reducible rfl) | (go_simp; with_reducible rfl)); (go_simp; refine hK _ ?_; clear hK K))
     (refine line_do rfl rfl (fun K hK => ?_); go_simp)
     refine (RBytesV_calls w.drew s.cap s.fuse false A c ys s.used (HX.out.own.rd.new (Kp.drew _ _)) (by omega) HU.out (by omega)).mono ?_
     rintro e w2 ⟨rfl, n2⟩
     have n02 : New w w2 := (Kp.drew _ _).trans n2 fid fid
     refine hK _ _ (fun _ => ⟨n02.cell c0, n02.cell c1, n02.cell c2, n02.cell c3⟩) ?_
     clear hK K n2
     have HN := Lib.hid n02
     have HX2 := Lib.hid (HX.out.new n02)
     clear n02
     iterate 2 (refine line_get rfl rfl (fun K hK => ?_); apply Exists.intro; refine ⟨fun w s => ?_, ?_⟩; (first | (have q := s rfl; go_simp; with_reducible rfl) | (go_simp; with_reducible rfl)); (go_simp; refine hK _ ?_; clear hK K))
     refine line_nil ?_
     go_wp2_with fail
     refine (RPower_calls w2 r c s A ys HX2.out HD.out).mono ?_
     rintro e w1 ⟨rfl, hx1, k1⟩
     rw [HF.out.1]
     have d1 : w1.cell? ⟨r, 1, none⟩ = some (.slice A ys.length c) := (cell_of_block hx1.blk).trans rfl
     have k01 : Kp (fun k => k = r) w w1 := HN.out.trans k1 (fun _ _ h => h.elim) fid
     obtain ⟨g, rfl, r0, r1, r2, rf⟩ := hx1.own.at_ HT.out.2.2.1
     have H1 := Lib.hid (And.intro hx1 (And.intro k01 (And.intro ((HB.out.1.kp2 k01 fun hne k hb e => HB.out.2 hne (e ▸ hb))) (rf (i * 3 + 1)))))
     clear hx1 k1 k01 c0 c1 c2 c3 r0 r2 rf
     go_wp2_with fail
     refine wp_region_line (fun w' => w'.cell? ⟨r, 1, none⟩ = some (.slice (some ⟨g, 0, none⟩) ys.length c) ∧ w'.cell? ⟨g, i * 3 + 1, none⟩ = some (.slice y.A y.f.data.length y.c)) (pl := [(0, true), (1, true), (2, true), (3, true), (4, true), (5, true), (7, true), (8, true), (9, true), (10, true), (11, true), (12, true), (13, true), (14, true), (15, true), (17, true), (6, false), (16, false), (18, false), (19, true), (20, true), (21, false)]) hmo (by kernel_rfl) ⟨by simpa using d1, by simpa using r1⟩ ?_
     iterate 16 (refine line_get rfl rfl (fun K hK => ?_); apply Exists.intro; refine ⟨fun w s => ?_, ?_⟩; (first | (have q := s rfl; go_simp; with_reducible rfl) | (go_simp; with_reducible rfl)); (go_simp; refine hK _ ?_; clear hK K))
     (refine line_do rfl rfl (fun K hK => ?_); go_simp)
     have na : New w1 (w1.alloc (.cells #[] 5)).drew := (Kp.alloc _ _ _).trans (Kp.drew _ _) fid fid
     refine hK _ _ (fun _ => ⟨na.cell d1, na.cell r1⟩) ?_
     clear hK K
     refine line_do rfl rfl (fun K hK => ?_)
     refine wp_append_src _ (.tmp 46) (.tmp 55) 55 55 rfl 5 (.int .u8 0) 1 1 Tryz.underlying55 Tryz.info_u8 rfl (some ⟨w1.heap.size, 0, none⟩) 0 0 [] rfl ((Own.bare w1 _ _).new (Kp.drew _ _)) _ rfl y.f.data.length (bcs y.f.data) (Src.ofRdB _ Tryz.underlying55 y.c ((H1.out.1.one (List.mem_of_getElem? HT.out.2.2.1)).rd.new na)) (by omega) (by omega) ?_
     intro A3 c3 w3 q1 q2 q3
     have n3 : New w1 w3 := na.trans q2 fid (fun j hj h => by have := Bk.some_.1 h; simp at this; omega)
     refine hK _ _ (fun _ => ⟨n3.cell d1, n3.cell r1⟩) ?_
     clear hK K
     have e3 : (0 : Nat) + y.f.data.length = y.f.data.length := Nat.zero_add _
     rw [e3] at q1 ⊢
     have z3 : ∀ k, Bk A3 k → w1.heap.size ≤ k := fun k hk => (q3 k hk).elim (fun h => by have := Bk.some_.1 h; simp at this; omega) (fun h => by rw [h]; simp)
     have H3 := Lib.hid (And.intro q1 (And.intro n3 z3))
     clear q1 q2 q3 n3 z3 e3 na
     refine line_do rfl rfl (fun K hK => ?_)
     refine wp_append_src _ (.tmp 56) (.tmp 57) 55 55 rfl 5 (.int .u8 0) 1 1 Tryz.underlying55 Tryz.info_u8 rfl A3 c3 y.f.data.length (bcs y.f.data) rfl H3.out.1 _ rfl l.length (bcs l) (Src.ofRdB _ Tryz.underlying55 bc (H1.out.2.2.1.new H3.out.2.1)) (by omega) (by omega) ?_
     intro A4 c4 w4 q1 q2 q3
     have n4 : New w1 w4 := H3.out.2.1.trans q2 fid (fun j hj h => by have := H3.out.2.2 j h; omega)
     have z4 : ∀ k, Bk A4 k → w1.heap.size ≤ k := fun k hk => (q3 k hk).elim (fun h => H3.out.2.2 k h) (fun h => by have := H3.out.2.1.size; omega)
     have rg : w4.cell? ⟨g, i * 3 + 1, none⟩ = some (.slice y.A y.f.data.length y.c) := n4.cell r1
     have rfz : w4.frozen? ⟨g, i * 3 + 1, none⟩ = false := by
      obtain ⟨g', hg', -, -, -, hf⟩ := (H1.out.1.own.kp n4 (fun _ _ => id)).at_ HT.out.2.2.1
      obtain rfl : g = g' := by simpa using hg'
      exact hf _
     refine hK _ _ (fun _ => ⟨n4.cell d1, n4.cell r1⟩) ?_
     clear hK K
     have H4 := Lib.hid (And.intro q1 (And.intro n4 z4))
     clear q1 q2 q3 n4 z4 r1 d1
     iterate 2 (refine line_get rfl rfl (fun K hK => ?_); apply Exists.intro; refine ⟨fun w s => ?_, ?_⟩; (first | (have q := s rfl; go_simp; with_reducible rfl) | (go_simp; with_reducible rfl)); (go_simp; refine hK _ ?_; clear hK K))
     (refine line_do rfl rfl (fun K hK => ?_); go_simp)
     refine hK _ _ (no_need (by kernel_rfl)) ?_
     clear hK K
     refine line_nil ?_
     go_wp2_with fail
     go_ret
     have zo : Own w4 5 1 A4 c4 (y.f.data ++ l).length (bcs (y.f.data ++ l)) := by rw [List.length_append, bcs_append]; exact H4.out.1
     have hp := H1.out.1.putAt (s' := { s.power with files := updF n (fun f => { f with data := f.data ++ l }) s.power.files }) HT.out.2.2.1 (m := 1) (z := ⟨⟨y.f.name, y.f.data ++ l, y.f.syn⟩, A4, c4⟩) (by omega) (.slice A4 (y.f.data.length + l.length) c4) (by simp [FV.cells]) H4.out.2.1 zo (fun k hk => .inl (H4.out.2.2 k hk)) rfl rfl rfl (by
      rw [DS.power_files, ← HX.out.files]
      exact map_set_updF (by rw [HX.out.files]; exact Rise.nodup HX.out.ok.rise) HT.out.2.2.1 HT.out.2.2.2.2 rfl) (by
      have hus := used_upd HX.out.ok HT.out.2.2.2.1 (appF l)
      have : (appF l y.f).data.length = y.f.data.length + l.length := by simp [appF]
      have hsy := HX.out.ok.syn y.f (List.mem_of_find?_eq_some HT.out.2.2.2.1)
      refine (HX.out.ok.power HD.out).upd n ((DS.power_find s n).trans HT.out.2.2.2.1) (appF l) (fun _ => rfl) (by rw [this]; show y.f.syn ≤ _; omega) ?_
      rw [DS.power_files, DS.power_cap]
      omega)
     exact HR.out _ _ _ HM.out ⟨rfl, hp.1.mv (S := fun k => k = r ∨ k = g) (H1.out.2.1.trans hp.2.1 (fun _ _ h => .inl h) (fun _ _ h => .inr h)) (fun k hk => hk.elim (fun e => e ▸ List.mem_cons_self) (fun e => e ▸ List.mem_cons_of_mem _ (List.mem_append_left _ (mem_bks.2 (Bk.some_.2 rfl))))) (fun k hk => (hp.2.2 k hk).imp id fun h => Nat.le_trans H1.out.2.1.size h)⟩
  ·have ht2 : (s.there n : Int) ≠ 0 := by omega
   obtain ⟨t, htt⟩ : ∃ t, s.there n = t := ⟨_, rfl⟩
   have HM := Lib.hid (show (t, s) = s.append n l from (by unfold DS.append; rw [if_pos ht, htt]; exact (change_err HD.out (by omega)).symm))
   have HT := Lib.hid htt
   have ht3 : ((t : Int) != 0) = true := by simpa [htt] using ht2
   have ht4 : ¬ (t : Int) = 0 := by omega
   clear ht ht2 htt
   go_enter Tryz.func102, Tryz.ntmps102
   go_wp2_with fail
   refine (RThere_calls w r c s A ys n HX.out hn).mono ?_
   rintro e x ⟨rfl, rfl⟩
   rw [HT.out]
   generalize placeZ s n = pz
   go_wp2_with fail
   go_ret
   exact HR.out _ _ _ HM.out ⟨rfl, HX.out.same (Kp.refl _ _)⟩
end Go.Proofs.YtekcoeonlfmebaaGreatDoor.Kit
