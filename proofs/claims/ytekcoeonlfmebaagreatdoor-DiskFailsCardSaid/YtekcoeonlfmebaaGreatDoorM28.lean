/- 2 texts in one: daybookref03: Sync, Create, Fuse.; disk.Append: bytes behind a file's. -/
import Derived.Test.YtekcoeonlfmebaaGreatDoorM24
import Derived.Test.YtekcoeonlfmebaaGreatDoorM21
import Derived.Test.YtekcoeonlfmebaaGreatDoorM0
namespace Go.Proofs.YtekcoeonlfmebaaGreatDoor.Kit
open Go Go.RowKit
theorem RefX.putAt {w w1 : World} {r g c : Nat} {s s' : DS} {ys : List FV} (h : RefX w r s (some ⟨g, 0, none⟩) c ys) {i m : Nat} {y z : FV} (hy : ys[i]? = some y) (hm : m < 3) (v : Value) (hz : z.cells = y.cells.set m v)
  (n : New w w1) (hzo : Own w1 5 1 z.A z.c z.f.data.length (bcs z.f.data)) (hzb : ∀ k, Bk z.A k → w.heap.size ≤ k ∨ Bk y.A k) (hcap : s'.cap = s.cap) (hfu : s'.fuse = s.fuse) (hdn : s'.down = s.down) (hfl : (ys.set i z).map FV.f = s'.files) (ok : s'.Ok) :
  RefX (w1.setCell ⟨g, i * 3 + m, none⟩ v) r s' (some ⟨g, 0, none⟩) c (ys.set i z) ∧ Kp (fun k => k = g) w (w1.setCell ⟨g, i * 3 + m, none⟩ v) ∧ (∀ k ∈ nblks (some ⟨g, 0, none⟩) (ys.set i z), k ∈ nblks (some ⟨g, 0, none⟩) ys ∨ w.heap.size ≤ k) := by
 have hg : g ∈ nblks (some ⟨g, 0, none⟩) ys := List.mem_append_left _ (mem_bks.2 (Bk.some_.2 rfl))
 have hrg : r ≠ g := fun e => h.out (e ▸ hg)
 have hrl : r < w.heap.size := h.lt r List.mem_cons_self
 have k1 : Kp (fun k => k = g) w1 (w1.setCell ⟨g, i * 3 + m, none⟩ v) := Kp.setCell _ _ _ rfl
 have kk : Kp (fun k => k = g) w (w1.setCell ⟨g, i * 3 + m, none⟩ v) := n.trans k1 (fun _ _ h => h.elim) fid
 have hp := h.own.put hy hm v hz n (fun _ _ => id) hzo hzb
 have hsub : ∀ k ∈ nblks (some ⟨g, 0, none⟩) (ys.set i z), k ∈ nblks (some ⟨g, 0, none⟩) ys ∨ w.heap.size ≤ k := fun k hk => by
  rcases List.mem_append.1 hk with hk | hk
  ·exact .inl (List.mem_append_left _ hk)
  ·rcases fblks_set_cases hk with hk | hk
   ·exact .inl (List.mem_append_right _ hk)
   ·exact (hzb k hk).symm.imp (fun hb => List.mem_append_right _ (mem_fblks.2 ⟨y, List.mem_of_getElem? hy, hb⟩)) id
 refine ⟨⟨?_, hp, fun hm => (hsub r hm).elim h.out fun h => by omega, hfl, ok⟩, kk, hsub⟩
 rw [kk.block r hrl hrg, h.blk, hcap, hfu, hdn, List.length_set]
set_option maxRecDepth 100000 in
set_option maxHeartbeats 4000000 in
theorem RSync_calls (w : World) (r : Nat) (s : DS) (F : List Nat) (n : Nm) (h : RefAt w r s F) (hn : n.length ≤ 9223372036854775807) :
  Calls Tryz.prog 103 #[.pointer (some ⟨r, 0, none⟩), .string (bstr n)] w (RChangePost r F w (s.sync n)) := by
 have hmo : Tryz.prog.follows Departure.mixedOrders = true := by kernel_rfl
 obtain ⟨A, c, ys, hX, rfl⟩ := h
 have c1 : w.cell? ⟨r, 1, none⟩ = some (.slice A ys.length c) := (cell_of_block hX.blk).trans rfl
 have c3 : w.cell? ⟨r, 3, none⟩ = some (.bool s.down) := (cell_of_block hX.blk).trans rfl
 have hfew := hX.few
 have HX := Lib.hid hX
 clear hX
 have HR := Lib.hid (show ∀ q e w', q = s.sync n → RChangePost r (r :: nblks A ys) w q e w' → RChangePost r (r :: nblks A ys) w (s.sync n) e w' from fun _ _ _ h h' => h ▸ h')
 cases hdn : s.down with
 | true =>
  rw [hdn] at c3
  have HD := Lib.hid (show (34, s) = s.sync n from (change_down hdn).symm)
  clear hdn
  go_enter Tryz.func103, Tryz.ntmps103
  go_wp2_with fail
  go_ret
  exact HR.out _ _ _ HD.out ⟨rfl, HX.out.same (Kp.refl _ _)⟩
 | false =>
  rw [hdn] at c3
  have HD := Lib.hid hdn
  clear hdn
  by_cases ht : s.there n = 0
  ·obtain ⟨hg, fl, hfl⟩ := there_zero ht
   obtain ⟨i, y, hy, hyf, hyn, hz⟩ := HX.out.place hfl
   have hpz : placeZ s n = (i : Int) := by unfold placeZ; rw [if_pos ht]; exact hz
   subst hyf
   have HT := Lib.hid (And.intro ht (And.intro hpz (And.intro hy (And.intro hfl hyn))))
   have hil : i < ys.length := (List.getElem?_eq_some_iff.1 hy).1
   have hi0 : (0 : Int) ≤ i := by omega
   have hin : (i : Int) < (ys.length : Int) := by omega
   clear ht hg hfl hy hyn hz hpz
   by_cases hfu : s.fuse = 0
   ·have HM := Lib.hid (show (34, s.power) = s.sync n from (by unfold DS.sync; rw [HT.out.1]; exact (change_fuse HD.out hfu).symm))
    have HF := Lib.hid (show (!decide (s.fuse = 0)) = false by rw [hfu]; rfl)
    clear hfu
    go_enter Tryz.func103, Tryz.ntmps103
    go_wp2_with fail
    refine (RThere_calls w r c s A ys n HX.out hn).mono ?_
    rintro e x ⟨rfl, rfl⟩
    rw [HT.out.1, HT.out.2.1]
    go_wp2_with fail
    refine (RPower_calls w r c s A ys HX.out HD.out).mono ?_
    rintro e w1 ⟨rfl, hx1, k1⟩
    rw [HF.out]
    have H1 := Lib.hid (And.intro hx1 k1)
    clear hx1 k1
    go_wp2_with fail
    go_ret
    exact HR.out _ _ _ HM.out ⟨rfl, H1.out.1.same H1.out.2⟩
   ·have HM := Lib.hid (show (0, (fun s => { s with files := updF n (fun f => { f with syn := f.data.length }) s.files }) s.power) = s.sync n from (by unfold DS.sync; rw [HT.out.1]; exact (change_go (h := (fun s => { s with files := updF n (fun f => { f with syn := f.data.length }) s.files })) HD.out hfu).symm))
    have HF := Lib.hid (And.intro (show (!decide (s.fuse = 0)) = true by rw [decide_eq_false hfu]; rfl) hfu)
    clear hfu
    go_enter Tryz.func103, Tryz.ntmps103
    go_wp2_with fail
    refine (RThere_calls w r c s A ys n HX.out hn).mono ?_
    rintro e x ⟨rfl, rfl⟩
    rw [HT.out.1, HT.out.2.1]
    go_wp2_with fail
    refine (RPower_calls w r c s A ys HX.out HD.out).mono ?_
    rintro e w1 ⟨rfl, hx1, k1⟩
    rw [HF.out.1]
    have d1 : w1.cell? ⟨r, 1, none⟩ = some (.slice A ys.length c) := (cell_of_block hx1.blk).trans rfl
    have z1 : w1.frozen? ⟨r, 1, none⟩ = false := by simp [World.frozen?, hx1.blk]
    have H1 := Lib.hid (And.intro hx1 k1)
    clear hx1 k1 c1 c3
    obtain ⟨g, rfl, r0, r1, r2, rf⟩ := H1.out.1.own.at_ HT.out.2.2.1
    have hrf := rf (i * 3 + 2)
    have hdl := (H1.out.1.one (List.mem_of_getElem? HT.out.2.2.1)).max
    simp only [maxLen] at hdl
    have nd0 : New w1 w1.drew := Kp.drew _ _
    have r2d := nd0.cell r2
    have hrd : w1.drew.frozen? ⟨g, i * 3 + 2, none⟩ = false := hrf
    clear z1 r0 rf nd0
    go_wp2_with fail
    refine wp_region_line (fun w' => w'.cell? ⟨r, 1, none⟩ = some (.slice (some ⟨g, 0, none⟩) ys.length c) ∧ w'.cell? ⟨g, i * 3 + 1, none⟩ = some (.slice y.A y.f.data.length y.c)) (pl := [(0, true), (1, true), (2, true), (3, true), (4, true), (5, true), (6, true), (7, true), (8, true), (9, true), (10, true), (11, true), (12, true), (13, true), (14, true), (15, true), (16, true), (17, true), (18, false)]) hmo (by kernel_rfl) ⟨by simpa using d1, by simpa using r1⟩ ?_
    iterate 18 (refine line_get rfl rfl (fun K hK => ?_); apply Exists.intro; refine ⟨fun w s => ?_, ?_⟩; (first | (have q := s rfl; go_simp; with_reducible rfl) | (go_simp; with_reducible rfl)); (go_simp; refine hK _ ?_; clear hK K))
    (refine line_do rfl rfl (fun K hK => ?_); go_simp)
    refine hK _ _ (no_need (by kernel_rfl)) ?_
    clear hK K
    refine line_nil ?_
    go_wp2_with fail
    go_ret
    have nd : New w1 w1.drew := Kp.drew _ _
    have hp := H1.out.1.putAt (s' := { s.power with files := updF n syncF s.power.files }) HT.out.2.2.1 (m := 2) (z := ⟨⟨y.f.name, y.f.data, y.f.data.length⟩, y.A, y.c⟩) (by omega) (.int .i64 (y.f.data.length : Int)) rfl nd ((H1.out.1.one (List.mem_of_getElem? HT.out.2.2.1)).new nd) (fun _ h => .inr h) rfl rfl rfl (by
     rw [DS.power_files, ← HX.out.files]
     exact map_set_updF (by rw [HX.out.files]; exact Rise.nodup HX.out.ok.rise) HT.out.2.2.1 HT.out.2.2.2.2 rfl) (by
     have hus := used_upd HX.out.ok HT.out.2.2.2.1 syncF
     have : (syncF y.f).data.length = y.f.data.length := rfl
     refine (HX.out.ok.power HD.out).upd n ((DS.power_find s n).trans HT.out.2.2.2.1) syncF (fun _ => rfl) (Nat.le_refl _) ?_
     rw [DS.power_files, DS.power_cap]
     have := HX.out.ok.used
     omega)
    exact HR.out _ _ _ HM.out ⟨rfl, hp.1.mv (S := fun k => k = r ∨ k = g) (H1.out.2.trans hp.2.1 (fun _ _ h => .inl h) (fun _ _ h => .inr h)) (fun k hk => hk.elim (fun e => e ▸ List.mem_cons_self) (fun e => e ▸ List.mem_cons_of_mem _ (List.mem_append_left _ (mem_bks.2 (Bk.some_.2 rfl))))) (fun k hk => (hp.2.2 k hk).imp id fun h => Nat.le_trans H1.out.2.size h)⟩
  ·have ht2 : (s.there n : Int) ≠ 0 := by omega
   obtain ⟨t, htt⟩ : ∃ t, s.there n = t := ⟨_, rfl⟩
   have HM := Lib.hid (show (t, s) = s.sync n from (by unfold DS.sync; rw [htt]; exact (change_err HD.out (by omega)).symm))
   have HT := Lib.hid htt
   have ht3 : ((t : Int) != 0) = true := by simpa [htt] using ht2
   have ht4 : ¬ (t : Int) = 0 := by omega
   clear ht ht2 htt
   go_enter Tryz.func103, Tryz.ntmps103
   go_wp2_with fail
   refine (RThere_calls w r c s A ys n HX.out hn).mono ?_
   rintro e x ⟨rfl, rfl⟩
   rw [HT.out]
   generalize placeZ s n = pz
   go_wp2_with fail
   go_ret
   exact HR.out _ _ _ HM.out ⟨rfl, HX.out.same (Kp.refl _ _)⟩
def Bx3 (d B : Nat) (n : Nm) (v : Value) (w : World) : Prop := Bx2 d B n w ∧ Bx w (B + 1 + 1) 55 v
theorem Bx3.new {d B : Nat} {n : Nm} {v : Value} {w w' : World} (h : Bx3 d B n v w) (hk : New w w') : Bx3 d B n v w' := ⟨h.1.new hk, h.2.kp hk id⟩
theorem Bx3.kd {d B : Nat} {n : Nm} {v : Value} {w w' : World} (h : Bx3 d B n v w) (hk : Kp (fun k => k = d) w w') : Bx3 d B n v w' := ⟨h.1.kd hk, h.2.kp hk (fun e => by have := h.1.1; omega)⟩
def appErr (s : DS) (n : Nm) (m : Nat) : Nat := if s.there n ≠ 0 then s.there n else if s.cap < s.used + m then 30 else 0
set_option maxHeartbeats 2000000 in
theorem Append1_calls (w : World) (d B : Nat) (s : DS) (F : List Nat) (n : Nm) (A : Option Addr) (m c : Nat) (hB : Bx3 d B n (.slice A m c) w) (hD : DiskAt w d s F) (hn : n.length ≤ 9223372036854775807) (hm : m ≤ 9223372036854775807) :
  Calls Tryz.prog 149 #[.pointer (some ⟨B, 0, none⟩), .pointer (some ⟨B + 1, 0, none⟩), .pointer (some ⟨B + 1 + 1, 0, none⟩)] w fun e w' => e = .returned (.int .i64 (appErr s n m : Int)) ∧ New w w' := by
 have c0 := hB.1.2.1.cell
 have c1 := hB.1.2.2.cell
 have c2 := hB.2.cell
 have HB := Lib.hid hB
 have HD := Lib.hid hD
 have hcap := hD.ok.cap
 have hus := hD.ok.used
 unfold appErr
 clear hB hD
 by_cases ht : s.there n = 0
 ·have ht' : ¬ s.there n ≠ 0 := fun h => h ht
  rw [if_neg ht']
  clear ht'
  by_cases hfit : s.cap < s.used + m
  all_goals
   first | rw [if_pos hfit] | rw [if_neg hfit]
   go_enter Tryz.func149, Tryz.ntmps149
   go_wp2_with fail
   refine (there_calls w d s F n HD.out hn).mono ?_
   rintro e w1 ⟨rfl, hn1⟩
   rw [ht]
   obtain ⟨bm, hb⟩ := (HD.out.new hn1).cells
   have g0 : w1.cell? ⟨d, 0, none⟩ = some (.int .i64 (s.cap : Int)) := (cell_of_block hb).trans rfl
   have g1 : w1.cell? ⟨d, 1, none⟩ = some (.int .i64 (s.used : Int)) := (cell_of_block hb).trans rfl
   have d0 := (HB.out.new hn1).1.2.1.cell
   have d1 := (HB.out.new hn1).1.2.2.cell
   have d2 := (HB.out.new hn1).2.cell
   have HN := Lib.hid hn1
   clear hn1 hb ht
   go_wp2_with fail
   go_quiet (fail)
   go_wp2_with fail
   go_ret
   exact ⟨rfl, HN.out.trans (Kp.drewN _ _ _) fid fid⟩
 ·rw [if_pos ht]
  have hne : ((s.there n : Int) != 0) = true := by rw [bne_iff_ne]; omega
  clear ht
  go_enter Tryz.func149, Tryz.ntmps149
  go_wp2_with fail
  refine (there_calls w d s F n HD.out hn).mono ?_
  rintro e w1 ⟨rfl, hn1⟩
  have HN := Lib.hid hn1
  clear hn1
  go_wp2_with fail
  go_ret
  exact ⟨rfl, HN.out⟩
def appF (b : List UInt8) (f : Fl) : Fl := { f with data := f.data ++ b }
set_option maxRecDepth 100000 in
set_option maxHeartbeats 4000000 in
theorem Append2_calls (w : World) (d B : Nat) (s : DS) (F : List Nat) (n : Nm) (f : Fl) (A : Option Addr) (m c : Nat) (l : List UInt8) (hB : Bx3 d B n (.slice A m c) w) (hD : DiskAt w d s F) (hf : s.find n = some f) (hl : RdB w A l) (hm : m = l.length) (hfit : s.used + m ≤ s.cap) (hFB : ∀ k ∈ F, k < B) :
  Calls Tryz.prog 151 #[.pointer (some ⟨B, 0, none⟩), .pointer (some ⟨B + 1, 0, none⟩), .pointer (some ⟨B + 1 + 1, 0, none⟩)] w fun e w' => e = .returned (.tuple #[]) ∧ ∃ F', DiskAt w' d { s with files := updF n (appF l) s.files } F' ∧ Mv F F' w w' := by
 subst hm
 obtain ⟨bm, xs, hX, rfl⟩ := hD
 obtain ⟨x, l1, l2, rfl, rfl, hfn, hat⟩ := hX.look_some hf
 have c0 := hB.1.2.1.cell
 have c1 := hB.1.2.2.cell
 have c2 := hB.2.cell
 have c3 : w.cell? ⟨d, 2, none⟩ = some (.map (some bm)) := (cell_of_block hX.blk).trans rfl
 have hlk : ∀ j, (Instr.lookup 83 (.map (some bm)) (.string (bstr n)) false).run Tryz.prog (w.drewN j) = .ok (.pointer (some ⟨x.b, 0, none⟩)) (w.drewN j) := fun j => by rw [run_look_at (hX.map.drewN j) n, hat]; rfl
 have hxb := hX.mem_cut.1
 have f0 : w.cell? ⟨x.b, 0, none⟩ = some (.slice x.A x.f.data.length x.c) := (cell_of_block hxb).trans rfl
 have hused := used_upd hX.ok hf (appF l)
 have hxl : x.f.data.length ≤ s.used := by
  obtain ⟨_, l1, l2, hc, _⟩ := DS.find_cut hX.ok hf
  unfold DS.used
  rw [hc, used_app, used_cons]
  omega
 have hcap := hX.ok.cap
 have hmo : Tryz.prog.follows Departure.mixedOrders = true := by kernel_rfl
 have H := Lib.hid (And.intro hX (And.intro hf (And.intro hfn (And.intro hxb (And.intro hl (And.intro hB (And.intro hused hFB)))))))
 clear hX hf hfn hat hxb hB hl hused hFB
 go_enter Tryz.func151, Tryz.ntmps151
 go_wp2_with fail
 go_quiet (fail)
 go_wp2_with fail
 have n0 : New w (w.drewN nq) := Kp.drewN _ _ _
 have HN0 := Lib.hid n0
 refine wp_region_line (fun w' => w'.cell? ⟨x.b, 0, none⟩ = some (.slice x.A x.f.data.length x.c) ∧ w'.cell? ⟨B + 1 + 1, 0, none⟩ = some (.slice A l.length c)) (pl := [(0, true), (1, true), (2, true), (3, true), (4, true), (5, true), (6, false), (7, true), (8, true), (9, false)]) hmo (by kernel_rfl) ⟨by simpa using f0, by simpa using c2⟩ ?_
 iterate 6 (refine line_get rfl rfl (fun K hK => ?_); apply Exists.intro; refine ⟨fun w s => ?_, ?_⟩; (first | (have q := s rfl; go_simp; with_reducible rfl) | (go_simp; with_reducible rfl)); (go_simp; refine hK _ ?_; clear hK K))
 refine line_do rfl rfl (fun K hK => ?_)
 have n1 : New w (w.drewN nq).drew := n0.trans (Kp.drew _ _) fid fid
 refine wp_append_src _ (.tmp 14) (.tmp 15) 55 55 rfl 5 (.int .u8 0) 1 1 Tryz.underlying55 Tryz.info_u8 rfl x.A x.c x.f.data.length (bcs x.f.data) rfl (H.out.1.mem_cut.2.new n1) _ rfl l.length (bcs l) (Src.ofRdB _ Tryz.underlying55 c (H.out.2.2.2.2.1.new n1)) (by omega) (by omega) ?_
 intro A2 c2' w2 hA2 hk2 hb2
 have k02 : Kp (Bk x.A) w w2 := n1.trans hk2 (fun _ _ h => h.elim) fid
 obtain ⟨m1, m2, m3⟩ := H.out.1.blk_ne
 have hAb : ¬ Bk x.A x.b := fun hb => by
  have := (List.nodup_append.1 (List.nodup_append.1 (fpD_cut d bm l1 l2 x ▸ H.out.1.own)).2.1).1
  exact (List.nodup_cons.1 this).1 (mem_bks.2 hb)
 have hAx : ∀ k, Bk x.A k → k ∈ x.blk := fun k hb => List.mem_cons_of_mem _ (mem_bks.2 hb)
 have hFm : ∀ k ∈ x.blk, k ∈ fpD d bm (l1 ++ x :: l2) := fun k hk => by rw [fpD_cut]; exact List.mem_append_right _ (List.mem_append_left _ hk)
 have hlB : ∀ k ∈ x.blk, k < B := fun k hk => H.out.2.2.2.2.2.2.2 k (hFm k hk)
 have b2 : w2.heap[x.b]? = some (.cells x.cells 90 (0, 0)) := (k02.block x.b (Array.getElem?_eq_some_iff.1 H.out.2.2.2.1).1 hAb).trans H.out.2.2.2.1
 have f2 : w2.cell? ⟨x.b, 0, none⟩ = some (.slice x.A x.f.data.length x.c) := (cell_of_block b2).trans rfl
 have z2 : w2.frozen? ⟨x.b, 0, none⟩ = false := by simp [World.frozen?, b2]
 have b3 := heap_setCell_row (j := 0) b2 (.slice A2 (x.f.data.length + l.length) c2')
 have k23 : Kp (fun k => k = x.b) w2 (w2.setCell ⟨x.b, 0, none⟩ (.slice A2 (x.f.data.length + l.length) c2')) := Kp.setCell _ _ _ rfl
 have k03 : Kp (fun k => k ∈ x.blk) w (w2.setCell ⟨x.b, 0, none⟩ (.slice A2 (x.f.data.length + l.length) c2')) := k02.trans k23 (fun k _ h => hAx k h) (fun k _ e => e ▸ List.mem_cons_self)
 have hA3 : Own (w2.setCell ⟨x.b, 0, none⟩ (.slice A2 (x.f.data.length + l.length) c2')) 5 1 A2 c2' (x.f.data.length + l.length) (bcs x.f.data ++ bcs l) := hA2.kp k23 (fun k hb e => (hb2 k hb).elim (fun h => hAb (e ▸ h)) (fun h => by
  have h3 := (Array.getElem?_eq_some_iff.1 H.out.2.2.2.1).1
  have h4 := n1.size
  have e' : k = x.b := e
  omega))
 have d1 : (w2.setCell ⟨x.b, 0, none⟩ (.slice A2 (x.f.data.length + l.length) c2')).heap[d]? = some (.cells (dcells s bm) 85 (0, 0)) := (k03.block d (H.out.1.lt d (mem_fpD.2 (.inl rfl))) (fun hm => (m1 d hm).1 rfl)).trans H.out.1.blk
 have e0 := (H.out.2.2.2.2.2.1.1.2.1.kp k03 (fun hm => by have := hlB _ hm; omega)).cell
 have e2 := (H.out.2.2.2.2.2.1.2.kp k03 (fun hm => by have := hlB _ hm; omega)).cell
 have hn2 : ∀ k, Bk A2 k → Bk x.A k ∨ w.heap.size ≤ k := fun k hb => (hb2 k hb).imp id (fun h => by have h4 := n1.size; omega)
 have HB := Lib.hid (And.intro b3 (And.intro k03 (And.intro hA3 (And.intro d1 hn2))))
 refine hK _ _ (no_need (by kernel_rfl)) ?_
 clear hK K b2 b3 k02 k23 k03 hA3 hA2 hk2 hb2 m1 m2 m3 hAb hAx hFm hlB hn2
 iterate 2 (refine line_get rfl rfl (fun K hK => ?_); apply Exists.intro; refine ⟨fun w s => ?_, ?_⟩; (first | (have q := s rfl; go_simp; with_reducible rfl) | (go_simp; with_reducible rfl)); (go_simp; refine hK _ ?_; clear hK K))
 (refine line_do rfl rfl (fun K hK => ?_); go_simp)
 refine hK _ _ (no_need (by kernel_rfl)) ?_
 clear hK K
 refine line_nil ?_
 have g0 : (w2.setCell ⟨x.b, 0, none⟩ (.slice A2 (x.f.data.length + l.length) c2')).cell? ⟨d, 1, none⟩ = some (.int .i64 (s.used : Int)) := (cell_of_block d1).trans rfl
 have g1 : (w2.setCell ⟨x.b, 0, none⟩ (.slice A2 (x.f.data.length + l.length) c2')).frozen? ⟨d, 1, none⟩ = false := by simp [World.frozen?, d1]
 clear d1 f2 z2
 generalize (w2.setCell ⟨x.b, 0, none⟩ (.slice A2 (x.f.data.length + l.length) c2')) = w3 at *
 go_wp2_with fail
 refine wp_region_line (fun w' => w'.cell? ⟨B, 0, none⟩ = some (.pointer (some ⟨d, 0, none⟩)) ∧ w'.cell? ⟨B + 1 + 1, 0, none⟩ = some (.slice A l.length c) ∧ w'.cell? ⟨d, 1, none⟩ = some (.int .i64 (s.used : Int))) (pl := [(0, true), (1, true), (2, true), (3, true), (4, true), (5, true), (6, true), (7, true), (8, true), (9, false)]) hmo (by kernel_rfl) ⟨by simpa using e0, by simpa using e2, by simpa using g0⟩ ?_
 iterate 9 (refine line_get rfl rfl (fun K hK => ?_); apply Exists.intro; refine ⟨fun w s => ?_, ?_⟩; (first | (have q := s rfl; go_simp; with_reducible rfl) | (go_simp; with_reducible rfl)); (go_simp; refine hK _ ?_; clear hK K))
 (refine line_do rfl rfl (fun K hK => ?_); go_simp)
 refine hK _ _ (no_need (by kernel_rfl)) ?_
 clear hK K
 refine line_nil ?_
 go_end0
 have hw : IntKind.i64.wrap ((s.used : Int) + (l.length : Int)) = ((s.used + l.length : Nat) : Int) := by rw [IntKind.wrap_i64]; omega
 rw [hw]
 obtain ⟨m1, m2, m3⟩ := H.out.1.blk_ne
 have q1 := heap_setCell_row (j := 1) HB.out.2.2.2.1 (.int .i64 ((s.used + l.length : Nat) : Int))
 have k34 : Kp (fun k => k = d) w3 (w3.setCell ⟨d, 1, none⟩ (.int .i64 ((s.used + l.length : Nat) : Int))).drew := (Kp.setCell (S := fun k => k = d) w3 ⟨d, 1, none⟩ _ rfl).trans (Kp.drew _ _) fid fid
 have kk : Kp (fun k => k = d ∨ k ∈ x.blk) w (w3.setCell ⟨d, 1, none⟩ (.int .i64 ((s.used + l.length : Nat) : Int))).drew := HB.out.2.1.trans k34 (fun _ _ h => .inr h) (fun _ _ h => .inl h)
 have hu : usedF (updF n (appF l) s.files) = s.used + l.length := by
  have h1 := H.out.2.2.2.2.2.2.1
  have h2 : (appF l x.f).data.length = x.f.data.length + l.length := by simp [appF]
  omega
 have hxd : x.b < w3.heap.size := (Array.getElem?_eq_some_iff.1 HB.out.1).1
 refine ⟨rfl, H.out.1.updAt (x' := ⟨appF l x.f, x.b, A2, c2'⟩) kk (fun k h => h) ?_ rfl rfl ⟨?_, ?_⟩ HB.out.2.2.2.2 (appF l) rfl (by rw [H.out.2.2.1]) (H.out.1.ok.upd n H.out.2.1 (appF l) (fun _ => rfl) ?_ (by rw [hu]; exact hfit))⟩
 ·have : (dcells s bm).setIfInBounds 1 (.int .i64 ((s.used + l.length : Nat) : Int)) = dcells { s with files := updF n (appF l) s.files } bm := by
   unfold dcells DS.used
   simp only [hu]
   rfl
  exact this ▸ q1
 ·refine (k34.block x.b hxd (fun e => (m1 x.b List.mem_cons_self).1 e)).trans (HB.out.1.trans ?_)
  unfold FE.cells appF
  simp
 ·have := HB.out.2.2.1.kp k34 (fun k hb e => ?_)
  ·rw [← bcs_append] at this
   simpa [appF] using this
  ·rcases HB.out.2.2.2.2 k hb with h | h
   ·exact (m1 k (List.mem_cons_of_mem _ (mem_bks.2 h))).1 e
   ·have := H.out.1.lt d (mem_fpD.2 (.inl rfl))
    omega
 ·have h1 := H.out.1.ok.syn x.f (List.mem_of_find?_eq_some H.out.2.1)
  simp only [appF, List.length_append]
  omega
theorem Append_calls (w : World) (d : Nat) (s : DS) (F : List Nat) (n : Nm) (A : Option Addr) (m c : Nat) (l : List UInt8) (hD : DiskAt w d s F) (hn : n.length ≤ 9223372036854775807) (hl : RdB w A l) (hm : m = l.length) (hb : m ≤ 9223372036854775807) (hA : ∀ k, Bk A k → k ≠ d) :
  Calls Tryz.prog 43 #[.pointer (some ⟨d, 0, none⟩), .string (bstr n), .slice A m c] w (ChangePost d F w (s.append n l)) := by
 subst hm
 have HD := Lib.hid hD
 have HL := Lib.hid (And.intro hl hA)
 clear hD hl hA
 go_enter Tryz.func43, Tryz.ntmps43
 go_wp2_with fail
 obtain ⟨w1, hw1⟩ : ∃ w1, (w.alloc (.cells #[.pointer (some ⟨d, 0, none⟩)] 26)).alloc (.cells #[.string (bstr n)] 9) = w1 := ⟨_, rfl⟩
 obtain ⟨hB, n1⟩ := boxes2 (HD.out.lt d HD.out.mem) hw1
 have z1 : w1.heap.size = w.heap.size + 2 := by rw [← hw1]; simp
 rw [hw1]
 have hB3 : Bx3 d w.heap.size n (.slice A l.length c) (w1.alloc (.cells #[.slice A l.length c] 55)) := ⟨hB.new (Kp.alloc _ _ _), by have := Bx.new_ w1 55 (.slice A l.length c); rwa [z1] at this⟩
 have n2 : New w (w1.alloc (.cells #[.slice A l.length c] 55)) := n1.trans (Kp.alloc _ _ _) fid fid
 refine (changing_calls (w1.alloc (.cells #[.slice A l.length c] 55)) d s F (HD.out.new n2) 149 151 (Go.Proofs.enters_of Tryz.func149 (by kernel_rfl) rfl) (Go.Proofs.enters_of Tryz.func151 (by kernel_rfl) rfl) _ _ (fun w' => Bx3 d w.heap.size n (.slice A l.length c) w' ∧ RdB w' A l) ⟨hB3, HL.out.1.new n2⟩ (fun _ _ h k => ⟨h.1.new k, h.2.new k⟩) (fun _ _ h k => ⟨h.1.kd k, h.2.kp k (fun j hb e => HL.out.2 j hb e)⟩) (appErr s n l.length) (fun s => { s with files := updF n (appF l) s.files })
  (fun w hB hD => ?_) (fun h0 _ w fuse hB hD => ?_)).mono ?_
 ·exact Append1_calls w d _ s F n A _ c hB.1 hD hn hb
 ·unfold appErr at h0
  have ht : s.there n = 0 := by
   by_cases h : s.there n = 0
   ·exact h
   ·rw [if_pos h] at h0; exact absurd h0 h
  rw [if_neg (fun h => h ht)] at h0
  have hfit : s.used + l.length ≤ s.cap := by
   by_cases h : s.cap < s.used + l.length
   ·rw [if_pos h] at h0; cases h0
   ·omega
  obtain ⟨_, f, hf⟩ := there_zero ht
  exact Append2_calls w d _ { s with fuse := fuse } F n f A _ c l hB.1 hD hf hB.2 rfl hfit (fun k hk => HD.out.lt k hk)
 ·rintro e w2 ⟨rfl, F', h1, h2⟩
  have HE := Lib.hid (And.intro h1 (And.intro h2 n2))
  clear h1 h2 n1 n2 hB hB3 hw1
  go_wp2_with fail
  go_ret
  exact ⟨rfl, F', HE.out.1, (Mv.of_new HE.out.2.2).trans HE.out.2.1⟩
end Go.Proofs.YtekcoeonlfmebaaGreatDoor.Kit
