/- 1 texts in one: daybookref03: Read. -/
import Derived.Test.YtekcoeonlfmebaaGreatDoorM30
namespace Go.Proofs.YtekcoeonlfmebaaGreatDoor.Kit
open Go Go.RowKit
set_option maxRecDepth 100000 in
set_option maxHeartbeats 4000000 in
theorem RRead_calls (w : World) (r : Nat) (s : DS) (F : List Nat) (n : Nm) (at_ m : Int) (h : RefAt w r s F) (hn : n.length ≤ 9223372036854775807) (ha1 : -9223372036854775808 ≤ at_) (ha2 : at_ ≤ 9223372036854775807) :
  Calls Tryz.prog 113 #[.pointer (some ⟨r, 0, none⟩), .string (bstr n), .int .i64 at_, .int .i64 m] w (ReadPost w (s.read n at_ m)) := by
 obtain ⟨A, c, ys, hX, rfl⟩ := h
 have c1 : w.cell? ⟨r, 1, none⟩ = some (.slice A ys.length c) := (cell_of_block hX.blk).trans rfl
 have c3 : w.cell? ⟨r, 3, none⟩ = some (.bool s.down) := (cell_of_block hX.blk).trans rfl
 have HX := Lib.hid hX
 clear hX
 cases hdn : s.down with
 | true =>
  have hr : s.read n at_ m = ([], 34) := by unfold DS.read; rw [if_pos hdn]
  rw [hr]
  rw [hdn] at c3
  clear hr hdn
  go_enter Tryz.func113, Tryz.ntmps113
  go_wp2_with fail
  go_ret2
  exact ⟨_, _, _, rfl, NewBytes.none_ _ _ (Kp.refl _ _)⟩
 | false =>
  rw [hdn] at c3
  by_cases ht : s.there n = 0
  ·obtain ⟨_, fl, hf⟩ := there_zero ht
   have hle := used_at' HX.out.ok hf
   have hus := HX.out.ok.used
   have hcap := HX.out.ok.cap
   obtain ⟨i, y, hy, hyf, hyn, hz⟩ := HX.out.place hf
   have hpz : placeZ s n = (i : Int) := by unfold placeZ; rw [if_pos ht]; exact hz
   subst hyf
   have hr : s.read n at_ m = if at_ < 0 ∨ m < 0 ∨ (y.f.data.length : Int) < at_ ∨ (y.f.data.length : Int) - at_ < m then ([], 1) else ((y.f.data.drop at_.toNat).take m.toNat, 0) := by unfold DS.read; rw [if_neg (by rw [hdn]; simp), if_neg (fun h => h ht), hf]; rfl
   rw [hr]
   obtain ⟨g, rfl, r0, r1, r2, rf⟩ := HX.out.own.at_ hy
   have hil : i < ys.length := (List.getElem?_eq_some_iff.1 hy).1
   have hi0 : (0 : Int) ≤ i := by omega
   have hin : (i : Int) < (ys.length : Int) := by omega
   have hyo := HX.out.one (List.mem_of_getElem? hy)
   have hcc := hyo.cap
   have HF := Lib.hid (And.intro ht (And.intro hpz hyo))
   clear hr hdn hf ht hy hyn hz hpz r0 r2 rf hyo
   by_cases hbad : at_ < 0 ∨ m < 0 ∨ (y.f.data.length : Int) < at_ ∨ (y.f.data.length : Int) - at_ < m
   ·rw [if_pos hbad]
    by_cases q1 : at_ < 0
    ·clear hbad
     go_enter Tryz.func113, Tryz.ntmps113
     go_wp2_with fail
     refine (RThere_calls w r c s (some ⟨g, 0, none⟩) ys n HX.out hn).mono ?_
     rintro e x ⟨rfl, rfl⟩
     rw [HF.out.1, HF.out.2.1]
     go_wp2_with fail
     go_ret2
     exact ⟨_, _, _, rfl, NewBytes.none_ _ _ (Kp.refl _ _)⟩
    ·by_cases q2 : m < 0
     ·clear hbad
      go_enter Tryz.func113, Tryz.ntmps113
      go_wp2_with fail
      refine (RThere_calls w r c s (some ⟨g, 0, none⟩) ys n HX.out hn).mono ?_
      rintro e x ⟨rfl, rfl⟩
      rw [HF.out.1, HF.out.2.1]
      go_wp2_with fail
      go_ret2
      exact ⟨_, _, _, rfl, NewBytes.none_ _ _ (Kp.refl _ _)⟩
     ·by_cases q3 : (y.f.data.length : Int) < at_
      ·clear hbad
       go_enter Tryz.func113, Tryz.ntmps113
       go_wp2_with fail
       refine (RThere_calls w r c s (some ⟨g, 0, none⟩) ys n HX.out hn).mono ?_
       rintro e x ⟨rfl, rfl⟩
       rw [HF.out.1, HF.out.2.1]
       go_wp2_with fail
       go_ret2
       exact ⟨_, _, _, rfl, NewBytes.none_ _ _ (Kp.refl _ _)⟩
      ·have q4 : (y.f.data.length : Int) - at_ < m := hbad.elim (fun h => absurd h q1) (fun h => h.elim (fun h => absurd h q2) (fun h => h.elim (fun h => absurd h q3) id))
       clear hbad
       go_enter Tryz.func113, Tryz.ntmps113
       go_wp2_with fail
       refine (RThere_calls w r c s (some ⟨g, 0, none⟩) ys n HX.out hn).mono ?_
       rintro e x ⟨rfl, rfl⟩
       rw [HF.out.1, HF.out.2.1]
       go_wp2_with fail
       go_ret2
       exact ⟨_, _, _, rfl, NewBytes.none_ _ _ (Kp.refl _ _)⟩
   ·rw [if_neg hbad]
    obtain ⟨a, rfl⟩ : ∃ a : Nat, at_ = a := ⟨at_.toNat, by omega⟩
    obtain ⟨k, rfl⟩ : ∃ k : Nat, m = k := ⟨m.toNat, by omega⟩
    have q3 : ¬ (y.f.data.length : Int) < a := by omega
    have q4 : ¬ (y.f.data.length : Int) - a < k := by omega
    rw [Int.toNat_natCast, Int.toNat_natCast]
    clear hbad ha1 ha2
    have hs : ∀ w, (Instr.slice 55 (.slice y.A y.f.data.length y.c) (some (.int .i64 (a : Int))) (some (.int .i64 ((a : Int) + (k : Int)))) none).run Tryz.prog w = .ok (.slice (adv y.A y.c a 1) k (y.c - a)) w := fun w => by
     have := run_slice_mid (P := Tryz.prog) 55 5 Tryz.underlying55 1 Tryz.size_u8 y.A y.f.data.length y.c a (a + k) (by omega) (by omega) w
     rw [show a + k - a = k by omega] at this
     exact this
    have hrd : RdB w (adv y.A y.c a 1) ((y.f.data.drop a).take k) := by
     have := HF.out.2.2.rd.adv y.c a (a + k) (by omega) (by omega)
     rwa [show a + k - a = k by omega] at this
    have hkl : ((y.f.data.drop a).take k).length = k := by rw [List.length_take, List.length_drop]; omega
    obtain ⟨l, hl⟩ : ∃ l, l = (y.f.data.drop a).take k := ⟨_, rfl⟩
    rw [← hl] at hrd hkl ⊢
    have HR := Lib.hid (And.intro hrd hkl)
    clear hrd hl hkl
    go_enter Tryz.func113, Tryz.ntmps113
    go_wp2_with fail
    refine (RThere_calls w r c s (some ⟨g, 0, none⟩) ys n HX.out hn).mono ?_
    rintro e x ⟨rfl, rfl⟩
    rw [HF.out.1, HF.out.2.1]
    go_wp2_with (at_builtin; refine wpList_append_src _ rfl (.tmp 56) (.tmp 62) 55 55 rfl 5 (.int .u8 0) 1 1 Tryz.underlying55 Tryz.info_u8 rfl (some ⟨w.heap.size, 0, none⟩) 0 0 [] rfl (Own.bare w _ _) _ rfl k (bcs l) (HR.out.2 ▸ Src.ofRdB _ Tryz.underlying55 (y.c - a) (HR.out.1.new (Kp.alloc _ _ _))) (by omega) (by omega) ?_; intro A2 c2 w3 q5 q6 q7; have H3 := Lib.hid (And.intro q5 (And.intro q6 q7)); clear q5 q6 q7)
    go_ret2
    have h3 : New w w3 := (Kp.alloc (Bk (some ⟨w.heap.size, 0, none⟩)) w (.cells #[] 5)).trans H3.out.2.1 fid fid |>.trans (Kp.refl (fun _ => False) _) (fun j hj h => by have := Bk.some_.1 h; simp at this; omega) (fun _ _ h => h.elim)
    exact ⟨A2, k, c2, rfl, HR.out.2.symm, by simpa using H3.out.1, h3, fun j hj => (H3.out.2.2 j hj).elim (fun h => by have := Bk.some_.1 h; simp at this; omega) (fun h => by rw [h]; simp)⟩
  ·have hr : s.read n at_ m = ([], s.there n) := by unfold DS.read; rw [if_neg (by rw [hdn]; simp), if_pos ht]
   rw [hr]
   have hne : ((s.there n : Int) != 0) = true := by rw [bne_iff_ne]; omega
   clear hr hdn ht
   go_enter Tryz.func113, Tryz.ntmps113
   go_wp2_with fail
   refine (RThere_calls w r c s A ys n HX.out hn).mono ?_
   rintro e x ⟨rfl, rfl⟩
   generalize placeZ s n = pz
   go_wp2_with fail
   go_ret2
   exact ⟨_, _, _, rfl, NewBytes.none_ _ _ (Kp.refl _ _)⟩
end Go.Proofs.YtekcoeonlfmebaaGreatDoor.Kit
