/- 1 texts in one: disk.changing: what a changing call does round its own work. -/
import Derived.Test.YtekcoeonlfmebaaGreatDoorM14
namespace Go.Proofs.YtekcoeonlfmebaaGreatDoor.Kit
open Go Go.RowKit
def ChangePost (d : Nat) (F : List Nat) (w : World) (r : Nat × DS) (e : Ending) (w' : World) : Prop := e = .returned (.int .i64 (r.1 : Int)) ∧ ∃ F', DiskAt w' d r.2 F' ∧ Mv F F' w w'
theorem DiskAt.setD {w : World} {d bm : Nat} {s s' : DS} {xs : List FE} (h : DiskX w d s bm xs) (w' : World) (hb : w'.heap[d]? = some (.cells (dcells s' bm) 85 (0, 0))) (hk : Kp (fun k => k = d) w w') (hf : s'.files = s.files) (hok : s'.Ok) : DiskX w' d s' bm xs := by
 have hd : ∀ k ∈ bm :: xs.flatMap FE.blk, k ≠ d := fun k hk e => by
  have := List.nodup_cons.1 h.own
  exact this.1 (e ▸ hk)
 have hkk : ∀ k ∈ bm :: xs.flatMap FE.blk, w'.heap[k]? = w.heap[k]? := fun k hm => hk.block k (h.lt k (List.mem_cons_of_mem _ hm)) (hd k hm)
 have hm2 : ∀ {x : FE} {k : Nat}, x ∈ xs → k ∈ x.blk → k ∈ bm :: xs.flatMap FE.blk := fun hx hk => List.mem_cons_of_mem _ (List.mem_flatMap.2 ⟨_, hx, hk⟩)
 refine ⟨hb, h.map.keep (hkk bm List.mem_cons_self), fun x hx => ⟨(hkk x.b (hm2 hx List.mem_cons_self)).trans (h.file x hx).1, (h.file x hx).2.keep fun k hb => hkk k (hm2 hx (List.mem_cons_of_mem _ (mem_bks.2 hb)))⟩, h.own, hf ▸ h.perm, hok⟩
set_option maxHeartbeats 2000000 in
theorem changing_calls (w : World) (d : Nat) (s : DS) (F : List Nat) (hD : DiskAt w d s F) (fl fd : Nat) (hel : ∀ args w, (callFunc fl args).run Tryz.prog w = .ok (.enter fl args) w) (hed : ∀ args w, (callFunc fd args).run Tryz.prog w = .ok (.enter fd args) w) (cl cd : Array Value) (R : World → Prop) (hR : R w) (hRn : ∀ w w', R w → New w w' → R w') (hRd : ∀ w w', R w → Kp (fun k => k = d) w w' → R w') (e0 : Nat) (h : DS → DS)
  (HL : ∀ w, R w → DiskAt w d s F → Calls Tryz.prog fl cl w fun e w' => e = .returned (.int .i64 (e0 : Int)) ∧ New w w')
  (HDo : e0 = 0 → s.down = false → ∀ w fuse, R w → DiskAt w d { s with fuse := fuse } F → Calls Tryz.prog fd cd w fun e w' => e = .returned (.tuple #[]) ∧ ∃ F', DiskAt w' d (h { s with fuse := fuse }) F' ∧ Mv F F' w w') :
  Calls Tryz.prog 145 #[.pointer (some ⟨d, 0, none⟩), .func (.func fl) #[] cl, .func (.func fd) #[] cd] w (ChangePost d F w (s.change e0 h)) := by
 have HD := Lib.hid hD
 have HR := Lib.hid hR
 have HN := Lib.hid (And.intro hRn hRd)
 have HL' := Lib.hid HL
 have HDo' := Lib.hid HDo
 obtain ⟨bm, hb⟩ := hD.cells
 have f4 : w.cell? ⟨d, 4, none⟩ = some (.bool s.down) := (cell_of_block hb).trans rfl
 clear hR hRn hRd HL HDo hb hD
 cases hdn : s.down with
 | true =>
  have hc : s.change e0 h = (34, s) := by unfold DS.change; rw [if_pos hdn]
  rw [hc]
  rw [hdn] at f4
  clear hc hdn
  go_enter Tryz.func145, Tryz.ntmps145
  go_wp2_with fail
  go_ret
  exact ⟨rfl, F, HD.out, Mv.refl _ _⟩
 | false =>
  rw [hdn] at f4
  by_cases he : e0 = 0
  ·subst he
   by_cases hf : s.fuse = 0
   ·have hc : s.change 0 h = (34, { s with down := true, fuse := -1 }) := by unfold DS.change; rw [if_neg (by rw [hdn]; simp), if_neg (by simp), if_pos hf]
    rw [hc]
    have HF := Lib.hid (And.intro hdn hf)
    clear hc hdn hf
    go_enter Tryz.func145, Tryz.ntmps145
    go_wp2_with fail
    refine (HL'.out w HR.out HD.out).mono ?_
    rintro e w1 ⟨rfl, hn⟩
    obtain ⟨bm, xs, hX, rfl⟩ := HD.out.new hn
    have g0 : w1.heap[d]? = some (.cells (dcells s bm) 85 (0, 0)) := hX.blk
    have f3 : w1.cell? ⟨d, 3, none⟩ = some (.int .i64 0) := (cell_of_block g0).trans (by rw [← HF.out.2]; rfl)
    have f4 : w1.cell? ⟨d, 4, none⟩ = some (.bool false) := (cell_of_block g0).trans (by rw [← HF.out.1]; rfl)
    have z3 : w1.frozen? ⟨d, 3, none⟩ = false := by simp [World.frozen?, g0]
    have z4 : w1.frozen? ⟨d, 4, none⟩ = false := by simp [World.frozen?, g0]
    have HX := Lib.hid (And.intro hX (And.intro hn g0))
    clear hn hX g0
    go_wp2_with fail
    go_ret
    have g1 := heap_setCell_row (j := 4) HX.out.2.2 (.bool true)
    have g2 := heap_setCell_row (j := 3) g1 (.int .i64 (-1))
    have k2 : Kp (fun k => k = d) w1 ((w1.setCell ⟨d, 4, none⟩ (.bool true)).setCell ⟨d, 3, none⟩ (.int .i64 (-1))) := (Kp.setCell (S := fun k => k = d) w1 ⟨d, 4, none⟩ _ rfl).trans (Kp.setCell (S := fun k => k = d) _ ⟨d, 3, none⟩ _ rfl) fid fid
    have ok := HX.out.1.ok
    have hX2 : DiskX _ d { s with down := true, fuse := -1 } bm xs := DiskAt.setD HX.out.1 _ g2 k2 rfl ⟨ok.cap, ok.used, ok.few, ok.rise, ok.good, ok.syn, ⟨by simp, by simp⟩, fun _ => rfl⟩
    exact ⟨rfl, _, ⟨bm, xs, hX2, rfl⟩, (Mv.of_new HX.out.2.1).trans ⟨k2.mono (fun _ _ e => e ▸ mem_fpD.2 (.inl rfl)), fun _ h => .inl h⟩⟩
   ·have hc : s.change 0 h = (0, h { s with fuse := if 0 < s.fuse then s.fuse - 1 else s.fuse }) := by unfold DS.change; rw [if_neg (by rw [hdn]; simp), if_neg (by simp), if_neg hf]
    rw [hc]
    have hbd := HD.out.ok.fuse
    have hfe : (s.fuse == 0) = false := by rw [beq_eq_false_iff_ne]; exact hf
    have HF := Lib.hid hdn
    have H0 := Lib.hid hf
    clear hc hdn hf
    by_cases hp : 0 < s.fuse
    ·rw [if_pos hp]
     go_enter Tryz.func145, Tryz.ntmps145
     go_wp2_with fail
     refine (HL'.out w HR.out HD.out).mono ?_
     rintro e w1 ⟨rfl, hn⟩
     obtain ⟨bm, xs, hX, hF⟩ := HD.out.new hn
     have g0 : w1.heap[d]? = some (.cells (dcells s bm) 85 (0, 0)) := hX.blk
     have f3 : w1.cell? ⟨d, 3, none⟩ = some (.int .i64 s.fuse) := (cell_of_block g0).trans rfl
     have z3 : w1.frozen? ⟨d, 3, none⟩ = false := by simp [World.frozen?, g0]
     have HX := Lib.hid (And.intro hX (And.intro hn (And.intro g0 hF)))
     clear hn hX g0 hF
     go_wp2_with fail
     have g1 := heap_setCell_row (j := 3) HX.out.2.2.1 (.int .i64 (s.fuse - 1))
     have k1 : Kp (fun k => k = d) w1 (w1.setCell ⟨d, 3, none⟩ (.int .i64 (s.fuse - 1))) := Kp.setCell w1 ⟨d, 3, none⟩ _ rfl
     have ok := HX.out.1.ok
     have hX2 : DiskX _ d { s with fuse := s.fuse - 1 } bm xs := DiskAt.setD HX.out.1 _ g1 k1 rfl ⟨ok.cap, ok.used, ok.few, ok.rise, ok.good, ok.syn, ⟨by simp; omega, by simp; omega⟩, fun h => by rw [HF.out] at h; cases h⟩
     have hD2 : DiskAt (w1.setCell ⟨d, 3, none⟩ (.int .i64 (s.fuse - 1))) d { s with fuse := s.fuse - 1 } F := ⟨bm, xs, hX2, HX.out.2.2.2⟩
     refine (HDo'.out trivial HF.out _ _ (HN.out.2 _ _ (HN.out.1 _ _ HR.out HX.out.2.1) k1) hD2).mono ?_
     rintro e w2 ⟨rfl, F', hF', hmv⟩
     have HE := Lib.hid (And.intro hF' (And.intro hmv (And.intro k1 hD2)))
     clear hF' hmv k1 hD2 g1 hX2 ok
     go_wp2_with fail
     go_ret
     exact ⟨rfl, F', HE.out.1, ((Mv.of_new HX.out.2.1).trans ⟨HE.out.2.2.1.mono (fun _ _ e => e ▸ HE.out.2.2.2.mem), fun _ h => .inl h⟩).trans HE.out.2.1⟩
    ·rw [if_neg hp]
     have hpe : decide (0 < s.fuse) = false := decide_eq_false hp
     go_enter Tryz.func145, Tryz.ntmps145
     go_wp2_with fail
     refine (HL'.out w HR.out HD.out).mono ?_
     rintro e w1 ⟨rfl, hn⟩
     obtain ⟨bm, hb⟩ := (HD.out.new hn).cells
     have f3 : w1.cell? ⟨d, 3, none⟩ = some (.int .i64 s.fuse) := (cell_of_block hb).trans rfl
     have HX := Lib.hid hn
     clear hn hb
     go_wp2_with fail
     refine (HDo'.out trivial HF.out _ _ (HN.out.1 _ _ HR.out HX.out) (HD.out.new HX.out)).mono ?_
     rintro e w2 ⟨rfl, F', hF', hmv⟩
     have HE := Lib.hid (And.intro hF' hmv)
     clear hF' hmv
     go_wp2_with fail
     go_ret
     exact ⟨rfl, F', HE.out.1, (Mv.of_new HX.out).trans HE.out.2⟩
  ·have hc : s.change e0 h = (e0, s) := by unfold DS.change; rw [if_neg (by rw [hdn]; simp), if_pos he]
   rw [hc]
   have hne : ((e0 : Int) == 0) = false := by rw [beq_eq_false_iff_ne]; omega
   have hne2 : ((e0 : Int) != 0) = true := by rw [bne_iff_ne]; omega
   have HF := Lib.hid hdn
   clear hc hdn he
   go_enter Tryz.func145, Tryz.ntmps145
   go_wp2_with fail
   refine (HL'.out w HR.out HD.out).mono ?_
   rintro e w1 ⟨rfl, hn⟩
   have HX := Lib.hid hn
   clear hn
   go_wp2_with fail
   go_ret
   exact ⟨rfl, F, HD.out.new HX.out, Mv.of_new HX.out⟩
end Go.Proofs.YtekcoeonlfmebaaGreatDoor.Kit
