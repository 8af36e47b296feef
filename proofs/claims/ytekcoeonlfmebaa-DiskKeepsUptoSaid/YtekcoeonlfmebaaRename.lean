/- disk.Rename: another name for a file; what had it is gone. -/
import Derived.Test.YtekcoeonlfmebaaRenameO
namespace Go.Proofs.Ytekcoeonlfmebaa.Kit
open Go Go.RowKit

/-- The boxes of a call's disk and two names. -/
def BxR (d B : Nat) (a b : Nm) (w : World) : Prop := Bx2 d B a w ∧ Bx w (B + 1 + 1) 9 (.string (bstr b))
theorem BxR.new {d B : Nat} {a b : Nm} {w w' : World} (h : BxR d B a b w) (hk : New w w') : BxR d B a b w' := ⟨h.1.new hk, h.2.kp hk id⟩
theorem BxR.kd {d B : Nat} {a b : Nm} {w w' : World} (h : BxR d B a b w) (hk : Kp (fun k => k = d) w w') : BxR d B a b w' := ⟨h.1.kd hk, h.2.kp hk (fun e => by have := h.1.1; omega)⟩
def renErr (s : DS) (a b : Nm) : Nat := if goodN b = true then s.there a else 32

set_option maxHeartbeats 1000000 in
theorem Rename1_calls (w : World) (d B : Nat) (s : DS) (F : List Nat) (a b : Nm) (hB : BxR d B a b w) (hD : DiskAt w d s F) (ha : a.length ≤ 9223372036854775807) (hb : b.length ≤ 9223372036854775807) :
    Calls Try.prog 47 #[.pointer (some ⟨B + 1 + 1, 0, none⟩), .pointer (some ⟨B, 0, none⟩), .pointer (some ⟨B + 1, 0, none⟩)] w fun e w' => e = .returned (.int .i64 (renErr s a b : Int)) ∧ New w w' := by
  have c2 := hB.2.cell
  have HB := Lib.hid hB
  have HD := Lib.hid hD
  clear hB hD
  by_cases hg : goodN b = true
  · have hr : renErr s a b = s.there a := by unfold renErr; rw [if_pos hg]
    rw [hr]
    clear hr
    go_enter Try.func47, Try.ntmps47
    go_wp2_with fail
    refine (good_calls w b hb).mono ?_
    rintro e w1 ⟨rfl, hn1⟩
    rw [hg]
    have d0 := (HB.out.new hn1).1.2.1.cell
    have d1 := (HB.out.new hn1).1.2.2.cell
    have HN := Lib.hid hn1
    clear hn1 hg
    go_wp2_with fail
    refine (there_calls w1 d s F a (HD.out.new HN.out) ha).mono ?_
    rintro e w2 ⟨rfl, hn2⟩
    have HM := Lib.hid hn2
    clear hn2
    go_wp2_with fail
    go_ret
    exact ⟨rfl, HN.out.trans HM.out (fun _ _ h => h) (fun _ _ h => h)⟩
  · have hr : renErr s a b = 32 := by unfold renErr; rw [if_neg hg]
    rw [hr]
    have hg' : goodN b = false := by simpa using hg
    clear hr hg
    go_enter Try.func47, Try.ntmps47
    go_wp2_with fail
    refine (good_calls w b hb).mono ?_
    rintro e w1 ⟨rfl, hn1⟩
    rw [hg']
    have HN := Lib.hid hn1
    clear hn1 hg'
    go_wp2_with fail
    go_ret
    exact ⟨rfl, HN.out⟩

theorem bstr_ne {a b : Nm} (h : a ≠ b) : ((bstr a).toList == (bstr b).toList) = false := by
  rw [bstr_beq]
  exact decide_eq_false h

/-- The end of Rename's work: the map's two writes. -/
def RenameEnd (d bm : Nat) (s : DS) (l1 l2 : List FE) (x : FE) (b : Nm) (w : World) (e : Ending) (w' : World) : Prop := e = .returned (.tuple #[]) ∧ ∃ F', DiskAt w' d { s with files := moved x.f.name b s.files } F' ∧ Mv (fpD d bm (l1 ++ x :: l2)) F' w w'

set_option maxRecDepth 100000 in
set_option maxHeartbeats 8000000 in
theorem Rename2_calls (w : World) (d B : Nat) (s : DS) (F : List Nat) (a b : Nm) (f : Fl) (hB : BxR d B a b w) (hD : DiskAt w d s F) (hf : s.find a = some f) (hg : goodN b = true) (hFB : ∀ k ∈ F, k < B) :
    Calls Try.prog 48 #[.pointer (some ⟨B + 1, 0, none⟩), .pointer (some ⟨B + 1 + 1, 0, none⟩), .pointer (some ⟨B, 0, none⟩)] w fun e w' => e = .returned (.tuple #[]) ∧ ∃ F', DiskAt w' d { s with files := moved a b s.files } F' ∧ Mv F F' w w' := by
  have c0 := hB.1.2.1.cell
  have c1 := hB.1.2.2.cell
  have c2 := hB.2.cell
  by_cases hab : a = b
  · subst hab
    have HD := Lib.hid hD
    clear hB hD hf hg hFB
    go_enter Try.func48, Try.ntmps48
    go_wp2_with fail
    refine bodyPost_ret (results_none rfl _ _ _) rfl ?_
    refine ⟨rfl, F, ?_, Mv.refl _ _⟩
    have : moved a a s.files = s.files := by unfold moved; rw [if_pos rfl]
    rw [this]
    exact HD.out
  · have hq := bstr_ne hab
    obtain ⟨bm, xs, hX, rfl⟩ := hD
    obtain ⟨x, l1, l2, rfl, rfl, rfl, hat⟩ := hX.look_some hf
    have c3 : w.cell? ⟨d, 2, none⟩ = some (.map (some bm)) := (cell_of_block hX.blk).trans rfl
    have hum := used_moved hX.ok hf hab
    have hus := hX.ok.used
    have hcap := hX.ok.cap
    have hmo : Try.prog.follows Departure.mixedOrders = true := by kernel_rfl
    cases hfb : s.find b with
    | none =>
      have hatb : at? ((l1 ++ x :: l2).map FE.ent) b = none := by
        rcases hX.look b with ⟨_, h⟩ | ⟨y, m1, m2, _, _, h3, _⟩
        · exact h
        · rw [hfb] at h3; cases h3
      have hlk : ∀ j, (Instr.lookup 67 (.map (some bm)) (.string (bstr b)) false).run Try.prog (w.drewN j) = .ok (.pointer none) (w.drewN j) := fun j => by rw [run_look_at (hX.map.drewN j) b, hatb]; rfl
      rw [hfb] at hum
      have H := Lib.hid (And.intro hX (And.intro hf (And.intro hat (And.intro hB (And.intro hum (And.intro hFB (And.intro hg hab)))))))
      clear hX hf hat hB hum hFB hg hab hatb hfb
      go_enter Try.func48, Try.ntmps48
      go_wp2_with fail
      go_quiet (fail)
      go_wp2_with fail
      have e0 : (w.drewN nq).cell? ⟨B, 0, none⟩ = some (.pointer (some ⟨d, 0, none⟩)) := by simpa using c0
      have e1 : (w.drewN nq).cell? ⟨B + 1, 0, none⟩ = some (.string (bstr x.f.name)) := by simpa using c1
      have e2 : (w.drewN nq).cell? ⟨B + 1 + 1, 0, none⟩ = some (.string (bstr b)) := by simpa using c2
      have e3 : (w.drewN nq).cell? ⟨d, 2, none⟩ = some (.map (some bm)) := by simpa using c3
      have HE := Lib.hid (And.intro (show Kp (fun k => k = d) w (w.drewN nq) from Kp.drewN _ _ _) (And.intro (show (w.drewN nq).heap[d]? = some (.cells (dcells s bm) 69 (0, 0)) from H.out.1.blk) (And.intro (H.out.1.map.drewN nq) (show (Instr.lookup 67 (.map (some bm)) (.string (bstr x.f.name)) false).run Try.prog (w.drewN nq).drew = .ok (.pointer (some ⟨x.b, 0, none⟩)) (w.drewN nq).drew by rw [run_look_at (H.out.1.map.keep (w' := (w.drewN nq).drew) rfl) x.f.name, H.out.2.2.1]; rfl))))
      generalize w.drewN nq = W at *
      refine wp_region_line (fun w' => w'.cell? ⟨B, 0, none⟩ = some (.pointer (some ⟨d, 0, none⟩)) ∧ w'.cell? ⟨B + 1, 0, none⟩ = some (.string (bstr x.f.name)) ∧ w'.cell? ⟨B + 1 + 1, 0, none⟩ = some (.string (bstr b)) ∧ w'.cell? ⟨d, 2, none⟩ = some (.map (some bm)) ∧ (Instr.lookup 67 (.map (some bm)) (.string (bstr x.f.name)) false).run Try.prog w' = .ok (.pointer (some ⟨x.b, 0, none⟩)) w')
        (pl := [(0, true), (1, true), (2, true), (3, true), (4, true), (5, true), (6, true), (7, true), (8, true), (9, true), (10, true), (11, false)]) hmo (by kernel_rfl) ⟨by simpa using e0, by simpa using e1, by simpa using e2, by simpa using e3, HE.out.2.2.2⟩ ?_
      iterate 11 (refine line_get rfl rfl (fun K hK => ?_); apply Exists.intro; refine ⟨fun w hS => ?_, ?_⟩; (first | (have hS' := hS rfl; go_simp; with_reducible rfl) | (go_simp; with_reducible rfl)); (go_simp; refine hK _ ?_; clear hK K))
      refine line_do rfl rfl (fun K hK => ?_)
      refine wp_mapput 67 (.tmp 30) (.tmp 31) (.tmp 37) rfl 9 71 Try.underlying67 Try.underlying9 bm ((l1 ++ x :: l2).map FE.ent) rfl (HE.out.2.2.1.keep rfl) b rfl (.pointer (some ⟨x.b, 0, none⟩)) rfl ?_
      intro w2 hm2 hk2
      refine hK _ _ (no_need (by kernel_rfl)) ?_
      clear hK K
      refine line_nil ?_
      have m3 := H.out.1.blk_ne.2.2
      have hbF := H.out.2.2.2.2.2.1
      have hbB : bm < B := hbF bm (mem_fpD.2 (.inr (.inl rfl)))
      have k2 : Kp (fun k => k = d ∨ k = bm) w w2 := (HE.out.1.trans (Kp.drew (fun k => k = d) _) (fun _ _ h => h) (fun _ _ h => h)).trans hk2 (fun _ _ h => .inl h) (fun _ _ h => .inr h)
      have hB2 : BxR d B x.f.name b w2 := by
        have hdB := H.out.2.2.2.1.1.1
        have h1 := H.out.2.2.2.1
        exact ⟨⟨hdB, h1.1.2.1.kp k2 (fun h => h.elim (fun e => by omega) (fun e => by omega)), h1.1.2.2.kp k2 (fun h => h.elim (fun e => by omega) (fun e => by omega))⟩, h1.2.kp k2 (fun h => h.elim (fun e => by omega) (fun e => by omega))⟩
      have g0 := hB2.1.2.1.cell
      have g1 := hB2.1.2.2.cell
      have hbk := (hk2.block d (by have := (Array.getElem?_eq_some_iff.1 HE.out.2.1).1; exact this) m3).trans HE.out.2.1
      have g3 : w2.cell? ⟨d, 2, none⟩ = some (.map (some bm)) := (cell_of_block hbk).trans rfl
      have HG := Lib.hid (And.intro k2 (And.intro hm2 hbk))
      clear e0 e1 e2 e3 hm2 hk2 hB2 hbk k2 m3 hbF hbB
      go_wp2_with fail
      refine wp_region_line (fun w' => w'.cell? ⟨B, 0, none⟩ = some (.pointer (some ⟨d, 0, none⟩)) ∧ w'.cell? ⟨B + 1, 0, none⟩ = some (.string (bstr x.f.name)) ∧ w'.cell? ⟨d, 2, none⟩ = some (.map (some bm))) (pl := [(0, true), (1, true), (2, true), (3, true), (4, true), (5, false)]) hmo (by kernel_rfl) ⟨by simpa using g0, by simpa using g1, by simpa using g3⟩ ?_
      iterate 5 (refine line_get rfl rfl (fun K hK => ?_); apply Exists.intro; refine ⟨fun w hS => ?_, ?_⟩; (first | (have hS' := hS rfl; go_simp; with_reducible rfl) | (go_simp; with_reducible rfl)); (go_simp; refine hK _ ?_; clear hK K))
      refine line_do rfl rfl (fun K hK => ?_)
      refine wp_mapdel 67 9 (.tmp 41) (.tmp 42) rfl 71 Try.underlying67 Try.underlying9 bm (put ((l1 ++ x :: l2).map FE.ent) b x.ptr) rfl (HG.out.2.1.keep rfl) x.f.name rfl ?_
      intro w3 hm3 hk3
      refine hK _ _ (no_need (by kernel_rfl)) ?_
      clear hK K
      refine line_nil ?_
      go_end0
      have m3 := H.out.1.blk_ne.2.2
      have k3 : Kp (fun k => k = d ∨ k = bm) w w3 := (HG.out.1.trans (Kp.drew (fun _ => False) _) (fun _ _ h => h) (fun _ _ h => h.elim)).trans hk3 (fun _ _ h => h) (fun _ _ h => .inr h)
      refine ⟨rfl, H.out.1.move H.out.2.2.2.2.2.2.2 k3 (fun _ h => h) ((hk3.block d ?_ m3).trans (HG.out.2.2.trans ?_)) hm3 rfl (H.out.1.ok.moved _ _ H.out.2.2.2.2.2.2.1)⟩
      · exact (Array.getElem?_eq_some_iff.1 HG.out.2.2).1
      · have h1 := H.out.2.2.2.2.1
        simp only [Option.map_none, Option.getD_none] at h1
        have e : s.used = usedF (moved x.f.name b s.files) := by omega
        unfold dcells
        rw [e]
        rfl
    | some g =>
      obtain ⟨y, p1, p2, hpp, rfl, hyb, hatb⟩ := hX.look_some hfb
      have hlk : ∀ j, (Instr.lookup 67 (.map (some bm)) (.string (bstr b)) false).run Try.prog (w.drewN j) = .ok (.pointer (some ⟨y.b, 0, none⟩)) (w.drewN j) := fun j => by rw [run_look_at (hX.map.drewN j) b, hatb]; rfl
      have hyf := (hX.file y (hpp ▸ List.mem_append_right _ List.mem_cons_self)).1
      have f0 : w.cell? ⟨y.b, 0, none⟩ = some (.slice y.A y.f.data.length y.c) := (cell_of_block hyf).trans rfl
      have c4 : w.cell? ⟨d, 1, none⟩ = some (.int .i64 (s.used : Int)) := (cell_of_block hX.blk).trans rfl
      have z4 : w.frozen? ⟨d, 1, none⟩ = false := by simp [World.frozen?, hX.blk]
      have hyl := used_at' hX.ok hfb
      rw [hfb] at hum
      have H := Lib.hid (And.intro hX (And.intro hf (And.intro hat (And.intro hB (And.intro hum (And.intro hFB (And.intro hg hab)))))))
      clear hX hf hat hB hum hFB hg hab hatb hfb hpp hyf
      have hw : IntKind.i64.wrap ((s.used : Int) - (y.f.data.length : Int)) = (s.used : Int) - (y.f.data.length : Int) := by rw [IntKind.wrap_i64]; omega
      go_enter Try.func48, Try.ntmps48
      go_wp2_with fail
      go_quiet (fail)
      go_wp2_with fail
      refine wp_region_line (fun w' => w'.cell? ⟨B, 0, none⟩ = some (.pointer (some ⟨d, 0, none⟩)) ∧ w'.cell? ⟨d, 1, none⟩ = some (.int .i64 (s.used : Int)) ∧ w'.cell? ⟨y.b, 0, none⟩ = some (.slice y.A y.f.data.length y.c)) (pl := [(0, true), (1, true), (2, true), (3, true), (4, true), (5, true), (6, true), (7, true), (8, true), (9, true), (10, true), (11, true), (12, false)]) hmo (by kernel_rfl) ⟨by simpa using c0, by simpa using c4, by simpa using f0⟩ ?_
      iterate 12 (refine line_get rfl rfl (fun K hK => ?_); apply Exists.intro; refine ⟨fun w hS => ?_, ?_⟩; (first | (have hS' := hS rfl; go_simp; with_reducible rfl) | (go_simp; with_reducible rfl)); (go_simp; refine hK _ ?_; clear hK K))
      (refine line_do rfl rfl (fun K hK => ?_); go_simp)
      refine hK _ _ (no_need (by kernel_rfl)) ?_
      clear hK K
      refine line_nil ?_
      have kW : Kp (fun k => k = d) w ((w.drewN (nq + 1)).setCell ⟨d, 1, none⟩ (.int .i64 ((s.used : Int) - (y.f.data.length : Int)))) := (Kp.drewN (fun k => k = d) w (nq + 1)).trans (Kp.setCell (S := fun k => k = d) _ ⟨d, 1, none⟩ _ rfl) (fun _ _ h => h) (fun _ _ h => h)
      have blk1 : ((w.drewN (nq + 1)).setCell ⟨d, 1, none⟩ (.int .i64 ((s.used : Int) - (y.f.data.length : Int)))).heap[d]? = some (.cells ((dcells s bm).setIfInBounds 1 (.int .i64 ((s.used : Int) - (y.f.data.length : Int)))) 69 (0, 0)) := heap_setCell_row (w := w.drewN (nq + 1)) (j := 1) H.out.1.blk _
      have hdB := H.out.2.2.2.1.1.1
      have q3 := H.out.1.blk_ne.2.2
      have e0 := (H.out.2.2.2.1.1.2.1.kp kW (fun e => by omega)).cell
      have e1 := (H.out.2.2.2.1.1.2.2.kp kW (fun e => by omega)).cell
      have e2 := (H.out.2.2.2.1.2.kp kW (fun e => by omega)).cell
      have e3 : ((w.drewN (nq + 1)).setCell ⟨d, 1, none⟩ (.int .i64 ((s.used : Int) - (y.f.data.length : Int)))).cell? ⟨d, 2, none⟩ = some (.map (some bm)) := (cell_of_block blk1).trans rfl
      have hmW := H.out.1.map.keep (kW.block bm H.out.1.map.lt (fun e => q3 e.symm))
      have HE := Lib.hid (And.intro kW (And.intro blk1 (And.intro hmW (show (Instr.lookup 67 (.map (some bm)) (.string (bstr x.f.name)) false).run Try.prog ((w.drewN (nq + 1)).setCell ⟨d, 1, none⟩ (.int .i64 ((s.used : Int) - (y.f.data.length : Int)))).drew = .ok (.pointer (some ⟨x.b, 0, none⟩)) ((w.drewN (nq + 1)).setCell ⟨d, 1, none⟩ (.int .i64 ((s.used : Int) - (y.f.data.length : Int)))).drew by rw [run_look_at (hmW.keep (w' := ((w.drewN (nq + 1)).setCell ⟨d, 1, none⟩ (.int .i64 ((s.used : Int) - (y.f.data.length : Int)))).drew) rfl) x.f.name, H.out.2.2.1]; rfl))))
      clear kW blk1 hdB q3 hmW c0 c1 c2 c3 c4 z4 f0 hlk
      generalize ((w.drewN (nq + 1)).setCell ⟨d, 1, none⟩ (.int .i64 ((s.used : Int) - (y.f.data.length : Int)))) = W at *
      go_wp2_with fail
      refine wp_region_line (fun w' => w'.cell? ⟨B, 0, none⟩ = some (.pointer (some ⟨d, 0, none⟩)) ∧ w'.cell? ⟨B + 1, 0, none⟩ = some (.string (bstr x.f.name)) ∧ w'.cell? ⟨B + 1 + 1, 0, none⟩ = some (.string (bstr b)) ∧ w'.cell? ⟨d, 2, none⟩ = some (.map (some bm)) ∧ (Instr.lookup 67 (.map (some bm)) (.string (bstr x.f.name)) false).run Try.prog w' = .ok (.pointer (some ⟨x.b, 0, none⟩)) w')
        (pl := [(0, true), (1, true), (2, true), (3, true), (4, true), (5, true), (6, true), (7, true), (8, true), (9, true), (10, true), (11, false)]) hmo (by kernel_rfl) ⟨by simpa using e0, by simpa using e1, by simpa using e2, by simpa using e3, HE.out.2.2.2⟩ ?_
      iterate 11 (refine line_get rfl rfl (fun K hK => ?_); apply Exists.intro; refine ⟨fun w hS => ?_, ?_⟩; (first | (have hS' := hS rfl; go_simp; with_reducible rfl) | (go_simp; with_reducible rfl)); (go_simp; refine hK _ ?_; clear hK K))
      refine line_do rfl rfl (fun K hK => ?_)
      refine wp_mapput 67 (.tmp 30) (.tmp 31) (.tmp 37) rfl 9 71 Try.underlying67 Try.underlying9 bm ((l1 ++ x :: l2).map FE.ent) rfl (HE.out.2.2.1.keep rfl) b rfl (.pointer (some ⟨x.b, 0, none⟩)) rfl ?_
      intro w2 hm2 hk2
      refine hK _ _ (no_need (by kernel_rfl)) ?_
      clear hK K
      refine line_nil ?_
      have m3 := H.out.1.blk_ne.2.2
      have hbF := H.out.2.2.2.2.2.1
      have hbB : bm < B := hbF bm (mem_fpD.2 (.inr (.inl rfl)))
      have k2 : Kp (fun k => k = d ∨ k = bm) w w2 := (HE.out.1.trans (Kp.drew (fun k => k = d) _) (fun _ _ h => h) (fun _ _ h => h)).trans hk2 (fun _ _ h => .inl h) (fun _ _ h => .inr h)
      have hB2 : BxR d B x.f.name b w2 := by
        have hdB := H.out.2.2.2.1.1.1
        have h1 := H.out.2.2.2.1
        exact ⟨⟨hdB, h1.1.2.1.kp k2 (fun h => h.elim (fun e => by omega) (fun e => by omega)), h1.1.2.2.kp k2 (fun h => h.elim (fun e => by omega) (fun e => by omega))⟩, h1.2.kp k2 (fun h => h.elim (fun e => by omega) (fun e => by omega))⟩
      have g0 := hB2.1.2.1.cell
      have g1 := hB2.1.2.2.cell
      have hbk := (hk2.block d (by have := (Array.getElem?_eq_some_iff.1 HE.out.2.1).1; exact this) m3).trans HE.out.2.1
      have g3 : w2.cell? ⟨d, 2, none⟩ = some (.map (some bm)) := (cell_of_block hbk).trans rfl
      have HG := Lib.hid (And.intro k2 (And.intro hm2 hbk))
      clear e0 e1 e2 e3 hm2 hk2 hB2 hbk k2 m3 hbF hbB
      go_wp2_with fail
      refine wp_region_line (fun w' => w'.cell? ⟨B, 0, none⟩ = some (.pointer (some ⟨d, 0, none⟩)) ∧ w'.cell? ⟨B + 1, 0, none⟩ = some (.string (bstr x.f.name)) ∧ w'.cell? ⟨d, 2, none⟩ = some (.map (some bm))) (pl := [(0, true), (1, true), (2, true), (3, true), (4, true), (5, false)]) hmo (by kernel_rfl) ⟨by simpa using g0, by simpa using g1, by simpa using g3⟩ ?_
      iterate 5 (refine line_get rfl rfl (fun K hK => ?_); apply Exists.intro; refine ⟨fun w hS => ?_, ?_⟩; (first | (have hS' := hS rfl; go_simp; with_reducible rfl) | (go_simp; with_reducible rfl)); (go_simp; refine hK _ ?_; clear hK K))
      refine line_do rfl rfl (fun K hK => ?_)
      refine wp_mapdel 67 9 (.tmp 41) (.tmp 42) rfl 71 Try.underlying67 Try.underlying9 bm (put ((l1 ++ x :: l2).map FE.ent) b x.ptr) rfl (HG.out.2.1.keep rfl) x.f.name rfl ?_
      intro w3 hm3 hk3
      refine hK _ _ (no_need (by kernel_rfl)) ?_
      clear hK K
      refine line_nil ?_
      go_end0
      have m3 := H.out.1.blk_ne.2.2
      have k3 : Kp (fun k => k = d ∨ k = bm) w w3 := (HG.out.1.trans (Kp.drew (fun _ => False) _) (fun _ _ h => h) (fun _ _ h => h.elim)).trans hk3 (fun _ _ h => h) (fun _ _ h => .inr h)
      refine ⟨rfl, H.out.1.move H.out.2.2.2.2.2.2.2 k3 (fun _ h => h) ((hk3.block d ?_ m3).trans (HG.out.2.2.trans ?_)) hm3 rfl (H.out.1.ok.moved _ _ H.out.2.2.2.2.2.2.1)⟩
      · exact (Array.getElem?_eq_some_iff.1 HG.out.2.2).1
      · have h1 := H.out.2.2.2.2.1
        simp only [Option.map_some, Option.getD_some] at h1
        have e : (s.used : Int) - (y.f.data.length : Int) = (usedF (moved x.f.name b s.files) : Int) := by omega
        rw [e]
        unfold dcells DS.used
        rfl

theorem Rename_calls (w : World) (d : Nat) (s : DS) (F : List Nat) (a b : Nm) (hD : DiskAt w d s F) (ha : a.length ≤ 9223372036854775807) (hb : b.length ≤ 9223372036854775807) :
    Calls Try.prog 30 #[.pointer (some ⟨d, 0, none⟩), .string (bstr a), .string (bstr b)] w (ChangePost d F w (s.rename a b)) := by
  have HD := Lib.hid hD
  clear hD
  go_enter Try.func30, Try.ntmps30
  go_wp2_with fail
  obtain ⟨w1, hw1⟩ : ∃ w1, (w.alloc (.cells #[.pointer (some ⟨d, 0, none⟩)] 23)).alloc (.cells #[.string (bstr a)] 9) = w1 := ⟨_, rfl⟩
  obtain ⟨hB, n1⟩ := boxes2 (HD.out.lt d HD.out.mem) hw1
  have z1 : w1.heap.size = w.heap.size + 1 + 1 := by rw [← hw1]; simp
  rw [hw1]
  have hB3 : BxR d w.heap.size a b (w1.alloc (.cells #[.string (bstr b)] 9)) := ⟨hB.new (Kp.alloc _ _ _), by have := Bx.new_ w1 9 (.string (bstr b)); rwa [z1] at this⟩
  have n2 : New w (w1.alloc (.cells #[.string (bstr b)] 9)) := n1.trans (Kp.alloc _ _ _) (fun _ _ h => h) (fun _ _ h => h)
  refine (changing_calls (w1.alloc (.cells #[.string (bstr b)] 9)) d s F (HD.out.new n2) 47 48 (Go.Proofs.enters_of Try.func47 (by kernel_rfl) rfl) (Go.Proofs.enters_of Try.func48 (by kernel_rfl) rfl) _ _ (BxR d w.heap.size a b) hB3 (fun _ _ h k => h.new k) (fun _ _ h k => h.kd k) (renErr s a b) (fun s => { s with files := moved a b s.files })
    (fun w hB hD => Rename1_calls w d _ s F a b hB hD ha hb) (fun h0 _ w fuse hB hD => ?_)).mono ?_
  · unfold renErr at h0
    have hg : goodN b = true := by
      by_cases h : goodN b = true
      · exact h
      · rw [if_neg h] at h0; cases h0
    rw [if_pos hg] at h0
    obtain ⟨_, f, hf⟩ := there_zero h0
    exact Rename2_calls w d _ { s with fuse := fuse } F a b f hB hD hf hg (fun k hk => HD.out.lt k hk)
  · rintro e w2 ⟨rfl, F', h1, h2⟩
    have HE := Lib.hid (And.intro h1 (And.intro h2 n2))
    clear h1 h2 n1 n2 hB hB3 hw1
    go_wp2_with fail
    go_ret
    exact ⟨rfl, F', HE.out.1, (Mv.of_new HE.out.2.2).trans HE.out.2.1⟩
end Go.Proofs.Ytekcoeonlfmebaa.Kit
