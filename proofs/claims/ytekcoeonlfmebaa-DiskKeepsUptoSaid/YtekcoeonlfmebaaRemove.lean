/- disk.Remove: a file taken away. -/
import Derived.Test.YtekcoeonlfmebaaSync
namespace Go.Proofs.Ytekcoeonlfmebaa.Kit
open Go Go.RowKit

theorem used_at {s : DS} (h : s.Ok) {n : Nm} {f : Fl} (hf : s.find n = some f) : f.data.length ≤ s.used := by
  have := used_out h hf
  omega

set_option maxHeartbeats 1000000 in
theorem Remove1_calls (w : World) (d B : Nat) (s : DS) (F : List Nat) (n : Nm) (hB : Bx2 d B n w) (hD : DiskAt w d s F) (hn : n.length ≤ 9223372036854775807) :
    Calls Try.prog 49 #[.pointer (some ⟨B, 0, none⟩), .pointer (some ⟨B + 1, 0, none⟩)] w fun e w' => e = .returned (.int .i64 (s.there n : Int)) ∧ New w w' := by
  have c0 := hB.2.1.cell
  have c1 := hB.2.2.cell
  have HD := Lib.hid hD
  clear hB hD
  go_enter Try.func49, Try.ntmps49
  go_wp2_with fail
  refine (there_calls w d s F n HD.out hn).mono ?_
  rintro e w1 ⟨rfl, hn1⟩
  have HN := Lib.hid hn1
  clear hn1
  go_wp2_with fail
  go_ret
  exact ⟨rfl, HN.out⟩

set_option maxRecDepth 100000 in
set_option maxHeartbeats 4000000 in
theorem Remove2_calls (w : World) (d B : Nat) (s : DS) (F : List Nat) (n : Nm) (f : Fl) (hB : Bx2 d B n w) (hD : DiskAt w d s F) (hf : s.find n = some f) (hFB : ∀ k ∈ F, k < B) :
    Calls Try.prog 50 #[.pointer (some ⟨B, 0, none⟩), .pointer (some ⟨B + 1, 0, none⟩)] w fun e w' => e = .returned (.tuple #[]) ∧ ∃ F', DiskAt w' d { s with files := outF n s.files } F' ∧ Mv F F' w w' := by
  obtain ⟨bm, xs, hX, rfl⟩ := hD
  obtain ⟨x, l1, l2, rfl, rfl, hfn, hat⟩ := hX.look_some hf
  have c0 := hB.2.1.cell
  have c1 := hB.2.2.cell
  have c3 : w.cell? ⟨d, 2, none⟩ = some (.map (some bm)) := (cell_of_block hX.blk).trans rfl
  have c4 : w.cell? ⟨d, 1, none⟩ = some (.int .i64 (s.used : Int)) := (cell_of_block hX.blk).trans rfl
  have z4 : w.frozen? ⟨d, 1, none⟩ = false := by simp [World.frozen?, hX.blk]
  have hlk : (Instr.lookup 67 (.map (some bm)) (.string (bstr n)) false).run Try.prog w.drew = .ok (.pointer (some ⟨x.b, 0, none⟩)) w.drew := by rw [run_look_at (hX.map.keep (w' := w.drew) rfl) n, hat]; rfl
  have hxb := hX.mem_cut.1
  have f0 : w.cell? ⟨x.b, 0, none⟩ = some (.slice x.A x.f.data.length x.c) := (cell_of_block hxb).trans rfl
  have hxl := used_at hX.ok hf
  have hou := used_out hX.ok hf
  have hcap := hX.ok.cap
  have hus := hX.ok.used
  have hmo : Try.prog.follows Departure.mixedOrders = true := by kernel_rfl
  have H := Lib.hid (And.intro hX (And.intro hf (And.intro hfn (And.intro hB (And.intro hou hFB)))))
  clear hX hf hfn hat hxb hB hou hFB
  have hw : IntKind.i64.wrap ((s.used : Int) - (x.f.data.length : Int)) = (s.used : Int) - (x.f.data.length : Int) := by rw [IntKind.wrap_i64]; omega
  go_enter Try.func50, Try.ntmps50
  go_wp2_with fail
  refine wp_region_line (fun w' => w'.cell? ⟨B, 0, none⟩ = some (.pointer (some ⟨d, 0, none⟩)) ∧ w'.cell? ⟨B + 1, 0, none⟩ = some (.string (bstr n)) ∧ w'.cell? ⟨d, 1, none⟩ = some (.int .i64 (s.used : Int)) ∧ w'.cell? ⟨d, 2, none⟩ = some (.map (some bm)) ∧ w'.cell? ⟨x.b, 0, none⟩ = some (.slice x.A x.f.data.length x.c) ∧ (Instr.lookup 67 (.map (some bm)) (.string (bstr n)) false).run Try.prog w' = .ok (.pointer (some ⟨x.b, 0, none⟩)) w')
    (pl := [(0, true), (1, true), (2, true), (3, true), (4, true), (5, true), (6, true), (7, true), (8, true), (9, true), (10, true), (11, true), (12, true), (13, true), (14, true), (15, true), (16, true), (17, false)]) hmo (by kernel_rfl) ⟨by simpa using c0, by simpa using c1, by simpa using c4, by simpa using c3, by simpa using f0, hlk⟩ ?_
  iterate 17 (refine line_get rfl rfl (fun K hK => ?_); apply Exists.intro; refine ⟨fun w hS => ?_, ?_⟩; (first | (have hS' := hS rfl; go_simp; with_reducible rfl) | (go_simp; with_reducible rfl)); (go_simp; refine hK _ ?_; clear hK K))
  (refine line_do rfl rfl (fun K hK => ?_); go_simp)
  refine hK _ _ (no_need (by kernel_rfl)) ?_
  clear hK K
  refine line_nil ?_
  obtain ⟨m1, m2, m3⟩ := H.out.1.blk_ne
  have g1 := heap_setCell_row (j := 1) H.out.1.blk (.int .i64 ((s.used : Int) - (x.f.data.length : Int)))
  have k1 : Kp (fun k => k = d) w (w.setCell ⟨d, 1, none⟩ (.int .i64 ((s.used : Int) - (x.f.data.length : Int)))).drew := (Kp.setCell (S := fun k => k = d) w ⟨d, 1, none⟩ _ rfl).trans (Kp.drew _ _) (fun _ _ h => h) (fun _ _ h => h)
  have e0 := (H.out.2.2.2.1.2.1.kp k1 (fun e => by have := H.out.2.2.2.1.1; omega)).cell
  have e1 := (H.out.2.2.2.1.2.2.kp k1 (fun e => by have := H.out.2.2.2.1.1; omega)).cell
  have d1 : (w.setCell ⟨d, 1, none⟩ (.int .i64 ((s.used : Int) - (x.f.data.length : Int)))).drew.heap[d]? = some (.cells ((dcells s bm).setIfInBounds 1 (.int .i64 ((s.used : Int) - (x.f.data.length : Int)))) 69 (0, 0)) := g1
  have e2 : (w.setCell ⟨d, 1, none⟩ (.int .i64 ((s.used : Int) - (x.f.data.length : Int)))).drew.cell? ⟨d, 2, none⟩ = some (.map (some bm)) := (cell_of_block d1).trans rfl
  have hm1 := H.out.1.map.keep (k1.block bm H.out.1.map.lt (fun e => m3 e.symm))
  have HK := Lib.hid (And.intro k1 (And.intro d1 hm1))
  clear g1 d1 k1 m1 m2 c0 c1 c3 c4 z4 f0 hlk hm1
  generalize (w.setCell ⟨d, 1, none⟩ (.int .i64 ((s.used : Int) - (x.f.data.length : Int)))).drew = w1 at *
  go_wp2_with fail
  refine wp_region_line (fun w' => w'.cell? ⟨B, 0, none⟩ = some (.pointer (some ⟨d, 0, none⟩)) ∧ w'.cell? ⟨B + 1, 0, none⟩ = some (.string (bstr n)) ∧ w'.cell? ⟨d, 2, none⟩ = some (.map (some bm))) (pl := [(0, true), (1, true), (2, true), (3, true), (4, true), (5, false)]) hmo (by kernel_rfl) ⟨by simpa using e0, by simpa using e1, by simpa using e2⟩ ?_
  iterate 5 (refine line_get rfl rfl (fun K hK => ?_); apply Exists.intro; refine ⟨fun w hS => ?_, ?_⟩; (first | (have hS' := hS rfl; go_simp; with_reducible rfl) | (go_simp; with_reducible rfl)); (go_simp; refine hK _ ?_; clear hK K))
  refine line_do rfl rfl (fun K hK => ?_)
  refine wp_mapdel 67 9 (.tmp 22) (.tmp 23) rfl 71 Try.underlying67 Try.underlying9 bm ((l1 ++ x :: l2).map FE.ent) rfl (HK.out.2.2.keep rfl) n rfl ?_
  intro w2 hm2 hk2
  refine hK _ _ (no_need (by kernel_rfl)) ?_
  clear hK K
  refine line_nil ?_
  go_end0
  have k2 : Kp (fun k => k = d ∨ k = bm) w w2 := (HK.out.1.trans (Kp.drew (fun k => k = d) _) (fun _ _ h => h) (fun _ _ h => h)).trans hk2 (fun _ _ h => .inl h) (fun _ _ h => .inr h)
  refine ⟨rfl, H.out.1.remAt k2 (fun _ h => h) ?_ (by rw [H.out.2.2.1]; exact hm2) (by rw [H.out.2.2.1]) (H.out.1.ok.out n)⟩
  refine (hk2.block d ?_ m3).trans (HK.out.2.1.trans ?_)
  · exact (Array.getElem?_eq_some_iff.1 HK.out.2.1).1
  · have h1 := H.out.2.2.2.2.1
    have e : (s.used : Int) - (x.f.data.length : Int) = (usedF (outF n s.files) : Int) := by omega
    rw [e]
    unfold dcells DS.used
    rfl

theorem Remove_calls (w : World) (d : Nat) (s : DS) (F : List Nat) (n : Nm) (hD : DiskAt w d s F) (hn : n.length ≤ 9223372036854775807) :
    Calls Try.prog 31 #[.pointer (some ⟨d, 0, none⟩), .string (bstr n)] w (ChangePost d F w (s.remove n)) := by
  have HD := Lib.hid hD
  clear hD
  go_enter Try.func31, Try.ntmps31
  go_wp2_with fail
  obtain ⟨w1, hw1⟩ : ∃ w1, (w.alloc (.cells #[.pointer (some ⟨d, 0, none⟩)] 23)).alloc (.cells #[.string (bstr n)] 9) = w1 := ⟨_, rfl⟩
  obtain ⟨hB, n1⟩ := boxes2 (HD.out.lt d HD.out.mem) hw1
  rw [hw1]
  refine (changing_calls w1 d s F (HD.out.new n1) 49 50 (Go.Proofs.enters_of Try.func49 (by kernel_rfl) rfl) (Go.Proofs.enters_of Try.func50 (by kernel_rfl) rfl) _ _ (Bx2 d w.heap.size n) hB (fun _ _ h k => h.new k) (fun _ _ h k => h.kd k) (s.there n) (fun s => { s with files := outF n s.files })
    (fun w hB hD => Remove1_calls w d _ s F n hB hD hn) (fun h0 _ w fuse hB hD => ?_)).mono ?_
  · obtain ⟨_, f, hf⟩ := there_zero h0
    exact Remove2_calls w d _ { s with fuse := fuse } F n f hB hD hf (fun k hk => HD.out.lt k hk)
  · rintro e w2 ⟨rfl, F', h1, h2⟩
    have HE := Lib.hid (And.intro h1 (And.intro h2 n1))
    clear h1 h2 n1 hB hw1
    go_wp2_with fail
    go_ret
    exact ⟨rfl, F', HE.out.1, (Mv.of_new HE.out.2.2).trans HE.out.2.1⟩
end Go.Proofs.Ytekcoeonlfmebaa.Kit
