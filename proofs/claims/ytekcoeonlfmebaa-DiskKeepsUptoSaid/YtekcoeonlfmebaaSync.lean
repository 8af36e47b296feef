/- disk.Sync: a file's bytes made to last. -/
import Derived.Test.YtekcoeonlfmebaaDiskO
namespace Go.Proofs.Ytekcoeonlfmebaa.Kit
open Go Go.RowKit

theorem boxes2 {w : World} {d : Nat} {n : Nm} {w1 : World} (hd : d < w.heap.size) (hw1 : (w.alloc (.cells #[.pointer (some ⟨d, 0, none⟩)] 23)).alloc (.cells #[.string (bstr n)] 9) = w1) : Bx2 d w.heap.size n w1 ∧ New w w1 :=
  ⟨⟨hd, hw1 ▸ (Bx.new_ w _ _).kp (Kp.alloc (fun _ => False) _ _) id, hw1 ▸ (by have := Bx.new_ (w.alloc (.cells #[.pointer (some ⟨d, 0, none⟩)] 23)) 9 (.string (bstr n)); rwa [World.size_alloc] at this)⟩, hw1 ▸ (Kp.alloc _ _ _).trans (Kp.alloc _ _ _) (fun _ _ h => h) (fun _ _ h => h)⟩
theorem there_zero {s : DS} {n : Nm} (h : s.there n = 0) : goodN n = true ∧ ∃ f, s.find n = some f := by
  unfold DS.there at h
  split at h
  · rename_i hg
    split at h
    · rename_i hf
      exact ⟨hg, Option.isSome_iff_exists.1 hf⟩
    · cases h
  · cases h
theorem DiskX.look_some {w : World} {d bm : Nat} {s : DS} {xs : List FE} {n : Nm} {f : Fl} (h : DiskX w d s bm xs) (hf : s.find n = some f) : ∃ x l1 l2, xs = l1 ++ x :: l2 ∧ x.f = f ∧ f.name = n ∧ at? (xs.map FE.ent) n = some x.ptr := by
  rcases h.look n with ⟨h1, _⟩ | ⟨x, l1, l2, h1, h2, h3, h4, _⟩
  · rw [hf] at h1; cases h1
  · have e : x.f = f := Option.some.inj (h3.symm.trans hf)
    exact ⟨x, l1, l2, h1, e, e ▸ h2, h4⟩
theorem DiskX.mem_cut {w : World} {d bm : Nat} {s : DS} {l1 l2 : List FE} {x : FE} (h : DiskX w d s bm (l1 ++ x :: l2)) : x.at_ w := h.file x (by simp)

set_option maxHeartbeats 1000000 in
theorem Sync1_calls (w : World) (d B : Nat) (s : DS) (F : List Nat) (n : Nm) (hB : Bx2 d B n w) (hD : DiskAt w d s F) (hn : n.length ≤ 9223372036854775807) :
    Calls Try.prog 44 #[.pointer (some ⟨B, 0, none⟩), .pointer (some ⟨B + 1, 0, none⟩)] w fun e w' => e = .returned (.int .i64 (s.there n : Int)) ∧ New w w' := by
  have c0 := hB.2.1.cell
  have c1 := hB.2.2.cell
  have HD := Lib.hid hD
  clear hB hD
  go_enter Try.func44, Try.ntmps44
  go_wp2_with fail
  refine (there_calls w d s F n HD.out hn).mono ?_
  rintro e w1 ⟨rfl, hn1⟩
  have HN := Lib.hid hn1
  clear hn1
  go_wp2_with fail
  go_ret
  exact ⟨rfl, HN.out⟩

def syncF (f : Fl) : Fl := { f with syn := f.data.length }
set_option maxRecDepth 100000 in
set_option maxHeartbeats 2000000 in
theorem Sync2_calls (w : World) (d B : Nat) (s : DS) (F : List Nat) (n : Nm) (f : Fl) (hB : Bx2 d B n w) (hD : DiskAt w d s F) (hf : s.find n = some f) :
    Calls Try.prog 45 #[.pointer (some ⟨B, 0, none⟩), .pointer (some ⟨B + 1, 0, none⟩)] w fun e w' => e = .returned (.tuple #[]) ∧ ∃ F', DiskAt w' d { s with files := updF n syncF s.files } F' ∧ Mv F F' w w' := by
  obtain ⟨bm, xs, hX, rfl⟩ := hD
  obtain ⟨x, l1, l2, rfl, rfl, hfn, hat⟩ := hX.look_some hf
  have c0 := hB.2.1.cell
  have c1 := hB.2.2.cell
  have c2 : w.cell? ⟨d, 2, none⟩ = some (.map (some bm)) := (cell_of_block hX.blk).trans rfl
  have hl : ∀ j, (Instr.lookup 67 (.map (some bm)) (.string (bstr n)) false).run Try.prog (w.drewN j) = .ok (.pointer (some ⟨x.b, 0, none⟩)) (w.drewN j) := fun j => by rw [run_look_at (hX.map.drewN j) n, hat]; rfl
  have hxb := hX.mem_cut.1
  have f0 : w.cell? ⟨x.b, 0, none⟩ = some (.slice x.A x.f.data.length x.c) := (cell_of_block hxb).trans rfl
  have f1 : w.frozen? ⟨x.b, 1, none⟩ = false := by simp [World.frozen?, hxb]
  have g1 : w.cell? ⟨x.b, 1, none⟩ = some (.int .i64 (x.f.syn : Int)) := (cell_of_block hxb).trans rfl
  have H := Lib.hid (And.intro hX (And.intro hf (And.intro hfn hxb)))
  clear hX hf hfn hat hxb hB
  go_enter Try.func45, Try.ntmps45
  go_wp2_with fail
  go_quiet (fail)
  go_wp2_with fail
  go_end0
  have k1 : Kp (fun k => k = x.b) (w.drewN nq) ((w.drewN nq).setCell ⟨x.b, 1, none⟩ (.int .i64 (x.f.data.length : Int))) := Kp.setCell _ _ _ rfl
  have kk : Kp (fun k => k = x.b) w ((w.drewN nq).setCell ⟨x.b, 1, none⟩ (.int .i64 (x.f.data.length : Int))) := (Kp.drewN _ _ _).trans k1 (fun _ _ h => h) (fun _ _ h => h)
  obtain ⟨n1, n2, n3⟩ := H.out.1.blk_ne
  have hus := used_upd H.out.1.ok H.out.2.1 syncF
  have hu : usedF (updF n syncF s.files) = s.used := by
    have : (syncF x.f).data.length = x.f.data.length := rfl
    omega
  have g2 := heap_setCell_row (w := w.drewN nq) (j := 1) H.out.2.2.2 (.int .i64 (x.f.data.length : Int))
  refine ⟨rfl, H.out.1.updAt (x' := ⟨syncF x.f, x.b, x.A, x.c⟩) kk (fun k e => .inr (e ▸ List.mem_cons_self)) ?_ rfl rfl ⟨g2, ?_⟩ (fun k h => .inl h) syncF rfl (by rw [H.out.2.2.1]) (H.out.1.ok.upd n H.out.2.1 syncF (fun _ => rfl) (Nat.le_refl _) (by rw [hu]; exact H.out.1.ok.used))⟩
  · refine (kk.block d (H.out.1.lt d (mem_fpD.2 (.inl rfl))) (fun e => (n1 x.b List.mem_cons_self).1 e.symm)).trans (H.out.1.blk.trans ?_)
    unfold dcells DS.used
    rw [← DS.used, hu]
  · exact H.out.1.mem_cut.2.kp kk fun k hb e => by
      have := (List.nodup_append.1 (List.nodup_append.1 (fpD_cut d bm l1 l2 x ▸ H.out.1.own)).2.1).1
      exact (List.nodup_cons.1 this).1 (mem_bks.2 (e ▸ hb))

theorem Sync_calls (w : World) (d : Nat) (s : DS) (F : List Nat) (n : Nm) (hD : DiskAt w d s F) (hn : n.length ≤ 9223372036854775807) :
    Calls Try.prog 24 #[.pointer (some ⟨d, 0, none⟩), .string (bstr n)] w (ChangePost d F w (s.sync n)) := by
  have HD := Lib.hid hD
  clear hD
  go_enter Try.func24, Try.ntmps24
  go_wp2_with fail
  obtain ⟨w1, hw1⟩ : ∃ w1, (w.alloc (.cells #[.pointer (some ⟨d, 0, none⟩)] 23)).alloc (.cells #[.string (bstr n)] 9) = w1 := ⟨_, rfl⟩
  obtain ⟨hB, n1⟩ := boxes2 (HD.out.lt d HD.out.mem) hw1
  rw [hw1]
  refine (changing_calls w1 d s F (HD.out.new n1) 44 45 (Go.Proofs.enters_of Try.func44 (by kernel_rfl) rfl) (Go.Proofs.enters_of Try.func45 (by kernel_rfl) rfl) _ _ (Bx2 d w.heap.size n) hB (fun _ _ h k => h.new k) (fun _ _ h k => h.kd k) (s.there n) (fun s => { s with files := updF n syncF s.files })
    (fun w hB hD => Sync1_calls w d _ s F n hB hD hn) (fun h0 _ w fuse hB hD => ?_)).mono ?_
  · obtain ⟨_, f, hf⟩ := there_zero h0
    exact Sync2_calls w d _ { s with fuse := fuse } F n f hB hD hf
  · rintro e w2 ⟨rfl, F', h1, h2⟩
    have HE := Lib.hid (And.intro h1 (And.intro h2 n1))
    clear h1 h2 n1 hB hw1
    go_wp2_with fail
    go_ret
    exact ⟨rfl, F', HE.out.1, (Mv.of_new HE.out.2.2).trans HE.out.2.1⟩
end Go.Proofs.Ytekcoeonlfmebaa.Kit
