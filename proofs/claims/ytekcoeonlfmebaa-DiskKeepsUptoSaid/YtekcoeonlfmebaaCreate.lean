/- disk.Create: a file without bytes. -/
import Derived.Test.YtekcoeonlfmebaaChanging
import Derived.Test.YtekcoeonlfmebaaMapOps
import Derived.Test.YtekcoeonlfmebaaDiskF
import Derived.BigQuiet
import Derived.Shelf.Abstract
import Derived.Deep.QuietTactic
namespace Go.Proofs.Ytekcoeonlfmebaa.Kit
open Go Go.RowKit

/-- A box: one cell. -/
def Bx (w : World) (b : Nat) (t : TypeId) (v : Value) : Prop := w.heap[b]? = some (.cells #[v] t (0, 0))
theorem Bx.cell {w : World} {b : Nat} {t : TypeId} {v : Value} (h : Bx w b t v) : w.cell? ⟨b, 0, none⟩ = some v := (cell_of_block h).trans rfl
theorem Bx.lt {w : World} {b : Nat} {t : TypeId} {v : Value} (h : Bx w b t v) : b < w.heap.size := (Array.getElem?_eq_some_iff.1 h).1
theorem Bx.kp {w w' : World} {S : Nat → Prop} {b : Nat} {t : TypeId} {v : Value} (h : Bx w b t v) (hk : Kp S w w') (hb : ¬ S b) : Bx w' b t v := (hk.block b h.lt hb).trans h
theorem Bx.new_ (w : World) (t : TypeId) (v : Value) : Bx (w.alloc (.cells #[v] t)) w.heap.size t v := heap_alloc_new w _
/-- The boxes of a call's disk and name, the disk in block d. -/
def Bx2 (d B : Nat) (n : Nm) (w : World) : Prop := d < B ∧ Bx w B 23 (.pointer (some ⟨d, 0, none⟩)) ∧ Bx w (B + 1) 9 (.string (bstr n))
theorem Bx2.new {d B : Nat} {n : Nm} {w w' : World} (h : Bx2 d B n w) (hk : New w w') : Bx2 d B n w' := ⟨h.1, h.2.1.kp hk id, h.2.2.kp hk id⟩
theorem Bx2.kd {d B : Nat} {n : Nm} {w w' : World} (h : Bx2 d B n w) (hk : Kp (fun k => k = d) w w') : Bx2 d B n w' := ⟨h.1, h.2.1.kp hk (fun e => by have := h.1; omega), h.2.2.kp hk (fun e => by have := h.1; omega)⟩

def lookCreate (s : DS) (n : Nm) : Nat := if goodN n = true then (if (s.find n).isSome = true then 33 else if 64 ≤ s.files.length then 2 else 0) else 32

theorem run_look_at {w : World} {bm : Nat} {xs : List FE} (h : SMap w bm (xs.map FE.ent)) (n : Nm) : (Instr.lookup 67 (.map (some bm)) (.string (bstr n)) false).run Try.prog w = .ok ((at? (xs.map FE.ent) n).getD (.pointer none)) w :=
  run_look (P := Try.prog) Try.underlying67 Try.underlying9 (zero_filep w) h n false
theorem SMap.drewN {w : World} {b : Nat} {l : List (List UInt8 × Value)} (h : SMap w b l) (j : Nat) : SMap (w.drewN j) b l := h.keep rfl

set_option maxHeartbeats 2000000 in
theorem Create1_calls (w : World) (d B : Nat) (s : DS) (F : List Nat) (n : Nm) (hB : Bx2 d B n w) (hD : DiskAt w d s F) (hn : n.length ≤ 9223372036854775807) :
    Calls Try.prog 39 #[.pointer (some ⟨B + 1, 0, none⟩), .pointer (some ⟨B, 0, none⟩)] w fun e w' => e = .returned (.int .i64 (lookCreate s n : Int)) ∧ New w w' := by
  have c0 := hB.2.1.cell
  have c1 := hB.2.2.cell
  have HB := Lib.hid hB
  have HD := Lib.hid hD
  clear hB hD
  by_cases hg : goodN n = true
  · cases hf : s.find n with
    | some f =>
      have hs : lookCreate s n = 33 := by unfold lookCreate; rw [if_pos hg, hf]; rfl
      rw [hs]
      have HF := Lib.hid hf
      clear hs hf
      go_enter Try.func39, Try.ntmps39
      go_wp2_with fail
      refine (good_calls w n hn).mono ?_
      rintro e w1 ⟨rfl, hn1⟩
      rw [hg]
      have HN := Lib.hid hn1
      obtain ⟨bm, xs, hX, -⟩ := HD.out.new hn1
      have f2 : w1.cell? ⟨d, 2, none⟩ = some (.map (some bm)) := (cell_of_block hX.blk).trans rfl
      have d0 := (HB.out.new hn1).2.1.cell
      have d1 := (HB.out.new hn1).2.2.cell
      obtain ⟨x, H2⟩ : ∃ x : FE, Hid (at? (xs.map FE.ent) n = some x.ptr) := by
        rcases hX.look n with ⟨h, _⟩ | ⟨x, l1, l2, _, _, _, h4, _⟩
        · rw [HF.out] at h; cases h
        · exact ⟨x, Lib.hid h4⟩
      have hl : ∀ j, (Instr.lookup 67 (.map (some bm)) (.string (bstr n)) false).run Try.prog (w1.drewN j) = .ok (.pointer (some ⟨x.b, 0, none⟩)) (w1.drewN j) := fun j => by rw [run_look_at (hX.map.drewN j) n, H2.out]; rfl
      have HX := Lib.hid hX
      clear hn1 hX hg
      go_wp2_with fail
      go_quiet (fail)
      go_wp2_with fail
      go_ret
      exact ⟨rfl, HN.out.trans (Kp.drewN _ _ _) (fun _ _ h => h) (fun _ _ h => h)⟩
    | none =>
      by_cases hl64 : 64 ≤ s.files.length
      · have hs : lookCreate s n = 2 := by unfold lookCreate; rw [if_pos hg, hf]; simp [hl64]
        rw [hs]
        have HF := Lib.hid hf
        clear hs hf
        go_enter Try.func39, Try.ntmps39
        go_wp2_with fail
        refine (good_calls w n hn).mono ?_
        rintro e w1 ⟨rfl, hn1⟩
        rw [hg]
        have HN := Lib.hid hn1
        obtain ⟨bm, xs, hX, -⟩ := HD.out.new hn1
        have f2 : w1.cell? ⟨d, 2, none⟩ = some (.map (some bm)) := (cell_of_block hX.blk).trans rfl
        have d0 := (HB.out.new hn1).2.1.cell
        have d1 := (HB.out.new hn1).2.2.cell
        have H2 : Hid (at? (xs.map FE.ent) n = none) := Lib.hid (by
          rcases hX.look n with ⟨_, h⟩ | ⟨x, l1, l2, _, _, h3, _⟩
          · exact h
          · rw [HF.out] at h3; cases h3)
        have hl : ∀ j, (Instr.lookup 67 (.map (some bm)) (.string (bstr n)) false).run Try.prog (w1.drewN j) = .ok (.pointer none) (w1.drewN j) := fun j => by rw [run_look_at (hX.map.drewN j) n, H2.out]; rfl
        have HX := Lib.hid hX
        clear hn1 hX hg
        go_wp2_with fail
        go_quiet (fail)
        have hsz : ∀ j ty, (Builtin.len_ #[67] ty #[.map (some bm)]).run Try.prog (w1.drewN j) = .ok (.int .i64 (s.files.length : Int)) (w1.drewN j) := fun j ty => by
          have := run_size (P := Try.prog) Try.underlying67 (HX.out.map.drewN j) ty
          rw [this, List.length_map, ← HX.out.perm.length_eq, List.length_map]
        have hq : decide ((s.files.length : Int) ≥ 64) = true := decide_eq_true (by omega)
        go_wp2_with fail
        go_ret
        exact ⟨rfl, HN.out.trans (Kp.drewN _ _ _) (fun _ _ h => h) (fun _ _ h => h)⟩
      · have hs : lookCreate s n = 0 := by unfold lookCreate; rw [if_pos hg, hf]; simp [hl64]
        rw [hs]
        have HF := Lib.hid hf
        clear hs hf
        go_enter Try.func39, Try.ntmps39
        go_wp2_with fail
        refine (good_calls w n hn).mono ?_
        rintro e w1 ⟨rfl, hn1⟩
        rw [hg]
        have HN := Lib.hid hn1
        obtain ⟨bm, xs, hX, -⟩ := HD.out.new hn1
        have f2 : w1.cell? ⟨d, 2, none⟩ = some (.map (some bm)) := (cell_of_block hX.blk).trans rfl
        have d0 := (HB.out.new hn1).2.1.cell
        have d1 := (HB.out.new hn1).2.2.cell
        have H2 : Hid (at? (xs.map FE.ent) n = none) := Lib.hid (by
          rcases hX.look n with ⟨_, h⟩ | ⟨x, l1, l2, _, _, h3, _⟩
          · exact h
          · rw [HF.out] at h3; cases h3)
        have hl : ∀ j, (Instr.lookup 67 (.map (some bm)) (.string (bstr n)) false).run Try.prog (w1.drewN j) = .ok (.pointer none) (w1.drewN j) := fun j => by rw [run_look_at (hX.map.drewN j) n, H2.out]; rfl
        have HX := Lib.hid hX
        clear hn1 hX hg
        go_wp2_with fail
        go_quiet (fail)
        have hsz : ∀ j ty, (Builtin.len_ #[67] ty #[.map (some bm)]).run Try.prog (w1.drewN j) = .ok (.int .i64 (s.files.length : Int)) (w1.drewN j) := fun j ty => by
          have := run_size (P := Try.prog) Try.underlying67 (HX.out.map.drewN j) ty
          rw [this, List.length_map, ← HX.out.perm.length_eq, List.length_map]
        have hq : decide ((s.files.length : Int) ≥ 64) = false := decide_eq_false (by omega)
        go_wp2_with fail
        go_ret
        exact ⟨rfl, HN.out.trans (Kp.drewN _ _ _) (fun _ _ h => h) (fun _ _ h => h)⟩
  · have hg' : goodN n = false := by simpa using hg
    have hs : lookCreate s n = 32 := by unfold lookCreate; rw [if_neg hg]
    rw [hs]
    clear hs hg
    go_enter Try.func39, Try.ntmps39
    go_wp2_with fail
    refine (good_calls w n hn).mono ?_
    rintro e w1 ⟨rfl, hn1⟩
    rw [hg']
    have HN := Lib.hid hn1
    clear hn1 hg'
    go_wp2_with fail
    go_ret
    exact ⟨rfl, HN.out⟩

theorem nodup_swap {p q a a' : List Nat} (h : (p ++ (a ++ q)).Nodup) (ha : a'.Nodup) (hin : ∀ k ∈ a', k ∈ a ∨ (k ∉ p ∧ k ∉ q)) : (p ++ (a' ++ q)).Nodup := by
  obtain ⟨h1, h2, h3⟩ := List.nodup_append.1 h
  obtain ⟨h4, h5, h6⟩ := List.nodup_append.1 h2
  refine List.nodup_append.2 ⟨h1, List.nodup_append.2 ⟨ha, h5, fun x hx y hy e => ?_⟩, fun x hx y hy e => ?_⟩
  · subst e
    rcases hin x hx with h | ⟨_, h⟩
    · exact h6 x h x hy rfl
    · exact h hy
  · subst e
    rcases List.mem_append.1 hy with hy | hy
    · rcases hin x hy with h | ⟨h, _⟩
      · exact h3 x hx x (List.mem_append_left _ h) rfl
      · exact h hx
    · exact h3 x hx x (List.mem_append_right _ hy) rfl
theorem fpD_cut (d bm : Nat) (l1 l2 : List FE) (x : FE) : fpD d bm (l1 ++ x :: l2) = (d :: bm :: l1.flatMap FE.blk) ++ (x.blk ++ l2.flatMap FE.blk) := by simp [fpD]
/-- Another file in a file's place: its blocks are the old one's, or new. -/
theorem DiskX.swap {w : World} {d bm : Nat} {s : DS} {l1 l2 : List FE} {x x' : FE} (h : DiskX w d s bm (l1 ++ x :: l2)) (hx : x'.blk.Nodup) (hin : ∀ k ∈ x'.blk, k ∈ x.blk ∨ w.heap.size ≤ k) : (fpD d bm (l1 ++ x' :: l2)).Nodup := by
  have ho := h.own
  have hlt := h.lt
  rw [fpD_cut] at ho hlt ⊢
  refine nodup_swap ho hx fun k hk => (hin k hk).imp id fun hge => ⟨fun hm => ?_, fun hm => ?_⟩
  · have := hlt k (List.mem_append_left _ hm)
    omega
  · have := hlt k (List.mem_append_right _ (List.mem_append_right _ hm))
    omega
theorem blk_nodup {x : FE} (h : ¬ Bk x.A x.b) : x.blk.Nodup := List.nodup_cons.2 ⟨fun hm => h (mem_bks.1 hm), bks_nodup _⟩
/-- One file more. -/
theorem DiskX.push_nodup {w : World} {d bm : Nat} {s : DS} {xs : List FE} {x : FE} (h : DiskX w d s bm xs) (hx : x.blk.Nodup) (hin : ∀ k ∈ x.blk, w.heap.size ≤ k) : (fpD d bm (xs ++ [x])).Nodup := by
  have e : fpD d bm (xs ++ [x]) = fpD d bm xs ++ x.blk := by simp [fpD]
  rw [e]
  refine List.nodup_append.2 ⟨h.own, hx, fun a ha b hb e => ?_⟩
  subst e
  have := h.lt a ha
  have := hin a hb
  omega
theorem put_new {l : List (List UInt8 × Value)} {k : List UInt8} {v : Value} (h : at? l k = none) : put l k v = l ++ [(k, v)] := by
  unfold put
  rw [any_of_at]
  unfold at? at h
  cases hf : l.find? (fun x => x.1 == k) with
  | none => rfl
  | some x => rw [hf] at h; cases h

set_option maxRecDepth 100000 in
set_option maxHeartbeats 2000000 in
theorem Create2_calls (w : World) (d B : Nat) (s : DS) (F : List Nat) (n : Nm) (hB : Bx2 d B n w) (hBF : ∀ k ∈ F, k < B) (hD : DiskAt w d s F) (hg : goodN n = true) (hf : s.find n = none) (hl : s.files.length < 64) :
    Calls Try.prog 40 #[.pointer (some ⟨B, 0, none⟩), .pointer (some ⟨B + 1, 0, none⟩)] w fun e w' => e = .returned (.tuple #[]) ∧ ∃ F', DiskAt w' d { s with files := ins ⟨n, [], 0⟩ s.files } F' ∧ Mv F F' w w' := by
  obtain ⟨bm, xs, hX, rfl⟩ := hD
  have c0 := hB.2.1.cell
  have c1 := hB.2.2.cell
  have c2 : w.cell? ⟨d, 2, none⟩ = some (.map (some bm)) := (cell_of_block hX.blk).trans rfl
  have hbl := hB.2.2.lt
  have hF := hf
  have hA : at? (xs.map FE.ent) n = none := by
    rcases hX.look n with ⟨_, h⟩ | ⟨x, l1, l2, _, _, h3, _⟩
    · exact h
    · rw [hF] at h3; cases h3
  have H := Lib.hid (And.intro hX (And.intro hA (And.intro hf hg)))
  have hmo : Try.prog.follows Departure.mixedOrders = true := by kernel_rfl
  clear hX hA hf hF hg hB
  go_enter Try.func40, Try.ntmps40
  go_wp2_with fail
  refine wp_region_line (fun w' => w'.cell? ⟨B, 0, none⟩ = some (.pointer (some ⟨d, 0, none⟩)) ∧ w'.cell? ⟨B + 1, 0, none⟩ = some (.string (bstr n)) ∧ w'.cell? ⟨d, 2, none⟩ = some (.map (some bm))) (pl := [(0, true), (1, true), (2, true), (3, true), (4, true), (5, true), (6, false), (7, false)]) hmo (by kernel_rfl) ⟨by simpa using c0, by simpa using c1, by simpa using c2⟩ ?_
  iterate 6 (refine line_get rfl rfl (fun K hK => ?_); apply Exists.intro; refine ⟨fun w hS => ?_, ?_⟩; (first | (have hS' := hS rfl; go_simp; with_reducible rfl) | (go_simp; with_reducible rfl)); (go_simp; refine hK _ ?_; clear hK K))
  (refine line_do rfl rfl (fun K hK => ?_); go_simp)
  have n1 : New w (w.alloc (.cells #[.slice none 0 0, .int .i64 0] 74)).drew := (Kp.alloc _ _ _).trans (Kp.drew _ _) (fun _ _ h => h) (fun _ _ h => h)
  refine hK _ _ (fun _ => ⟨New.cell n1 c0, New.cell n1 c1, New.cell n1 c2⟩) ?_
  clear hK K
  have g1 : (w.alloc (.cells #[.slice none 0 0, .int .i64 0] 74)).drew.heap[w.heap.size]? = some (.cells #[.slice none 0 0, .int .i64 0] 74 (0, 0)) := heap_alloc_new w _
  have z1 : (w.alloc (.cells #[.slice none 0 0, .int .i64 0] 74)).drew.heap.size = w.heap.size + 1 := by simp
  generalize (w.alloc (.cells #[.slice none 0 0, .int .i64 0] 74)).drew = w1 at n1 g1 z1
  refine line_do rfl rfl (fun K hK => ?_)
  refine wp_mapput 67 (.tmp 5) (.tmp 6) (.tmp 8) rfl 9 71 Try.underlying67 Try.underlying9 bm (xs.map FE.ent) rfl (H.out.1.new n1).map n rfl (.pointer (some ⟨w.heap.size, 0, none⟩)) rfl ?_
  intro w2 hm2 hk2
  refine hK _ _ (no_need (by kernel_rfl)) ?_
  clear hK K
  refine line_nil ?_
  go_end0
  have hdb : d ≠ bm := fun e => by have := H.out.1.own; unfold fpD at this; simp [e] at this
  have hbx : ∀ x ∈ xs, ∀ k ∈ x.blk, k ≠ bm := fun x hx k hk e => by
    have := (List.nodup_cons.1 (List.nodup_cons.1 H.out.1.own).2).1
    exact this (e ▸ List.mem_flatMap.2 ⟨x, hx, hk⟩)
  have hX1 := H.out.1.new n1
  have hbm := H.out.1.map.lt
  rw [put_new H.out.2.1] at hm2
  have hk : Kp (fun k => k = bm) w w2 := n1.trans hk2 (fun _ _ h => h.elim) (fun _ _ h => h)
  refine ⟨rfl, _, ⟨bm, xs ++ [⟨⟨n, [], 0⟩, w.heap.size, none, 0⟩], ⟨(hk2.block d (by have := hX1.lt d (mem_fpD.2 (.inl rfl)); omega) hdb).trans hX1.blk |>.trans ?_, ?_, fun x hx => ?_, ?_, ?_, H.out.1.ok.create n H.out.2.2.2 H.out.2.2.1 hl⟩, rfl⟩, hk.mono (fun k _ e => e ▸ mem_fpD.2 (.inr (.inl rfl))), fun k hk' => ?_⟩
  · unfold dcells DS.used
    simp only [used_ins]
    simp
  · simpa [FE.ent, FE.ptr] using hm2
  · rcases List.mem_append.1 hx with hx | hx
    · exact ⟨(hk2.block x.b (by have := (Array.getElem?_eq_some_iff.1 (hX1.file x hx).1).1; exact this) (hbx x hx _ List.mem_cons_self)).trans (hX1.file x hx).1, (hX1.file x hx).2.kp hk2 fun k hb => hbx x hx k (List.mem_cons_of_mem _ (mem_bks.2 hb))⟩
    · obtain rfl := List.mem_singleton.1 hx
      refine ⟨(hk2.block w.heap.size (by omega) (by omega)).trans g1, ?_⟩
      exact Own.nil _ _ _
  · exact H.out.1.push_nodup (blk_nodup Bk.none_) (fun k hk => by simp [FE.blk, bks] at hk; omega)
  · rw [List.map_append]
    exact (List.perm_append_comm.trans (H.out.1.perm.cons _)).trans (ins_perm _ _).symm
  · rcases mem_fpD.1 hk' with rfl | rfl | ⟨x, hx, hb⟩
    · exact .inl (mem_fpD.2 (.inl rfl))
    · exact .inl (mem_fpD.2 (.inr (.inl rfl)))
    · rcases List.mem_append.1 hx with hx | hx
      · exact .inl (mem_fpD.2 (.inr (.inr ⟨x, hx, hb⟩)))
      · obtain rfl := List.mem_singleton.1 hx
        rcases hb with rfl | hb
        · exact .inr (Nat.le_refl _)
        · exact absurd hb Bk.none_

set_option maxHeartbeats 1000000 in
theorem Create_calls (w : World) (d : Nat) (s : DS) (F : List Nat) (n : Nm) (hD : DiskAt w d s F) (hn : n.length ≤ 9223372036854775807) :
    Calls Try.prog 22 #[.pointer (some ⟨d, 0, none⟩), .string (bstr n)] w (ChangePost d F w (s.create n)) := by
  have HD := Lib.hid hD
  clear hD
  go_enter Try.func22, Try.ntmps22
  go_wp2_with fail
  obtain ⟨w1, hw1⟩ : ∃ w1, (w.alloc (.cells #[.pointer (some ⟨d, 0, none⟩)] 23)).alloc (.cells #[.string (bstr n)] 9) = w1 := ⟨_, rfl⟩
  rw [hw1]
  have n1 : New w w1 := hw1 ▸ (Kp.alloc _ _ _).trans (Kp.alloc _ _ _) (fun _ _ h => h) (fun _ _ h => h)
  have hB : Bx2 d w.heap.size n w1 := ⟨HD.out.lt d HD.out.mem, hw1 ▸ (Bx.new_ w _ _).kp (Kp.alloc (fun _ => False) _ _) id, hw1 ▸ (by have := Bx.new_ (w.alloc (.cells #[.pointer (some ⟨d, 0, none⟩)] 23)) 9 (.string (bstr n)); rwa [World.size_alloc] at this)⟩
  refine (changing_calls w1 d s F (HD.out.new n1) 39 40 (Go.Proofs.enters_of Try.func39 (by kernel_rfl) rfl) (Go.Proofs.enters_of Try.func40 (by kernel_rfl) rfl) _ _ (Bx2 d w.heap.size n) hB (fun _ _ h k => h.new k) (fun _ _ h k => h.kd k) (lookCreate s n) (fun s => { s with files := ins ⟨n, [], 0⟩ s.files })
    (fun w hB hD => Create1_calls w d _ s F n hB hD hn) (fun h0 _ w fuse hB hD => ?_)).mono ?_
  · have hlk : goodN n = true ∧ s.find n = none ∧ s.files.length < 64 := by
      unfold lookCreate at h0
      split at h0
      · rename_i hg
        split at h0
        · cases h0
        · rename_i hf
          split at h0
          · cases h0
          · exact ⟨hg, by simpa using hf, by omega⟩
      · cases h0
    exact Create2_calls w d _ { s with fuse := fuse } F n hB (fun k hk => HD.out.lt k hk) hD hlk.1 hlk.2.1 hlk.2.2
  · rintro e w2 ⟨rfl, F', h1, h2⟩
    have HE := Lib.hid (And.intro h1 (And.intro h2 n1))
    clear h1 h2 n1 hB hw1
    go_wp2_with fail
    go_ret
    exact ⟨rfl, F', HE.out.1, (Mv.of_new HE.out.2.2).trans HE.out.2.1⟩
end Go.Proofs.Ytekcoeonlfmebaa.Kit
