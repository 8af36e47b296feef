/- 1 texts in one: disk: New, Fuse, Down, Free, List, Size, Read. -/
import Derived.Test.YtekcoeonlfmebaaGreatDoorM22
namespace Go.Proofs.YtekcoeonlfmebaaGreatDoor.Kit
open Go Go.RowKit
def DS.new (cap : Nat) : DS := ⟨cap, [], -1, false⟩
theorem DS.Ok.new {cap : Nat} (h : cap ≤ 1048576) : (DS.new cap).Ok := ⟨h, by simp [DS.new, DS.used, usedF], by simp [DS.new], by simp [DS.new], by simp [DS.new], by simp [DS.new], by simp [DS.new], by simp [DS.new]⟩
def NewPost (w : World) (cap : Nat) (e : Ending) (w' : World) : Prop := ∃ d F, e = .returned (.tuple #[.pointer (some ⟨d, 0, none⟩), .int .i64 0]) ∧ DiskAt w' d (DS.new cap) F ∧ New w w' ∧ (∀ k ∈ F, w.heap.size ≤ k)
theorem New_bad (w : World) (n : Int) (h : n < 0 ∨ 1048576 < n) :
  Calls Tryz.prog 40 #[.int .i64 n] w fun e w' => e = .returned (.tuple #[.pointer none, .int .i64 1]) ∧ w = w' := by
 rcases h with h | h
 ·go_enter Tryz.func40, Tryz.ntmps40
  go_wp2
  go_ret2
  exact ⟨rfl, rfl⟩
 ·have h0 : ¬ n < 0 := by omega
  go_enter Tryz.func40, Tryz.ntmps40
  go_wp2
  go_ret2
  exact ⟨rfl, rfl⟩
set_option maxRecDepth 100000 in
theorem New_calls (w : World) (n : Int) (cap : Nat) (hn : n = cap) (h : cap ≤ 1048576) :
  Calls Tryz.prog 40 #[.int .i64 n] w (NewPost w cap) := by
 subst hn
 have h0 : ¬ (cap : Int) < 0 := by omega
 have h1 : ¬ (1048576 : Int) < cap := by omega
 have hmm := @run_makeMap Tryz.prog
 go_enter Tryz.func40, Tryz.ntmps40
 go_wp2
 go_ret2
 refine ⟨w.heap.size + 1, [w.heap.size + 1, w.heap.size], rfl, ⟨w.heap.size, [], ⟨?_, ?_, by simp, by simp [fpD], List.Perm.refl _, DS.Ok.new h⟩, by simp [fpD]⟩, (Kp.alloc _ _ _).trans (Kp.alloc _ _ _) fid fid, fun k hk => by simp at hk; omega⟩
 ·have := heap_alloc_new (w.alloc (.map #[] 0)) (.cells #[.int .i64 (cap : Int), .int .i64 0, .map (some w.heap.size), .int .i64 (-1), .bool false] 85)
  rw [World.size_alloc] at this
  exact this
 ·have h1 : SMap (w.alloc (.map #[] 0)) w.heap.size [] := SMap.made w
  exact h1.keep (Below.heap_alloc _ _ _ (by simp))
set_option maxHeartbeats 1000000 in
theorem Down_calls (w : World) (d : Nat) (s : DS) (F : List Nat) (hD : DiskAt w d s F) :
  Calls Tryz.prog 49 #[.pointer (some ⟨d, 0, none⟩)] w fun e w' => e = .returned (.bool s.down) ∧ w = w' := by
 obtain ⟨bm, hb⟩ := hD.cells
 have c4 : w.cell? ⟨d, 4, none⟩ = some (.bool s.down) := (cell_of_block hb).trans rfl
 clear hb hD
 go_enter Tryz.func49, Tryz.ntmps49
 go_wp2
 go_ret
 exact ⟨rfl, rfl⟩
set_option maxHeartbeats 1000000 in
theorem Free_calls (w : World) (d : Nat) (s : DS) (F : List Nat) (hD : DiskAt w d s F) :
  Calls Tryz.prog 48 #[.pointer (some ⟨d, 0, none⟩)] w fun e w' => e = .returned (.int .i64 ((s.cap : Int) - s.used)) ∧ New w w' := by
 obtain ⟨bm, hb⟩ := hD.cells
 have c0 : w.cell? ⟨d, 0, none⟩ = some (.int .i64 (s.cap : Int)) := (cell_of_block hb).trans rfl
 have c1 : w.cell? ⟨d, 1, none⟩ = some (.int .i64 (s.used : Int)) := (cell_of_block hb).trans rfl
 have hc := hD.ok.cap
 have hu := hD.ok.used
 clear hb hD
 go_enter Tryz.func48, Tryz.ntmps48
 go_wp2_with fail
 go_quiet (fail)
 go_wp2
 go_ret
 exact ⟨rfl, Kp.drewN _ _ _⟩
set_option maxHeartbeats 1000000 in
theorem Fuse_calls (w : World) (d : Nat) (s : DS) (F : List Nat) (n : Int) (hD : DiskAt w d s F) :
  Calls Tryz.prog 108 #[.pointer (some ⟨d, 0, none⟩), .int .i64 n] w (ChangePost d F w (s.setFuse n)) := by
 obtain ⟨bm, xs, hX, hF⟩ := hD
 have hb := hX.blk
 have c4 : w.cell? ⟨d, 4, none⟩ = some (.bool s.down) := (cell_of_block hb).trans rfl
 have c3 : w.cell? ⟨d, 3, none⟩ = some (.int .i64 s.fuse) := (cell_of_block hb).trans rfl
 have z3 : w.frozen? ⟨d, 3, none⟩ = false := by simp [World.frozen?, hb]
 have HX := Lib.hid (And.intro hX hF)
 clear hb hX hF
 by_cases h1 : n < -1
 ·have hr : s.setFuse n = (1, s) := by unfold DS.setFuse; rw [if_pos (.inl h1)]
  rw [hr]
  clear hr
  go_enter Tryz.func108, Tryz.ntmps108
  go_wp2
  go_ret
  exact ⟨rfl, F, ⟨bm, xs, HX.out⟩, Mv.refl _ _⟩
 ·by_cases h2 : 1048576 < n
  ·have hr : s.setFuse n = (1, s) := by unfold DS.setFuse; rw [if_pos (.inr h2)]
   rw [hr]
   clear hr
   go_enter Tryz.func108, Tryz.ntmps108
   go_wp2
   go_ret
   exact ⟨rfl, F, ⟨bm, xs, HX.out⟩, Mv.refl _ _⟩
  ·cases hdn : s.down with
   | true =>
    have hr : s.setFuse n = (34, s) := by unfold DS.setFuse; rw [if_neg (by omega), if_pos hdn]
    rw [hr]
    rw [hdn] at c4
    clear hr hdn
    go_enter Tryz.func108, Tryz.ntmps108
    go_wp2
    go_ret
    exact ⟨rfl, F, ⟨bm, xs, HX.out⟩, Mv.refl _ _⟩
   | false =>
    have hr : s.setFuse n = (0, { s with fuse := n }) := by unfold DS.setFuse; rw [if_neg (by omega), if_neg (by rw [hdn]; simp)]
    rw [hr]
    rw [hdn] at c4
    have HN := Lib.hid hdn
    clear hr hdn
    go_enter Tryz.func108, Tryz.ntmps108
    go_wp2
    go_ret
    have g1 := heap_setCell_row (j := 3) HX.out.1.blk (.int .i64 n)
    have k1 : Kp (fun k => k = d) w (w.setCell ⟨d, 3, none⟩ (.int .i64 n)) := Kp.setCell _ _ _ rfl
    have ok := HX.out.1.ok
    have hX2 : DiskX _ d { s with fuse := n } bm xs := DiskAt.setD HX.out.1 _ g1 k1 rfl ⟨ok.cap, ok.used, ok.few, ok.rise, ok.good, ok.syn, ⟨by simp; omega, by simp; omega⟩, fun h => by rw [HN.out] at h; cases h⟩
    refine ⟨rfl, F, ⟨bm, xs, hX2, HX.out.2⟩, k1.mono (fun k _ e => ?_), fun _ h => .inl h⟩
    rw [HX.out.2]
    exact e ▸ mem_fpD.2 (.inl rfl)
def ListPost (w : World) (s : DS) (e : Ending) (w' : World) : Prop := ∃ A n c, e = .returned (.tuple #[.slice A n c, .int .i64 0]) ∧ NewNames w s.namesOf w' A n c
theorem List_down (w : World) (d : Nat) (s : DS) (F : List Nat) (hD : DiskAt w d s F) (h : s.down = true) :
  Calls Tryz.prog 47 #[.pointer (some ⟨d, 0, none⟩)] w fun e w' => e = .returned (.tuple #[.slice none 0 0, .int .i64 34]) ∧ w = w' := by
 obtain ⟨bm, hb⟩ := hD.cells
 have c4 : w.cell? ⟨d, 4, none⟩ = some (.bool true) := (cell_of_block hb).trans (by rw [← h]; rfl)
 clear hb hD h
 go_enter Tryz.func47, Tryz.ntmps47
 go_wp2
 go_ret2
 exact ⟨rfl, rfl⟩
theorem List_calls (w : World) (d : Nat) (s : DS) (F : List Nat) (hD : DiskAt w d s F) (h : s.down = false) :
  Calls Tryz.prog 47 #[.pointer (some ⟨d, 0, none⟩)] w (ListPost w s) := by
 obtain ⟨bm, hb⟩ := hD.cells
 have c4 : w.cell? ⟨d, 4, none⟩ = some (.bool false) := (cell_of_block hb).trans (by rw [← h]; rfl)
 have HD := Lib.hid hD
 clear hb hD h
 go_enter Tryz.func47, Tryz.ntmps47
 go_wp2_with fail
 refine (names_calls w d s F HD.out).mono ?_
 rintro e w1 ⟨A, n, c, rfl, hn⟩
 have HN := Lib.hid hn
 clear hn
 go_wp2_with fail
 go_ret2
 exact ⟨A, n, c, rfl, HN.out⟩
def DS.size (s : DS) (n : Nm) : Nat × Nat := if s.down = true then (0, 34) else if s.there n ≠ 0 then (0, s.there n) else (((s.find n).map fun f => f.data.length).getD 0, 0)
def DS.read (s : DS) (n : Nm) (at_ m : Int) : List UInt8 × Nat :=
 if s.down = true then ([], 34) else if s.there n ≠ 0 then ([], s.there n) else
 let b := ((s.find n).map fun f => f.data).getD []
 if at_ < 0 ∨ m < 0 ∨ (b.length : Int) < at_ ∨ (b.length : Int) - at_ < m then ([], 1) else ((b.drop at_.toNat).take m.toNat, 0)
set_option maxRecDepth 100000 in
set_option maxHeartbeats 2000000 in
theorem Size_calls (w : World) (d : Nat) (s : DS) (F : List Nat) (n : Nm) (hD : DiskAt w d s F) (hn : n.length ≤ 9223372036854775807) :
  Calls Tryz.prog 116 #[.pointer (some ⟨d, 0, none⟩), .string (bstr n)] w fun e w' => e = .returned (.tuple #[.int .i64 ((s.size n).1 : Int), .int .i64 ((s.size n).2 : Int)]) ∧ New w w' := by
 obtain ⟨bm, hb⟩ := hD.cells
 have c4 : w.cell? ⟨d, 4, none⟩ = some (.bool s.down) := (cell_of_block hb).trans rfl
 have HD := Lib.hid hD
 clear hb hD
 cases hdn : s.down with
 | true =>
  have hr : s.size n = (0, 34) := by unfold DS.size; rw [if_pos hdn]
  rw [hr]
  rw [hdn] at c4
  clear hr hdn
  go_enter Tryz.func116, Tryz.ntmps116
  go_wp2_with fail
  go_ret2
  exact ⟨rfl, Kp.refl _ _⟩
 | false =>
  rw [hdn] at c4
  by_cases ht : s.there n = 0
  ·obtain ⟨_, f, hf⟩ := there_zero ht
   have hr : s.size n = (f.data.length, 0) := by unfold DS.size; rw [if_neg (by rw [hdn]; simp), if_neg (fun h => h ht), hf]; rfl
   rw [hr]
   have HF := Lib.hid (And.intro hf ht)
   clear hr hdn hf ht
   go_enter Tryz.func116, Tryz.ntmps116
   go_wp2_with fail
   refine (there_calls w d s F n HD.out hn).mono ?_
   rintro e w1 ⟨rfl, hn1⟩
   rw [HF.out.2]
   obtain ⟨bm, xs, hX, -⟩ := HD.out.new hn1
   obtain ⟨x, l1, l2, rfl, rfl, -, hat⟩ := hX.look_some HF.out.1
   have e1 : w1.cell? ⟨d, 2, none⟩ = some (.map (some bm)) := (cell_of_block hX.blk).trans rfl
   have e2 : w1.cell? ⟨x.b, 0, none⟩ = some (.slice x.A x.f.data.length x.c) := (cell_of_block hX.mem_cut.1).trans rfl
   have hlk : (Instr.lookup 83 (.map (some bm)) (.string (bstr n)) false).run Tryz.prog w1 = .ok (.pointer (some ⟨x.b, 0, none⟩)) w1 := by rw [run_look_at hX.map n, hat]; rfl
   have HN := Lib.hid hn1
   clear hn1 hX hat
   go_wp2_with fail
   go_ret2
   exact ⟨rfl, HN.out⟩
  ·have hr : s.size n = (0, s.there n) := by unfold DS.size; rw [if_neg (by rw [hdn]; simp), if_pos ht]
   rw [hr]
   have hne : ((s.there n : Int) != 0) = true := by rw [bne_iff_ne]; omega
   clear hr hdn ht
   go_enter Tryz.func116, Tryz.ntmps116
   go_wp2_with fail
   refine (there_calls w d s F n HD.out hn).mono ?_
   rintro e w1 ⟨rfl, hn1⟩
   have HN := Lib.hid hn1
   clear hn1
   go_wp2_with fail
   go_ret2
   exact ⟨rfl, HN.out⟩
def ReadPost (w : World) (r : List UInt8 × Nat) (e : Ending) (w' : World) : Prop := ∃ A m c, e = .returned (.tuple #[.slice A m c, .int .i64 (r.2 : Int)]) ∧ NewBytes w r.1 w' A m c
theorem NewBytes.none_ (w w' : World) (h : New w w') : NewBytes w [] w' none 0 0 := ⟨rfl, Own.nil _ _ _, h, fun _ h => absurd h Bk.none_⟩
set_option maxRecDepth 100000 in
set_option maxHeartbeats 4000000 in
theorem Read_calls (w : World) (d : Nat) (s : DS) (F : List Nat) (n : Nm) (at_ m : Int) (hD : DiskAt w d s F) (hn : n.length ≤ 9223372036854775807) (ha1 : -9223372036854775808 ≤ at_) (ha2 : at_ ≤ 9223372036854775807) :
  Calls Tryz.prog 46 #[.pointer (some ⟨d, 0, none⟩), .string (bstr n), .int .i64 at_, .int .i64 m] w (ReadPost w (s.read n at_ m)) := by
 obtain ⟨bm, hb⟩ := hD.cells
 have c4 : w.cell? ⟨d, 4, none⟩ = some (.bool s.down) := (cell_of_block hb).trans rfl
 have HD := Lib.hid hD
 clear hb hD
 cases hdn : s.down with
 | true =>
  have hr : s.read n at_ m = ([], 34) := by unfold DS.read; rw [if_pos hdn]
  rw [hr]
  rw [hdn] at c4
  clear hr hdn
  go_enter Tryz.func46, Tryz.ntmps46
  go_wp2_with fail
  go_ret2
  exact ⟨_, _, _, rfl, NewBytes.none_ _ _ (Kp.refl _ _)⟩
 | false =>
  rw [hdn] at c4
  by_cases ht : s.there n = 0
  ·obtain ⟨_, f, hf⟩ := there_zero ht
   have hle := used_at' HD.out.ok hf
   have hus := HD.out.ok.used
   have hcap := HD.out.ok.cap
   have hr : s.read n at_ m = if at_ < 0 ∨ m < 0 ∨ (f.data.length : Int) < at_ ∨ (f.data.length : Int) - at_ < m then ([], 1) else ((f.data.drop at_.toNat).take m.toNat, 0) := by unfold DS.read; rw [if_neg (by rw [hdn]; simp), if_neg (fun h => h ht), hf]; rfl
   rw [hr]
   have HF := Lib.hid (And.intro hf ht)
   clear hr hdn hf ht
   by_cases hbad : at_ < 0 ∨ m < 0 ∨ (f.data.length : Int) < at_ ∨ (f.data.length : Int) - at_ < m
   ·rw [if_pos hbad]
    by_cases q1 : at_ < 0
    ·clear hbad
     go_enter Tryz.func46, Tryz.ntmps46
     go_wp2_with fail
     refine (there_calls w d s F n HD.out hn).mono ?_
     rintro e w1 ⟨rfl, hn1⟩
     rw [HF.out.2]
     obtain ⟨bm, xs, hX, -⟩ := HD.out.new hn1
     obtain ⟨x, l1, l2, rfl, rfl, -, hat⟩ := hX.look_some HF.out.1
     have e1 : w1.cell? ⟨d, 2, none⟩ = some (.map (some bm)) := (cell_of_block hX.blk).trans rfl
     have e2 : w1.cell? ⟨x.b, 0, none⟩ = some (.slice x.A x.f.data.length x.c) := (cell_of_block hX.mem_cut.1).trans rfl
     have hlk : (Instr.lookup 83 (.map (some bm)) (.string (bstr n)) false).run Tryz.prog w1 = .ok (.pointer (some ⟨x.b, 0, none⟩)) w1 := by rw [run_look_at hX.map n, hat]; rfl
     have hxo := hX.mem_cut.2
     have HN := Lib.hid (And.intro hn1 hxo)
     have hcc := hxo.cap
     clear hn1 hX hat hxo
     go_wp2_with fail
     go_ret2
     exact ⟨_, _, _, rfl, NewBytes.none_ _ _ HN.out.1⟩
    ·by_cases q2 : m < 0
     ·clear hbad
      go_enter Tryz.func46, Tryz.ntmps46
      go_wp2_with fail
      refine (there_calls w d s F n HD.out hn).mono ?_
      rintro e w1 ⟨rfl, hn1⟩
      rw [HF.out.2]
      obtain ⟨bm, xs, hX, -⟩ := HD.out.new hn1
      obtain ⟨x, l1, l2, rfl, rfl, -, hat⟩ := hX.look_some HF.out.1
      have e1 : w1.cell? ⟨d, 2, none⟩ = some (.map (some bm)) := (cell_of_block hX.blk).trans rfl
      have e2 : w1.cell? ⟨x.b, 0, none⟩ = some (.slice x.A x.f.data.length x.c) := (cell_of_block hX.mem_cut.1).trans rfl
      have hlk : (Instr.lookup 83 (.map (some bm)) (.string (bstr n)) false).run Tryz.prog w1 = .ok (.pointer (some ⟨x.b, 0, none⟩)) w1 := by rw [run_look_at hX.map n, hat]; rfl
      have hxo := hX.mem_cut.2
      have HN := Lib.hid (And.intro hn1 hxo)
      have hcc := hxo.cap
      clear hn1 hX hat hxo
      go_wp2_with fail
      go_ret2
      exact ⟨_, _, _, rfl, NewBytes.none_ _ _ HN.out.1⟩
     ·by_cases q3 : (f.data.length : Int) < at_
      ·clear hbad
       go_enter Tryz.func46, Tryz.ntmps46
       go_wp2_with fail
       refine (there_calls w d s F n HD.out hn).mono ?_
       rintro e w1 ⟨rfl, hn1⟩
       rw [HF.out.2]
       obtain ⟨bm, xs, hX, -⟩ := HD.out.new hn1
       obtain ⟨x, l1, l2, rfl, rfl, -, hat⟩ := hX.look_some HF.out.1
       have e1 : w1.cell? ⟨d, 2, none⟩ = some (.map (some bm)) := (cell_of_block hX.blk).trans rfl
       have e2 : w1.cell? ⟨x.b, 0, none⟩ = some (.slice x.A x.f.data.length x.c) := (cell_of_block hX.mem_cut.1).trans rfl
       have hlk : (Instr.lookup 83 (.map (some bm)) (.string (bstr n)) false).run Tryz.prog w1 = .ok (.pointer (some ⟨x.b, 0, none⟩)) w1 := by rw [run_look_at hX.map n, hat]; rfl
       have hxo := hX.mem_cut.2
       have HN := Lib.hid (And.intro hn1 hxo)
       have hcc := hxo.cap
       clear hn1 hX hat hxo
       go_wp2_with fail
       go_ret2
       exact ⟨_, _, _, rfl, NewBytes.none_ _ _ HN.out.1⟩
      ·have q4 : (f.data.length : Int) - at_ < m := hbad.elim (fun h => absurd h q1) (fun h => h.elim (fun h => absurd h q2) (fun h => h.elim (fun h => absurd h q3) id))
       clear hbad
       go_enter Tryz.func46, Tryz.ntmps46
       go_wp2_with fail
       refine (there_calls w d s F n HD.out hn).mono ?_
       rintro e w1 ⟨rfl, hn1⟩
       rw [HF.out.2]
       obtain ⟨bm, xs, hX, -⟩ := HD.out.new hn1
       obtain ⟨x, l1, l2, rfl, rfl, -, hat⟩ := hX.look_some HF.out.1
       have e1 : w1.cell? ⟨d, 2, none⟩ = some (.map (some bm)) := (cell_of_block hX.blk).trans rfl
       have e2 : w1.cell? ⟨x.b, 0, none⟩ = some (.slice x.A x.f.data.length x.c) := (cell_of_block hX.mem_cut.1).trans rfl
       have hlk : (Instr.lookup 83 (.map (some bm)) (.string (bstr n)) false).run Tryz.prog w1 = .ok (.pointer (some ⟨x.b, 0, none⟩)) w1 := by rw [run_look_at hX.map n, hat]; rfl
       have hxo := hX.mem_cut.2
       have HN := Lib.hid (And.intro hn1 hxo)
       have hcc := hxo.cap
       clear hn1 hX hat hxo
       go_wp2_with fail
       go_ret2
       exact ⟨_, _, _, rfl, NewBytes.none_ _ _ HN.out.1⟩
   ·rw [if_neg hbad]
    obtain ⟨a, rfl⟩ : ∃ a : Nat, at_ = a := ⟨at_.toNat, by omega⟩
    obtain ⟨k, rfl⟩ : ∃ k : Nat, m = k := ⟨m.toNat, by omega⟩
    have q3 : ¬ (f.data.length : Int) < a := by omega
    have q4 : ¬ (f.data.length : Int) - a < k := by omega
    rw [Int.toNat_natCast, Int.toNat_natCast]
    clear hbad ha1 ha2
    go_enter Tryz.func46, Tryz.ntmps46
    go_wp2_with fail
    refine (there_calls w d s F n HD.out hn).mono ?_
    rintro e w1 ⟨rfl, hn1⟩
    rw [HF.out.2]
    obtain ⟨bm, xs, hX, -⟩ := HD.out.new hn1
    obtain ⟨x, l1, l2, rfl, rfl, -, hat⟩ := hX.look_some HF.out.1
    have e1 : w1.cell? ⟨d, 2, none⟩ = some (.map (some bm)) := (cell_of_block hX.blk).trans rfl
    have e2 : w1.cell? ⟨x.b, 0, none⟩ = some (.slice x.A x.f.data.length x.c) := (cell_of_block hX.mem_cut.1).trans rfl
    have hlk : (Instr.lookup 83 (.map (some bm)) (.string (bstr n)) false).run Tryz.prog w1 = .ok (.pointer (some ⟨x.b, 0, none⟩)) w1 := by rw [run_look_at hX.map n, hat]; rfl
    have hxo := hX.mem_cut.2
    have HN := Lib.hid (And.intro hn1 hxo)
    have hcc := hxo.cap
    clear hn1 hX hat hxo
    have hs : ∀ w, (Instr.slice 55 (.slice x.A x.f.data.length x.c) (some (.int .i64 (a : Int))) (some (.int .i64 ((a : Int) + (k : Int)))) none).run Tryz.prog w = .ok (.slice (adv x.A x.c a 1) k (x.c - a)) w := fun w => by
     have := run_slice_mid (P := Tryz.prog) 55 5 Tryz.underlying55 1 Tryz.size_u8 x.A x.f.data.length x.c a (a + k) (by omega) (by omega) w
     rw [show a + k - a = k by omega] at this
     exact this
    have hrd : RdB w1 (adv x.A x.c a 1) ((x.f.data.drop a).take k) := by
     have := HN.out.2.rd.adv x.c a (a + k) (by omega) (by omega)
     rwa [show a + k - a = k by omega] at this
    have HR := Lib.hid hrd
    clear hrd
    go_wp2_with fail
    refine (Clone_calls w1 (adv x.A x.c a 1) k (x.c - a) _ HR.out (by rw [List.length_take, List.length_drop]; omega) (by omega)).mono ?_
    rintro e w2 ⟨A, m, c, rfl, hc⟩
    have HC := Lib.hid hc
    clear hc
    go_wp2_with fail
    go_ret2
    exact ⟨A, m, c, rfl, HC.out.1, HC.out.2.1, HN.out.1.trans HC.out.2.2.1 fid fid, fun j hj => by have := HC.out.2.2.2 j hj; have := HN.out.1.size; omega⟩
  ·have hr : s.read n at_ m = ([], s.there n) := by unfold DS.read; rw [if_neg (by rw [hdn]; simp), if_pos ht]
   rw [hr]
   have hne : ((s.there n : Int) != 0) = true := by rw [bne_iff_ne]; omega
   clear hr hdn ht
   go_enter Tryz.func46, Tryz.ntmps46
   go_wp2_with fail
   refine (there_calls w d s F n HD.out hn).mono ?_
   rintro e w1 ⟨rfl, hn1⟩
   have HN := Lib.hid hn1
   clear hn1
   go_wp2_with fail
   go_ret2
   exact ⟨_, _, _, rfl, NewBytes.none_ _ _ HN.out⟩
end Go.Proofs.YtekcoeonlfmebaaGreatDoor.Kit
