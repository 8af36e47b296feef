/- 1 texts in one: disk.Crash: what is synced stays, and of the rest what it is told. -/
import Derived.Test.YtekcoeonlfmebaaGreatDoorM25
import Derived.Lib.MinMax
namespace Go.Proofs.YtekcoeonlfmebaaGreatDoor.Kit
open Go Go.RowKit
set_option maxRecDepth 100000 in
set_option maxHeartbeats 8000000 in
theorem Crash_calls (w : World) (d : Nat) (s : DS) (F : List Nat) (KA : Option Addr) (n c : Nat) (keep : List Int) (hD : DiskAt w d s F) (hn : n = keep.length) (hK : RdN w KA keep) (hkl : keep.length ≤ 9223372036854775807) (hkb : ∀ v ∈ keep, -9223372036854775808 ≤ v ∧ v ≤ 9223372036854775807) (hA : ∀ k, Bk KA k → k ∉ F) :
  Calls Tryz.prog 45 #[.pointer (some ⟨d, 0, none⟩), .slice KA n c] w fun e w' => e = .returned (.tuple #[]) ∧ ∃ F', DiskAt w' d (s.crash keep) F' ∧ Mv F F' w w' := by
 subst hn
 have HD := Lib.hid hD
 have HK := Lib.hid (And.intro hK (And.intro hkb hA))
 have hmo : Tryz.prog.follows Departure.mixedOrders = true := by kernel_rfl
 clear hD hK hkb hA
 go_enter Tryz.func45, Tryz.ntmps45
 go_wp2_with fail
 refine (names_calls w d s F HD.out).mono ?_
 rintro e W2 ⟨AN, nN, cN, rfl, hl, hO, hn, hf⟩
 have hlN : nN ≤ 64 := by rw [hl]; have := HD.out.ok.few; simpa [DS.namesOf] using this
 have HN := Lib.hid (And.intro hl (And.intro hO (And.intro hn hf)))
 clear hl hO hn hf
 go_wp2_with fail
 go_loopw [11] (fun i wr => ∃ (k : Nat) (G : List Nat), k ≤ nN ∧ i = .int .i64 (k : Int) ∧ Hid (DiskAt wr d (s.part keep k) G ∧ Mv F G W2 wr)) (fun i _ => nN - (intOf i).toNat)
 case atStart => exact ⟨0, F, Nat.zero_le _, rfl, Lib.hid ⟨by rw [DS.part_zero]; exact HD.out.new HN.out.2.2.1, Mv.refl _ _⟩⟩
 case round =>
  obtain ⟨k, G, hk, rfl, HI⟩ := hrel
  by_cases hlt : k < nN
  ·obtain ⟨f, hf⟩ : ∃ f, s.files[k]? = some f := ⟨_, List.getElem?_eq_getElem (by have := HN.out.1; simp only [DS.namesOf, List.length_map] at this; omega)⟩
   obtain ⟨bm, xs, hX, hG⟩ := HI.out.1
   have hfind := find_file hX.ok (DS.part_at keep hf)
   obtain ⟨x, l1, l2, rfl, rfl, -, hat⟩ := hX.look_some hfind
   obtain ⟨gN, rfl⟩ := HN.out.2.1.some_ (by omega)
   have hON := HN.out.2.1.kp HI.out.2.1 (fun j hb hj => by have h1 := HN.out.2.2.2 j hb; have h2 := HD.out.lt j hj; omega)
   have e0 : wr.cell? ⟨gN, k, none⟩ = some (.string (bstr x.f.name)) := hON.cell (by simp [DS.namesOf, hf])
   have e1 : wr.cell? ⟨d, 2, none⟩ = some (.map (some bm)) := (cell_of_block hX.blk).trans rfl
   have hlk : (Instr.lookup 83 (.map (some bm)) (.string (bstr x.f.name)) false).run Tryz.prog wr = .ok (.pointer (some ⟨x.b, 0, none⟩)) wr := by rw [run_look_at hX.map x.f.name, hat]; rfl
   have hxb := hX.mem_cut
   have e2 : wr.cell? ⟨x.b, 0, none⟩ = some (.slice x.A x.f.data.length x.c) := (cell_of_block hxb.1).trans rfl
   have e3 : wr.cell? ⟨x.b, 1, none⟩ = some (.int .i64 (x.f.syn : Int)) := (cell_of_block hxb.1).trans rfl
   have e4 : wr.cell? ⟨d, 1, none⟩ = some (.int .i64 ((s.part keep k).used : Int)) := (cell_of_block hX.blk).trans rfl
   have z4 : wr.frozen? ⟨d, 1, none⟩ = false := by simp [World.frozen?, hX.blk]
   have hsy := hX.ok.syn x.f (List.mem_of_find?_eq_some hfind)
   have hle := leftOf_le hsy k keep
   have hdl2 := used_at' hX.ok hfind
   have hcap : s.cap ≤ 1048576 := hX.ok.cap
   have hus : (s.part keep k).used ≤ s.cap := hX.ok.used
   have hcl := hxb.2.cap
   obtain ⟨q, hq⟩ : ∃ q, leftOf x.f k keep = x.f.syn + q := ⟨leftOf x.f k keep - x.f.syn, by omega⟩
   rw [hq] at hle
   generalize hU : (s.part keep k).used = U at e4 hdl2 hus
   have hki : (k : Int) < (nN : Int) := by omega
   have hk0 : (0 : Int) ≤ k := by omega
   have hw1 : IntKind.i64.wrap ((x.f.data.length : Int) - (x.f.syn : Int)) = (x.f.data.length : Int) - (x.f.syn : Int) := by rw [IntKind.wrap_i64]; omega
   have HX := Lib.hid (And.intro hX (And.intro hxb (And.intro hf (And.intro hq (And.intro hU hG)))))
   clear hX hxb hf hU hG hON hat hfind
   by_cases hke : keep = []
   ·have hkd : decide (0 < keep.length) = false := by rw [hke]; rfl
    have hq0 : q = 0 := by
     have := HX.out.2.2.2.1
     unfold leftOf at this
     rw [if_pos hke] at this
     omega
    subst hq0
    have hw3 : IntKind.i64.wrap ((U : Int) - ((x.f.data.length : Int) - (x.f.syn : Int))) = (U : Int) - ((x.f.data.length : Int) - (x.f.syn : Int)) := by rw [IntKind.wrap_i64]; omega
    have hw4 : IntKind.i64.wrap (x.f.syn : Int) = (x.f.syn : Int) := by rw [IntKind.wrap_i64]; omega
    clear hq hke
    go_wp2_with fail
    refine wp_region_line (fun w' => w'.cell? ⟨d, 1, none⟩ = some (.int .i64 (U : Int)) ∧ w'.cell? ⟨x.b, 0, none⟩ = some (.slice x.A x.f.data.length x.c) ∧ w'.cell? ⟨x.b, 1, none⟩ = some (.int .i64 (x.f.syn : Int))) (pl := [(0, true), (1, true), (2, true), (3, true), (4, true), (5, true), (6, true), (7, true), (8, true), (9, true), (10, true), (11, true), (12, true), (13, true), (14, true), (15, true), (16, true), (17, true), (18, true), (19, false)]) hmo (by kernel_rfl) ⟨by simpa using e4, by simpa using e2, by simpa using e3⟩ ?_
    iterate 19 (refine line_get rfl rfl (fun K hK => ?_); apply Exists.intro; refine ⟨fun w s => ?_, ?_⟩; (first | (have q := s rfl; go_simp; with_reducible rfl) | (go_simp; with_reducible rfl)); (go_simp; refine hK _ ?_; clear hK K))
    (refine line_do rfl rfl (fun K hK => ?_); go_simp)
    have y1 := heap_setCell_row (j := 1) HX.out.1.blk (.int .i64 ((U : Int) - ((x.f.data.length : Int) - (x.f.syn : Int))))
    obtain ⟨w7, hw7⟩ : ∃ w7, (wr.setCell ⟨d, 1, none⟩ (.int .i64 ((U : Int) - ((x.f.data.length : Int) - (x.f.syn : Int))))).drew = w7 := ⟨_, rfl⟩
    replace y1 : (wr.setCell ⟨d, 1, none⟩ (.int .i64 ((U : Int) - ((x.f.data.length : Int) - (x.f.syn : Int))))).drew.heap[d]? = _ := y1
    rw [hw7] at y1
    have k7 : Kp (fun j => j = d) wr w7 := hw7 ▸ (Kp.setCell (S := fun j => j = d) wr ⟨d, 1, none⟩ _ rfl).trans (Kp.drew _ _) fid fid
    rw [hw7]
    refine hK _ _ (no_need (by kernel_rfl)) ?_
    clear hK K hw7
    refine line_nil ?_
    have b7 : w7.heap[x.b]? = some (.cells x.cells 90 (0, 0)) := (k7.block x.b (Array.getElem?_eq_some_iff.1 HX.out.2.1.1).1 (HX.out.1.blk_ne.1 x.b List.mem_cons_self).1).trans HX.out.2.1.1
    have e2' : w7.cell? ⟨x.b, 0, none⟩ = some (.slice x.A x.f.data.length x.c) := (cell_of_block b7).trans rfl
    have e3' : w7.cell? ⟨x.b, 1, none⟩ = some (.int .i64 (x.f.syn : Int)) := (cell_of_block b7).trans rfl
    have z2' : w7.frozen? ⟨x.b, 0, none⟩ = false := by simp [World.frozen?, b7]
    have hs := run_slice_upto (P := Tryz.prog) 55 5 Tryz.underlying55 1 Tryz.size_u8 x.A x.f.data.length x.c (x.f.syn) (by omega)
    have hs0 := hs
    have HY := Lib.hid (And.intro y1 (And.intro k7 b7))
    clear y1 k7 b7 e0 e1 e2 e3 e4 z4 hlk
    go_wp2_with fail
    refine wp_region_line (fun w' => w'.cell? ⟨x.b, 0, none⟩ = some (.slice x.A x.f.data.length x.c) ∧ w'.cell? ⟨x.b, 1, none⟩ = some (.int .i64 (x.f.syn : Int))) (pl := [(0, true), (1, true), (2, true), (3, true), (4, true), (5, true), (6, true), (7, true), (8, true), (9, true), (10, true), (11, true), (12, false), (13, true), (14, true), (15, false)]) hmo (by kernel_rfl) ⟨by simpa using e2', by simpa using e3'⟩ ?_
    iterate 12 (refine line_get rfl rfl (fun K hK => ?_); apply Exists.intro; refine ⟨fun w s => ?_, ?_⟩; (first | (have q := s rfl; go_simp; with_reducible rfl) | (go_simp; with_reducible rfl)); (go_simp; refine hK _ ?_; clear hK K))
    (refine line_do rfl rfl (fun K hK => ?_); go_simp)
    refine (Clip_calls _ x.A (x.f.syn) x.c (by omega)).mono ?_
    rintro e w8 ⟨rfl, rfl⟩
    refine hK _ _ (fun _ => ⟨by simpa using e2', by simpa using e3'⟩) ?_
    clear hK K
    iterate 2 (refine line_get rfl rfl (fun K hK => ?_); apply Exists.intro; refine ⟨fun w s => ?_, ?_⟩; (first | (have q := s rfl; go_simp; with_reducible rfl) | (go_simp; with_reducible rfl)); (go_simp; refine hK _ ?_; clear hK K))
    (refine line_do rfl rfl (fun K hK => ?_); go_simp)
    have b8 : (w7.setCell ⟨x.b, 0, none⟩ (.slice x.A (x.f.syn) (x.f.syn))).drew.heap[x.b]? = _ := heap_setCell_row (j := 0) HY.out.2.2 (.slice x.A (x.f.syn) (x.f.syn))
    have k8 : Kp (fun j => j = x.b) w7 (w7.setCell ⟨x.b, 0, none⟩ (.slice x.A (x.f.syn) (x.f.syn))).drew := (Kp.setCell (S := fun j => j = x.b) w7 ⟨x.b, 0, none⟩ _ rfl).trans (Kp.drew _ _) fid fid
    generalize (w7.setCell ⟨x.b, 0, none⟩ (.slice x.A (x.f.syn) (x.f.syn))).drew = w8 at b8 k8 ⊢
    refine hK _ _ (no_need (by kernel_rfl)) ?_
    clear hK K
    refine line_nil ?_
    have f8 : w8.cell? ⟨x.b, 0, none⟩ = some (.slice x.A (x.f.syn) (x.f.syn)) := (cell_of_block b8).trans rfl
    have g8 : w8.cell? ⟨x.b, 1, none⟩ = some (.int .i64 (x.f.syn : Int)) := (cell_of_block b8).trans rfl
    have z8 : w8.frozen? ⟨x.b, 1, none⟩ = false := by simp [World.frozen?, b8]
    have HZ := Lib.hid (And.intro b8 k8)
    clear b8 k8 e2' e3' z2' hs
    go_wp2_with fail
    have k9 : Kp (fun j => j = d ∨ j = x.b) wr (w8.setCell ⟨x.b, 1, none⟩ (.int .i64 ((x.f.syn : Int)))) := (HY.out.2.1.trans HZ.out.2 (fun _ _ h => .inl h) (fun _ _ h => .inr h)).trans (Kp.setCell (S := fun j => j = x.b) w8 ⟨x.b, 1, none⟩ _ rfl) fid (fun _ _ h => .inr h)
    have hbd : x.b ≠ d := (HX.out.1.blk_ne.1 x.b List.mem_cons_self).1
    have d8 := (HZ.out.2.block d (Array.getElem?_eq_some_iff.1 HY.out.1).1 (fun e => hbd e.symm)).trans HY.out.1
    have d9 := ((Kp.setCell (S := fun j => j = x.b) w8 ⟨x.b, 1, none⟩ (.int .i64 ((x.f.syn : Int))) rfl).block d (Array.getElem?_eq_some_iff.1 d8).1 (fun e => hbd e.symm)).trans d8
    obtain ⟨G', p1, p2⟩ := Crash_step HX.out.1 HX.out.2.2.1 HX.out.2.2.2.1 HX.out.2.2.2.2.1 k9 d9 (by omega) (heap_setCell_row (j := 1) HZ.out.1 (.int .i64 ((x.f.syn : Int)))) (by omega)
    rw [← HX.out.2.2.2.2.2] at p2
    exact ⟨⟨k + 1, G', by omega, by go_num, Lib.hid ⟨p1, HI.out.2.trans p2⟩⟩, by simp [intOf]; omega⟩
   ·have hkp : 0 < keep.length := List.length_pos_iff.2 hke
    have hjl : k % keep.length < keep.length := Nat.mod_lt _ hkp
    obtain ⟨v, hv⟩ : ∃ v, keep[k % keep.length]? = some v := ⟨_, List.getElem?_eq_getElem hjl⟩
    obtain ⟨kb, koff, rfl, hkc⟩ := (HK.out.1.new HN.out.2.2.1).kp HI.out.2.1 HK.out.2.2 hke
    have ek := hkc _ _ hv
    have hvb := HK.out.2.1 v (List.mem_of_getElem? hv)
    have hmm : min (max v 0) ((x.f.data.length : Int) - (x.f.syn : Int)) = (q : Int) := by
     have := HX.out.2.2.2.1
     unfold leftOf at this
     rw [if_neg hke, List.getD_eq_getElem?_getD, hv, Option.getD_some] at this
     omega
    have hrm : Int.tmod (k : Int) (keep.length : Int) = ((k % keep.length : Nat) : Int) := rfl
    have hj1 : Int.tmod (k : Int) (keep.length : Int) < (keep.length : Int) := by omega
    have hj0 : (0 : Int) ≤ Int.tmod (k : Int) (keep.length : Int) := by omega
    have hjn : (Int.tmod (k : Int) (keep.length : Int)).toNat = k % keep.length := by omega
    clear hrm
    have hkz : ¬ (keep.length : Int) = 0 := by omega
    have hkd : decide (0 < keep.length) = true := decide_eq_true hkp
    have hw2 : IntKind.i64.wrap ((x.f.data.length : Int) - (x.f.syn : Int) - (q : Int)) = (x.f.data.length : Int) - (x.f.syn : Int) - (q : Int) := by rw [IntKind.wrap_i64]; omega
    have hw3 : IntKind.i64.wrap ((U : Int) - ((x.f.data.length : Int) - (x.f.syn : Int) - (q : Int))) = (U : Int) - ((x.f.data.length : Int) - (x.f.syn : Int) - (q : Int)) := by rw [IntKind.wrap_i64]; omega
    have hw4 : IntKind.i64.wrap ((x.f.syn : Int) + (q : Int)) = (x.f.syn : Int) + (q : Int) := by rw [IntKind.wrap_i64]; omega
    have HV := Lib.hid hv
    clear hkc hv hq hvb
    go_wp2_with fail
    refine wp_region_line (fun w' => w'.cell? ⟨kb, koff + k % keep.length, none⟩ = some (.int .i64 v) ∧ w'.cell? ⟨x.b, 0, none⟩ = some (.slice x.A x.f.data.length x.c) ∧ w'.cell? ⟨x.b, 1, none⟩ = some (.int .i64 (x.f.syn : Int))) (pl := [(0, true), (1, true), (2, true), (3, true), (4, true), (5, true), (6, true), (7, true), (8, true), (9, true), (10, true), (11, true), (12, true), (13, true), (14, true), (15, true), (16, true), (17, true), (18, true), (19, true)]) hmo (by kernel_rfl) ⟨by simpa using ek, by simpa using e2, by simpa using e3⟩ ?_
    iterate 20 (refine line_get rfl rfl (fun K hK => ?_); apply Exists.intro; refine ⟨fun w s => ?_, ?_⟩; (first | (have q := s rfl; go_simp; with_reducible rfl) | (go_simp; with_reducible rfl)); (go_simp; refine hK _ ?_; clear hK K))
    refine line_nil ?_
    go_wp2_with fail
    refine wp_region_line (fun w' => w'.cell? ⟨d, 1, none⟩ = some (.int .i64 (U : Int)) ∧ w'.cell? ⟨x.b, 0, none⟩ = some (.slice x.A x.f.data.length x.c) ∧ w'.cell? ⟨x.b, 1, none⟩ = some (.int .i64 (x.f.syn : Int))) (pl := [(0, true), (1, true), (2, true), (3, true), (4, true), (5, true), (6, true), (7, true), (8, true), (9, true), (10, true), (11, true), (12, true), (13, true), (14, true), (15, true), (16, true), (17, true), (18, true), (19, false)]) hmo (by kernel_rfl) ⟨by simpa using e4, by simpa using e2, by simpa using e3⟩ ?_
    iterate 19 (refine line_get rfl rfl (fun K hK => ?_); apply Exists.intro; refine ⟨fun w s => ?_, ?_⟩; (first | (have q := s rfl; go_simp; with_reducible rfl) | (go_simp; with_reducible rfl)); (go_simp; refine hK _ ?_; clear hK K))
    (refine line_do rfl rfl (fun K hK => ?_); go_simp)
    have y1 := heap_setCell_row (j := 1) HX.out.1.blk (.int .i64 ((U : Int) - ((x.f.data.length : Int) - (x.f.syn : Int) - (q : Int))))
    obtain ⟨w7, hw7⟩ : ∃ w7, (wr.setCell ⟨d, 1, none⟩ (.int .i64 ((U : Int) - ((x.f.data.length : Int) - (x.f.syn : Int) - (q : Int))))).drew = w7 := ⟨_, rfl⟩
    replace y1 : (wr.setCell ⟨d, 1, none⟩ (.int .i64 ((U : Int) - ((x.f.data.length : Int) - (x.f.syn : Int) - (q : Int))))).drew.heap[d]? = _ := y1
    rw [hw7] at y1
    have k7 : Kp (fun j => j = d) wr w7 := hw7 ▸ (Kp.setCell (S := fun j => j = d) wr ⟨d, 1, none⟩ _ rfl).trans (Kp.drew _ _) fid fid
    rw [hw7]
    refine hK _ _ (no_need (by kernel_rfl)) ?_
    clear hK K hw7
    refine line_nil ?_
    have b7 : w7.heap[x.b]? = some (.cells x.cells 90 (0, 0)) := (k7.block x.b (Array.getElem?_eq_some_iff.1 HX.out.2.1.1).1 (HX.out.1.blk_ne.1 x.b List.mem_cons_self).1).trans HX.out.2.1.1
    have e2' : w7.cell? ⟨x.b, 0, none⟩ = some (.slice x.A x.f.data.length x.c) := (cell_of_block b7).trans rfl
    have e3' : w7.cell? ⟨x.b, 1, none⟩ = some (.int .i64 (x.f.syn : Int)) := (cell_of_block b7).trans rfl
    have z2' : w7.frozen? ⟨x.b, 0, none⟩ = false := by simp [World.frozen?, b7]
    have hs := run_slice_upto (P := Tryz.prog) 55 5 Tryz.underlying55 1 Tryz.size_u8 x.A x.f.data.length x.c (x.f.syn + q) (by omega)
    rw [Int.natCast_add] at hs
    have HY := Lib.hid (And.intro y1 (And.intro k7 b7))
    clear y1 k7 b7 e0 e1 e2 e3 e4 z4 hlk
    go_wp2_with fail
    refine wp_region_line (fun w' => w'.cell? ⟨x.b, 0, none⟩ = some (.slice x.A x.f.data.length x.c) ∧ w'.cell? ⟨x.b, 1, none⟩ = some (.int .i64 (x.f.syn : Int))) (pl := [(0, true), (1, true), (2, true), (3, true), (4, true), (5, true), (6, true), (7, true), (8, true), (9, true), (10, true), (11, true), (12, false), (13, true), (14, true), (15, false)]) hmo (by kernel_rfl) ⟨by simpa using e2', by simpa using e3'⟩ ?_
    iterate 12 (refine line_get rfl rfl (fun K hK => ?_); apply Exists.intro; refine ⟨fun w s => ?_, ?_⟩; (first | (have q := s rfl; go_simp; with_reducible rfl) | (go_simp; with_reducible rfl)); (go_simp; refine hK _ ?_; clear hK K))
    (refine line_do rfl rfl (fun K hK => ?_); go_simp)
    refine (Clip_calls _ x.A (x.f.syn + q) x.c (by omega)).mono ?_
    rintro e w8 ⟨rfl, rfl⟩
    refine hK _ _ (fun _ => ⟨by simpa using e2', by simpa using e3'⟩) ?_
    clear hK K
    iterate 2 (refine line_get rfl rfl (fun K hK => ?_); apply Exists.intro; refine ⟨fun w s => ?_, ?_⟩; (first | (have q := s rfl; go_simp; with_reducible rfl) | (go_simp; with_reducible rfl)); (go_simp; refine hK _ ?_; clear hK K))
    (refine line_do rfl rfl (fun K hK => ?_); go_simp)
    have b8 : (w7.setCell ⟨x.b, 0, none⟩ (.slice x.A (x.f.syn + q) (x.f.syn + q))).drew.drew.heap[x.b]? = _ := heap_setCell_row (j := 0) HY.out.2.2 (.slice x.A (x.f.syn + q) (x.f.syn + q))
    have k8 : Kp (fun j => j = x.b) w7 (w7.setCell ⟨x.b, 0, none⟩ (.slice x.A (x.f.syn + q) (x.f.syn + q))).drew.drew := (Kp.setCell (S := fun j => j = x.b) w7 ⟨x.b, 0, none⟩ _ rfl).trans ((Kp.drew _ _).trans (Kp.drew _ _) fid fid) fid fid
    generalize (w7.setCell ⟨x.b, 0, none⟩ (.slice x.A (x.f.syn + q) (x.f.syn + q))).drew.drew = w8 at b8 k8 ⊢
    refine hK _ _ (no_need (by kernel_rfl)) ?_
    clear hK K
    refine line_nil ?_
    have f8 : w8.cell? ⟨x.b, 0, none⟩ = some (.slice x.A (x.f.syn + q) (x.f.syn + q)) := (cell_of_block b8).trans rfl
    have g8 : w8.cell? ⟨x.b, 1, none⟩ = some (.int .i64 (x.f.syn : Int)) := (cell_of_block b8).trans rfl
    have z8 : w8.frozen? ⟨x.b, 1, none⟩ = false := by simp [World.frozen?, b8]
    have HZ := Lib.hid (And.intro b8 k8)
    clear b8 k8 e2' e3' z2' hs
    go_wp2_with fail
    have k9 : Kp (fun j => j = d ∨ j = x.b) wr (w8.setCell ⟨x.b, 1, none⟩ (.int .i64 ((x.f.syn : Int) + (q : Int)))) := (HY.out.2.1.trans HZ.out.2 (fun _ _ h => .inl h) (fun _ _ h => .inr h)).trans (Kp.setCell (S := fun j => j = x.b) w8 ⟨x.b, 1, none⟩ _ rfl) fid (fun _ _ h => .inr h)
    have hbd : x.b ≠ d := (HX.out.1.blk_ne.1 x.b List.mem_cons_self).1
    have d8 := (HZ.out.2.block d (Array.getElem?_eq_some_iff.1 HY.out.1).1 (fun e => hbd e.symm)).trans HY.out.1
    have d9 := ((Kp.setCell (S := fun j => j = x.b) w8 ⟨x.b, 1, none⟩ (.int .i64 ((x.f.syn : Int) + (q : Int))) rfl).block d (Array.getElem?_eq_some_iff.1 d8).1 (fun e => hbd e.symm)).trans d8
    obtain ⟨G', p1, p2⟩ := Crash_step HX.out.1 HX.out.2.2.1 HX.out.2.2.2.1 HX.out.2.2.2.2.1 k9 d9 (by omega) (heap_setCell_row (j := 1) HZ.out.1 (.int .i64 ((x.f.syn : Int) + (q : Int)))) (by omega)
    rw [← HX.out.2.2.2.2.2] at p2
    exact ⟨⟨k + 1, G', by omega, by go_num, Lib.hid ⟨p1, HI.out.2.trans p2⟩⟩, by simp [intOf]; omega⟩
  ·have hke : k = nN := by omega
   have hkd : decide (k < nN) = false := decide_eq_false hlt
   have hkn : ¬ (k : Int) < (nN : Int) := by omega
   obtain ⟨bm, xs, hX, hG⟩ := HI.out.1
   have s3 : wr.cell? ⟨d, 3, none⟩ = some (.int .i64 s.fuse) := (cell_of_block hX.blk).trans rfl
   have s4 : wr.cell? ⟨d, 4, none⟩ = some (.bool s.down) := (cell_of_block hX.blk).trans rfl
   have z3 : wr.frozen? ⟨d, 3, none⟩ = false := by simp [World.frozen?, hX.blk]
   have z4 : wr.frozen? ⟨d, 4, none⟩ = false := by simp [World.frozen?, hX.blk]
   have HX := Lib.hid (And.intro hX hG)
   clear hX hG
   go_wp2_with fail
   go_end0
   have g1 := heap_setCell_row (j := 4) HX.out.1.blk (.bool false)
   have g2 := heap_setCell_row (j := 3) g1 (.int .i64 (-1))
   have kz : Kp (fun j => j = d) wr ((wr.setCell ⟨d, 4, none⟩ (.bool false)).setCell ⟨d, 3, none⟩ (.int .i64 (-1))) := (Kp.setCell (S := fun j => j = d) wr ⟨d, 4, none⟩ _ rfl).trans (Kp.setCell (S := fun j => j = d) _ ⟨d, 3, none⟩ _ rfl) fid fid
   obtain ⟨p1, p2⟩ := Crash_end HD.out.ok HX.out.1 (by have := HN.out.1; simp only [DS.namesOf, List.length_map] at this; omega) kz g2
   rw [← HX.out.2] at p1 p2
   exact ⟨rfl, G, p1, ((Mv.of_new HN.out.2.2.1).trans HI.out.2).trans p2⟩
end Go.Proofs.YtekcoeonlfmebaaGreatDoor.Kit
