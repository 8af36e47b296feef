/- 2 texts in one: daybookref03: Down, Free, Size.; daybookref03: List. -/
import Derived.Test.YtekcoeonlfmebaaGreatDoorM29
namespace Go.Proofs.YtekcoeonlfmebaaGreatDoor.Kit
open Go Go.RowKit
set_option maxHeartbeats 1000000 in
theorem RDown_calls (w : World) (r : Nat) (s : DS) (F : List Nat) (h : RefAt w r s F) :
  Calls Tryz.prog 123 #[.pointer (some ⟨r, 0, none⟩)] w fun e w' => e = .returned (.bool s.down) ∧ w = w' := by
 obtain ⟨A, c, ys, hX, rfl⟩ := h
 have c3 : w.cell? ⟨r, 3, none⟩ = some (.bool s.down) := (cell_of_block hX.blk).trans rfl
 clear hX
 go_enter Tryz.func123, Tryz.ntmps123
 go_wp2
 go_ret
 exact ⟨rfl, rfl⟩
set_option maxRecDepth 100000 in
set_option maxHeartbeats 2000000 in
theorem RFree_calls (w : World) (r : Nat) (s : DS) (F : List Nat) (h : RefAt w r s F) :
  Calls Tryz.prog 122 #[.pointer (some ⟨r, 0, none⟩)] w fun e w' => e = .returned (.int .i64 ((s.cap : Int) - s.used)) ∧ New w w' := by
 have hmo : Tryz.prog.follows Departure.mixedOrders = true := by kernel_rfl
 obtain ⟨A, c, ys, hX, rfl⟩ := h
 have c0 : w.cell? ⟨r, 0, none⟩ = some (.int .i64 (s.cap : Int)) := (cell_of_block hX.blk).trans rfl
 have c1 : w.cell? ⟨r, 1, none⟩ = some (.slice A ys.length c) := (cell_of_block hX.blk).trans rfl
 have c2 : w.cell? ⟨r, 2, none⟩ = some (.int .i64 s.fuse) := (cell_of_block hX.blk).trans rfl
 have c3 : w.cell? ⟨r, 3, none⟩ = some (.bool s.down) := (cell_of_block hX.blk).trans rfl
 have hfew := hX.few
 have hcap := hX.ok.cap
 have hused := hX.ok.used
 have hwr : IntKind.i64.wrap ((s.cap : Int) - (s.used : Int)) = (s.cap : Int) - (s.used : Int) := by rw [IntKind.wrap_i64]; omega
 have HX := Lib.hid hX
 have HU := Lib.hid (show usedF (ys.map FV.f) = s.used by rw [hX.files]; rfl)
 clear hX
 go_enter Tryz.func122, Tryz.ntmps122
 go_wp2_with fail
 refine wp_region_line (fun w' => w'.cell? ⟨r, 0, none⟩ = some (.int .i64 (s.cap : Int)) ∧ w'.cell? ⟨r, 1, none⟩ = some (.slice A ys.length c) ∧ w'.cell? ⟨r, 2, none⟩ = some (.int .i64 s.fuse) ∧ w'.cell? ⟨r, 3, none⟩ = some (.bool s.down)) (pl := [(0, true), (1, true), (2, true), (3, true), (4, true), (5, true), (6, true), (7, true), (8, true), (9, false), (10, true), (11, true)]) hmo (by kernel_rfl) ⟨by simpa using c0, by simpa using c1, by simpa using c2, by simpa using c3⟩ ?_
 iterate 9 (refine line_get rfl rfl (fun K hK => ?_); apply Exists.intro; refine ⟨fun w s => ?_, ?_⟩; (first | (have q := s rfl; go_simp; with_reducible rfl) | (go_simp; with_reducible rfl)); (go_simp; refine hK _ ?_; clear hK K))
 (refine line_do rfl rfl (fun K hK => ?_); go_simp)
 refine (RBytesV_calls w.drew s.cap s.fuse s.down A c ys s.used (HX.out.own.rd.new (Kp.drew _ _)) (by omega) HU.out (by omega)).mono ?_
 rintro e w2 ⟨rfl, n2⟩
 have n02 : New w w2 := (Kp.drew _ _).trans n2 fid fid
 refine hK _ _ (fun _ => ⟨n02.cell c0, n02.cell c1, n02.cell c2, n02.cell c3⟩) ?_
 clear hK K n2
 have HN := Lib.hid n02
 clear n02
 iterate 2 (refine line_get rfl rfl (fun K hK => ?_); apply Exists.intro; refine ⟨fun w s => ?_, ?_⟩; (first | (have q := s rfl; go_simp; with_reducible rfl) | (go_simp; with_reducible rfl)); (go_simp; refine hK _ ?_; clear hK K))
 refine line_nil ?_
 go_wp2_with fail
 go_ret
 exact ⟨rfl, HN.out⟩
set_option maxRecDepth 100000 in
set_option maxHeartbeats 2000000 in
theorem RSize_calls (w : World) (r : Nat) (s : DS) (F : List Nat) (n : Nm) (h : RefAt w r s F) (hn : n.length ≤ 9223372036854775807) :
  Calls Tryz.prog 117 #[.pointer (some ⟨r, 0, none⟩), .string (bstr n)] w fun e w' => e = .returned (.tuple #[.int .i64 ((s.size n).1 : Int), .int .i64 ((s.size n).2 : Int)]) ∧ w = w' := by
 obtain ⟨A, c, ys, hX, rfl⟩ := h
 have c1 : w.cell? ⟨r, 1, none⟩ = some (.slice A ys.length c) := (cell_of_block hX.blk).trans rfl
 have c3 : w.cell? ⟨r, 3, none⟩ = some (.bool s.down) := (cell_of_block hX.blk).trans rfl
 have HX := Lib.hid hX
 clear hX
 cases hdn : s.down with
 | true =>
  have hr : s.size n = (0, 34) := by unfold DS.size; rw [if_pos hdn]
  rw [hr]
  rw [hdn] at c3
  clear hr hdn
  go_enter Tryz.func117, Tryz.ntmps117
  go_wp2_with fail
  go_ret2
  exact ⟨rfl, rfl⟩
 | false =>
  rw [hdn] at c3
  by_cases ht : s.there n = 0
  ·obtain ⟨_, fl, hf⟩ := there_zero ht
   obtain ⟨i, y, hy, hyf, hyn, hz⟩ := HX.out.place hf
   have hpz : placeZ s n = (i : Int) := by unfold placeZ; rw [if_pos ht]; exact hz
   subst hyf
   have hr : s.size n = (y.f.data.length, 0) := by unfold DS.size; rw [if_neg (by rw [hdn]; simp), if_neg (fun h => h ht), hf]; rfl
   rw [hr]
   obtain ⟨g, rfl, r0, r1, r2, rf⟩ := HX.out.own.at_ hy
   have hil : i < ys.length := (List.getElem?_eq_some_iff.1 hy).1
   have hi0 : (0 : Int) ≤ i := by omega
   have hin : (i : Int) < (ys.length : Int) := by omega
   have HF := Lib.hid (And.intro ht hpz)
   clear hr hdn hf ht hy hyn hz hpz r0 r2 rf
   go_enter Tryz.func117, Tryz.ntmps117
   go_wp2_with fail
   refine (RThere_calls w r c s (some ⟨g, 0, none⟩) ys n HX.out hn).mono ?_
   rintro e x ⟨rfl, rfl⟩
   rw [HF.out.1, HF.out.2]
   go_wp2_with fail
   go_ret2
   exact ⟨rfl, rfl⟩
  ·have hr : s.size n = (0, s.there n) := by unfold DS.size; rw [if_neg (by rw [hdn]; simp), if_pos ht]
   rw [hr]
   have hne : ((s.there n : Int) != 0) = true := by rw [bne_iff_ne]; omega
   clear hr hdn ht
   go_enter Tryz.func117, Tryz.ntmps117
   go_wp2_with fail
   refine (RThere_calls w r c s A ys n HX.out hn).mono ?_
   rintro e x ⟨rfl, rfl⟩
   generalize placeZ s n = pz
   go_wp2_with fail
   go_ret2
   exact ⟨rfl, rfl⟩
def RListPost (w : World) (s : DS) (e : Ending) (w' : World) : Prop :=
 (s.down = true ∧ e = .returned (.tuple #[.slice none 0 0, .int .i64 34]) ∧ w = w') ∨ (s.down = false ∧ ∃ A n c, e = .returned (.tuple #[.slice A n c, .int .i64 0]) ∧ NewNames w s.namesOf w' A n c)
set_option maxRecDepth 100000 in
set_option maxHeartbeats 2000000 in
theorem RList_calls (w : World) (r : Nat) (s : DS) (F : List Nat) (h : RefAt w r s F) :
  Calls Tryz.prog 118 #[.pointer (some ⟨r, 0, none⟩)] w (RListPost w s) := by
 obtain ⟨A, c, ys, hX, rfl⟩ := h
 have c3 : w.cell? ⟨r, 3, none⟩ = some (.bool s.down) := (cell_of_block hX.blk).trans rfl
 have hfew := hX.few
 have HX := Lib.hid hX
 clear hX
 cases hdn : s.down with
 | true =>
  rw [hdn] at c3
  have HD := Lib.hid hdn
  clear hdn
  go_enter Tryz.func118, Tryz.ntmps118
  go_wp2_with fail
  go_ret2
  exact .inl ⟨HD.out, rfl, rfl⟩
 | false =>
  rw [hdn] at c3
  have HD := Lib.hid hdn
  clear hdn
  go_enter Tryz.func118, Tryz.ntmps118
  go_wp2_with fail
  go_loopw [4, 5] (fun o j wr => ∃ (k : Nat) (A1 : Option Addr) (c1 : Nat) (ss : List Nm), k ≤ ys.length ∧ ss.length = k ∧ j = .int .i64 (k : Int) ∧ o = .slice A1 ss.length c1 ∧ Hid (ss = (ys.take k).map (fun y => y.f.name) ∧ Own wr 9 1 A1 c1 ss.length (ss.map sv) ∧ New w wr ∧ ∀ j, Bk A1 j → w.heap.size ≤ j)) (fun _ i _ => ys.length - (intOf i).toNat)
  case atStart => exact ⟨0, none, 0, [], Nat.zero_le _, rfl, rfl, rfl, Lib.hid ⟨by simp, Own.nil _ _ _, Kp.refl _ _, fun j h => absurd h Bk.none_⟩⟩
  case round =>
   obtain ⟨k, A1, c1, ss, hk, hsk, rfl, rfl, HK⟩ := hrel
   have hk0 : (0 : Int) ≤ k := by omega
   have hXr := HX.out.new HK.out.2.2.1
   have d1 : wr.cell? ⟨r, 1, none⟩ = some (.slice A ys.length c) := (cell_of_block hXr.blk).trans rfl
   by_cases hlt : k < ys.length
   ·have hki : (k : Int) < (ys.length : Int) := by omega
    obtain ⟨y, hy⟩ : ∃ y, ys[k]? = some y := ⟨_, List.getElem?_eq_getElem hlt⟩
    obtain ⟨g, rfl, r0, -, -, -⟩ := hXr.own.at_ hy
    have HY := Lib.hid hy
    clear hy hXr
    go_wp2_with (at_builtin; refine wpList_append_src _ rfl (.tmp 21) (.tmp 31) 77 77 rfl 9 (.string ⟨#[]⟩) 1 16 Tryz.underlying77 Tryz.info_str rfl A1 c1 ss.length (ss.map sv) rfl (HK.out.2.1.new (Kp.alloc _ _ _)) _ rfl 1 _ (Src.ofNew _ Tryz.underlying77 #[sv y.f.name] 9 1 1 1 rfl (by simp [Value.oneCell'])) (by omega) (by omega) ?_; intro A3 c3 w3 h31 h32 h33; have H3 := Lib.hid (And.intro h31 (And.intro h32 h33)); clear h31 h32 h33)
    have zr := HK.out.2.2.1.size
    have nr : New w w3 := HK.out.2.2.1.trans ((Kp.alloc (Bk A1) wr (.cells #[sv y.f.name] 9)).trans H3.out.2.1 fid fid) fid (fun i hi h => by have := HK.out.2.2.2 i h; omega)
    refine ⟨⟨k + 1, A3, c3, ss ++ [y.f.name], by omega, by rw [List.length_append, hsk]; rfl, by go_num, by rw [List.length_append, hsk]; rfl, Lib.hid ⟨?_, ?_, nr, fun j hj => ?_⟩⟩, by simp [intOf]; omega⟩
    ·rw [List.take_add_one, HY.out, List.map_append, ← HK.out.1]
     rfl
    ·rw [List.map_append, List.length_append]
     exact H3.out.1
    ·rcases H3.out.2.2 j hj with h | h
     ·exact HK.out.2.2.2 j h
     ·rw [h]
      simp
      omega
   ·obtain rfl : k = ys.length := by omega
    have hkd := not_lt_self ys.length
    clear hXr
    go_wp2_with fail
    go_ret2
    have hn : s.namesOf = ss := by
     have := HK.out.1
     rw [List.take_length] at this
     unfold DS.namesOf
     rw [this, ← HX.out.files, List.map_map]
     rfl
    exact .inr ⟨HD.out, A1, ss.length, c1, rfl, by rw [hn], by rw [hn]; exact HK.out.2.1, HK.out.2.2.1, HK.out.2.2.2⟩
end Go.Proofs.YtekcoeonlfmebaaGreatDoor.Kit
