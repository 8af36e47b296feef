/- 1 texts in one: PRINTED by gen_plays.py. The play of the laws of the disk: a state that was handed out: its lists are kept, or written over. -/
import Derived.Test.YtekcoeonlfmebaaGreatDoorM25
namespace Go.Proofs.YtekcoeonlfmebaaGreatDoor.Kit
open Go Go.RowKit
theorem elt_flat {ys : List FV} {i : Nat} {y : FV} (hy : ys[i]? = some y) : elt (FV.flat ys) 3 i = cellsFiles y.f.name y.A y.f.data.length y.c (y.f.syn : Int) := by
 apply List.ext_getElem?
 intro j
 by_cases hj : j < 3
 ·rw [elt_get hj, FV.flat_get ys i j y hy hj]
  rfl
 ·have h1 : (elt (FV.flat ys) 3 i).length ≤ 3 := by unfold elt; rw [List.length_take]; omega
  rw [List.getElem?_eq_none (by omega), List.getElem?_eq_none (by simp [cellsFiles]; omega)]
theorem flat_wf (ys : List FV) : ∀ i, i < ys.length → kFiles.wf (elt (FV.flat ys) kFiles.sz i) := fun _ hi => ⟨_, _, _, _, _, elt_flat (List.getElem?_eq_getElem hi)⟩
theorem mem_fblks_take {ys : List FV} {k x : Nat} (h : x ∈ fblks (ys.take k)) : x ∈ fblks ys := (fblks_sub (List.take_sublist k ys)).subset h
theorem fblks_take_ne {ys : List FV} (hn : (fblks ys).Nodup) {k j : Nat} {y : FV} (hy : ys[j]? = some y) (hkj : k ≤ j) {x : Nat} (hx : Bk y.A x) : x ∉ fblks (ys.take k) := by
 intro hm
 obtain ⟨z, hz, hb⟩ := mem_fblks.1 hm
 obtain ⟨i, hi⟩ := List.mem_iff_getElem?.1 hz
 have hik : i < k := by
  have := (List.getElem?_eq_some_iff.1 hi).1
  rw [List.length_take] at this
  omega
 rw [List.getElem?_take, if_pos hik] at hi
 exact fblks_ne hn hi hy (by omega) hb hx
theorem fblks_take_succ {ys : List FV} {k : Nat} {y : FV} (hy : ys[k]? = some y) {x : Nat} : x ∈ fblks (ys.take (k + 1)) ↔ x ∈ fblks (ys.take k) ∨ Bk y.A x := by
 rw [List.take_add_one, hy]
 simp [fblks, mem_bks]
def Free (W0 : World) (D : Pairs) (Φ : Nat → Prop) (k : Nat) : Prop := W0.heap.size ≤ k ∧ ¬ Φ k ∧ ∀ i x, D i = some x → ¬ x.Fp k
def SPost (W0 : World) (g : Nat) (D : Pairs) (Φ : Nat → Prop) (w : World) (S : Nat → Prop) (e : Ending) (w' : World) : Prop :=
 e = .returned (.tuple #[]) ∧ ∃ Φ', Inv W0 g D Φ' w' ∧ Kp (fun k => Φ k ∨ S k) w w' ∧ ∀ k, Φ' k → Φ k ∨ S k ∨ w.heap.size ≤ k
def SSo (W0 : World) (g b0 : Nat) (D : Pairs) (Φ : Nat → Prop) (W : World) (S : Nat → Prop) (w' : World) : Prop :=
 ∃ Φ', Inv W0 g D Φ' w' ∧ ¬ Φ' b0 ∧ Kp (fun k => Φ k ∨ S k) W w' ∧ ∀ k, Φ' k → Φ k ∨ S k ∨ W.heap.size ≤ k
set_option maxRecDepth 100000 in
set_option maxHeartbeats 4000000 in
theorem state_false (W0 w : World) (g : Nat) (D : Pairs) (Φ : Nat → Prop) (cap fuse : Int) (down : Bool) (A : Option Addr) (c : Nat) (ys : List FV) (h : Inv W0 g D Φ w) (ho : OwnF w A c ys) (hf : ∀ k ∈ bks A ++ fblks ys, Free W0 D Φ k) (hl : ys.length ≤ 64) (hd : ∀ y ∈ ys, y.f.data.length ≤ 1048576) :
  Calls Tryz.prog 124 #[.pointer (some ⟨g, 0, none⟩), .agg #[.int .i64 cap, .slice A ys.length c, .int .i64 fuse, .bool down], .bool false] w (SPost W0 g D Φ w (· ∈ bks A ++ fblks ys)) := by
 have hmo : Tryz.prog.follows Departure.mixedOrders = true := by kernel_rfl
 have H := Lib.hid (And.intro h (And.intro ho (And.intro hf hd)))
 clear h ho hf hd
 go_enter Tryz.func124, Tryz.ntmps124
 go_wp2_with fail
 obtain ⟨W, hW⟩ : ∃ W, w.alloc (.cells #[.int .i64 cap, .slice A ys.length c, .int .i64 fuse, .bool down] 59) = W := ⟨_, rfl⟩
 rw [hW]
 have nW : New w W := hW ▸ Kp.alloc _ _ _
 have bW : W.heap[w.heap.size]? = some (.cells #[.int .i64 cap, .slice A ys.length c, .int .i64 fuse, .bool down] 59 (0, 0)) := hW ▸ heap_alloc_new w _
 have zW : W.heap.size = w.heap.size + 1 := by rw [← hW]; simp
 have HW := Lib.hid (And.intro nW (And.intro bW zW))
 clear hW nW bW zW
 go_loopw [6] (fun i wr => ∃ k : Nat, k ≤ ys.length ∧ i = .int .i64 (k : Int) ∧ Hid (SSo W0 g w.heap.size D Φ W (· ∈ fblks (ys.take k)) wr)) (fun i _ => ys.length - (intOf i).toNat)
 case atStart => exact ⟨0, Nat.zero_le _, rfl, Lib.hid ⟨Φ, H.out.1.new HW.out.1, fun hf => by have := H.out.1.book.lt _ hf; omega, Kp.refl _ _, fun k hk => .inl hk⟩⟩
 case round =>
  obtain ⟨k, hk, rfl, HK⟩ := hrel
  have hk0 : (0 : Int) ≤ k := by omega
  obtain ⟨Φk, hI, hb0, hkp, hsub⟩ := HK.out
  have hownA := H.out.2.1
  have hnd := List.nodup_append.1 hownA.2.2
  have kw : Kp (fun x => Φ x ∨ x ∈ fblks (ys.take k)) w wr := HW.out.1.trans hkp (fun _ _ h => h.elim) fid
  have hAk : ∀ x, Bk A x → ¬ (Φ x ∨ x ∈ fblks (ys.take k)) := fun x hx he => he.elim (H.out.2.2.1 x (List.mem_append_left _ (mem_bks.2 hx))).2.1 (fun hm => hnd.2.2 x (mem_bks.2 hx) x (mem_fblks_take hm) rfl)
  have hrow := hownA.1.kp kw hAk
  have brow : wr.heap[w.heap.size]? = _ := (hkp.block _ (Array.getElem?_eq_some_iff.1 HW.out.2.1).1 (fun he => he.elim (fun hf => by have := H.out.1.book.lt _ hf; omega) (fun hm => by have := hownA.lt _ (List.mem_append_right _ (mem_fblks_take hm)); omega))).trans HW.out.2.1
  have f1 : wr.cell? ⟨w.heap.size, 1, none⟩ = some (.slice A ys.length c) := (cell_of_block brow).trans rfl
  have HX := Lib.hid (And.intro hI (And.intro hb0 (And.intro hkp (And.intro hsub (And.intro hnd (And.intro kw (And.intro hAk (And.intro hrow brow))))))))
  clear HK hI hb0 hkp hsub hownA hnd kw hAk hrow brow
  by_cases hlt : k < ys.length
  ·have hki : (k : Int) < (ys.length : Int) := by omega
   obtain ⟨y, hy⟩ : ∃ y, ys[k]? = some y := ⟨_, List.getElem?_eq_getElem hlt⟩
   obtain ⟨gA, rfl⟩ := HX.out.2.2.2.2.2.2.2.1.some_ (by omega)
   have r1 : wr.cell? ⟨gA, k * 3 + 1, none⟩ = some (.slice y.A y.f.data.length y.c) := HX.out.2.2.2.2.2.2.2.1.cell ((FV.flat_get ys k 1 y hy (by omega)).trans rfl)
   have HY := Lib.hid hy
   clear hy
   go_wp2
   refine wp_region_line (fun w' => w'.cell? ⟨w.heap.size, 1, none⟩ = some (.slice (some ⟨gA, 0, none⟩) ys.length c) ∧ w'.cell? ⟨gA, k * 3 + 1, none⟩ = some (.slice y.A y.f.data.length y.c)) (pl := [(0, true), (1, true), (2, true), (3, true), (4, true), (5, true), (6, true), (7, true), (8, true), (9, false)]) hmo (by kernel_rfl) ⟨by simpa using f1, by simpa using r1⟩ ?_
   iterate 9 (refine line_get rfl rfl (fun K hK => ?_); apply Exists.intro; refine ⟨fun w s => ?_, ?_⟩; (first | (have q := s rfl; go_simp; with_reducible rfl) | (go_simp; with_reducible rfl)); (go_simp; refine hK _ ?_; clear hK K))
   (refine line_do rfl rfl (fun K hK => ?_); go_simp)
   obtain ⟨hI, hb0, hkp, hsub, hnd, kw, hAk, hrow, brow⟩ := HX.out
   have nd : New wr wr.drew := Kp.drew _ _
   have hI1 := hI.new nd
   have hym := List.mem_of_getElem? HY.out
   have hyb : ∀ x, Bk y.A x → x ∈ fblks ys := fun x hx => mem_fblks.2 ⟨y, hym, hx⟩
   have hOw := (H.out.2.1.2.1 y hym).kp kw (fun x hx he => he.elim (H.out.2.2.1 x (List.mem_append_right _ (hyb x hx))).2.1 (fblks_take_ne hnd.2.1 HY.out (Nat.le_refl _) hx))
   have hOy := hOw.new nd
   have hdl := H.out.2.2.2 y hym
   have hLy : ∀ x, Bk y.A x → ¬ Φk x := fun x hx hf => (hsub x hf).elim (H.out.2.2.1 x (List.mem_append_right _ (hyb x hx))).2.1 (fun h => h.elim (fblks_take_ne hnd.2.1 HY.out (Nat.le_refl _) hx) (fun h => by have := H.out.2.1.lt _ (List.mem_append_right _ (hyb x hx)); have := HW.out.1.size; omega))
   refine (KeepBytes3 _ g (pcOf D) Φk (fun _ => 0) rfl y.A y.f.data.length y.c (hI1.book) y.f.data hOy rfl (by omega) hLy).mono ?_
   rintro e w5 ⟨rfl, hp⟩
   have hq := hI1.put hp (fun x hx => (H.out.2.2.1 x (List.mem_append_right _ (hyb x hx))).1) (fun i z hz x hx hb => (H.out.2.2.1 x (List.mem_append_right _ (hyb x hb))).2.2 i z hz hx)
   have HQ := Lib.hid hq
   clear hq hp hI1 hOy hOw hLy hdl hym
   refine hK _ _ (no_need (by kernel_rfl)) ?_
   clear hK K hI hb0 hkp hsub hnd kw hAk hrow brow nd hyb
   refine line_nil ?_
   go_wp2_with fail
   refine ⟨⟨k + 1, by omega, by go_num, Lib.hid ?_⟩, by simp [intOf]; omega⟩
   obtain ⟨hI, hb0, hkp, hsub, hnd, kw, hAk, hrow, brow⟩ := HX.out
   obtain ⟨Φ', q1, q2, q3⟩ := HQ.out
   have hzd : (wr.drew).heap.size = wr.heap.size := rfl
   have hz1 := hkp.size
   have hb1 : w.heap.size < wr.heap.size := (Array.getElem?_eq_some_iff.1 brow).1
   refine ⟨Φ', q1, fun hf => (q3 _ hf).elim hb0 (fun h => h.elim (fun hb => by have := H.out.2.1.lt _ (List.mem_append_right _ (mem_fblks.2 ⟨y, List.mem_of_getElem? HY.out, hb⟩)); omega) (fun h => by omega)), hkp.trans ((Kp.drew (fun _ => False) wr).trans q2 (fun _ _ h => h.elim) fid) (fun x _ h => h.imp id fun h => (fblks_take_succ HY.out).2 (.inl h)) (fun x hx h => ?_), fun x hx => ?_⟩
   ·rcases h with h | h
    ·exact (hsub x h).imp id fun h => h.elim (fun h => (fblks_take_succ HY.out).2 (.inl h)) (fun h => by omega)
    ·exact .inr ((fblks_take_succ HY.out).2 (.inr h))
   ·rcases q3 x hx with h | h | h
    ·exact (hsub x h).imp id fun h => h.imp (fun h => (fblks_take_succ HY.out).2 (.inl h)) id
    ·exact .inr (.inl ((fblks_take_succ HY.out).2 (.inr h)))
    ·exact .inr (.inr (by omega))
  ·obtain rfl : k = ys.length := by omega
   have hkd : decide (ys.length < ys.length) = false := by simp
   go_wp2_with fail
   refine wp_region_line (fun w' => w'.cell? ⟨w.heap.size, 1, none⟩ = some (.slice A ys.length c)) (pl := [(0, true), (1, true), (2, true), (3, true), (4, true), (5, false)]) hmo (by kernel_rfl) (by simpa using f1) ?_
   iterate 5 (refine line_get rfl rfl (fun K hK => ?_); apply Exists.intro; refine ⟨fun w s => ?_, ?_⟩; (first | (have q := s rfl; go_simp; with_reducible rfl) | (go_simp; with_reducible rfl)); (go_simp; refine hK _ ?_; clear hK K))
   (refine line_do rfl rfl (fun K hK => ?_); go_simp)
   obtain ⟨hI, hb0, hkp, hsub, hnd, kw, hAk, hrow, brow⟩ := HX.out
   have nd : New wr wr.drew := Kp.drew _ _
   have hI1 := hI.new nd
   have hOA := hrow.new nd
   have hA := fun x (hx : Bk A x) => H.out.2.2.1 x (List.mem_append_left _ (mem_bks.2 hx))
   have hLA : ∀ x, Bk A x → ¬ Φk x := fun x hx hf => (hsub x hf).elim (hA x hx).2.1 (fun h => h.elim (fun hm => hnd.2.2 x (mem_bks.2 hx) x (mem_fblks_take hm) rfl) (fun h => by have := H.out.2.1.lt _ (List.mem_append_left _ (mem_bks.2 hx)); have := HW.out.1.size; omega))
   have hAt : ¬ Bk A 0 := fun hb => by have := (hA _ hb).1; have := hI.tabL; omega
   refine (KeepFiles3 _ g (pcOf D) Φk (fun _ => 0) rfl A ys.length c (hI1.book) (FV.flat ys) hOA (flat_wf ys) (by omega) hLA).mono ?_
   rintro e w5 ⟨rfl, hp⟩
   have hq := hI1.put hp (fun x hx => (hA x hx).1) (fun i z hz x hx hb => (hA x hb).2.2 i z hz hx)
   have HQ := Lib.hid hq
   clear hq hp hI1 hOA hLA hAt hA
   refine hK _ _ (no_need (by kernel_rfl)) ?_
   clear hK K hI hb0 hkp hsub hnd kw hAk hrow brow nd
   refine line_nil ?_
   go_wp2_with fail
   go_end0
   obtain ⟨hI, hb0, hkp, hsub, hnd, kw, hAk, hrow, brow⟩ := HX.out
   obtain ⟨Φ', q1, q2, q3⟩ := HQ.out
   have hzd : (wr.drew).heap.size = wr.heap.size := rfl
   have hz1 := kw.size
   refine ⟨rfl, Φ', q1, kw.trans ((Kp.drew (fun _ => False) wr).trans q2 (fun _ _ h => h.elim) fid) (fun x _ h => h.imp id fun h => List.mem_append_right _ (mem_fblks_take h)) (fun x hx h => ?_), fun x hx => ?_⟩
   ·rcases h with h | h
    ·exact (hsub x h).imp id fun h => h.elim (fun h => List.mem_append_right _ (mem_fblks_take h)) (fun h => by have := HW.out.1.size; omega)
    ·exact .inr (List.mem_append_left _ (mem_bks.2 h))
   ·rcases q3 x hx with h | h | h
    ·exact (hsub x h).imp id fun h => h.imp (fun h => List.mem_append_right _ (mem_fblks_take h)) (fun h => by have := HW.out.1.size; omega)
    ·exact .inr (.inl (List.mem_append_left _ (mem_bks.2 h)))
    ·exact .inr (.inr (by omega))
set_option maxRecDepth 100000 in
set_option maxHeartbeats 4000000 in
theorem state_true (W0 w : World) (g : Nat) (D : Pairs) (Φ : Nat → Prop) (cap fuse : Int) (down : Bool) (A : Option Addr) (c : Nat) (ys : List FV) (h : Inv W0 g D Φ w) (ho : OwnF w A c ys) (hf : ∀ k ∈ bks A ++ fblks ys, Free W0 D Φ k) (hl : ys.length ≤ 64) (hd : ∀ y ∈ ys, y.f.data.length ≤ 1048576) :
  Calls Tryz.prog 124 #[.pointer (some ⟨g, 0, none⟩), .agg #[.int .i64 cap, .slice A ys.length c, .int .i64 fuse, .bool down], .bool true] w (SPost W0 g D Φ w (· ∈ bks A ++ fblks ys)) := by
 have hmo : Tryz.prog.follows Departure.mixedOrders = true := by kernel_rfl
 have H := Lib.hid (And.intro h (And.intro ho (And.intro hf hd)))
 clear h ho hf hd
 go_enter Tryz.func124, Tryz.ntmps124
 go_wp2_with fail
 obtain ⟨W, hW⟩ : ∃ W, w.alloc (.cells #[.int .i64 cap, .slice A ys.length c, .int .i64 fuse, .bool down] 59) = W := ⟨_, rfl⟩
 rw [hW]
 have nW : New w W := hW ▸ Kp.alloc _ _ _
 have bW : W.heap[w.heap.size]? = some (.cells #[.int .i64 cap, .slice A ys.length c, .int .i64 fuse, .bool down] 59 (0, 0)) := hW ▸ heap_alloc_new w _
 have zW : W.heap.size = w.heap.size + 1 := by rw [← hW]; simp
 have HW := Lib.hid (And.intro nW (And.intro bW zW))
 clear hW nW bW zW
 go_loopw [6] (fun i wr => ∃ k : Nat, k ≤ ys.length ∧ i = .int .i64 (k : Int) ∧ Hid (SSo W0 g w.heap.size D Φ W (· ∈ fblks (ys.take k)) wr)) (fun i _ => ys.length - (intOf i).toNat)
 case atStart => exact ⟨0, Nat.zero_le _, rfl, Lib.hid ⟨Φ, H.out.1.new HW.out.1, fun hf => by have := H.out.1.book.lt _ hf; omega, Kp.refl _ _, fun k hk => .inl hk⟩⟩
 case round =>
  obtain ⟨k, hk, rfl, HK⟩ := hrel
  have hk0 : (0 : Int) ≤ k := by omega
  obtain ⟨Φk, hI, hb0, hkp, hsub⟩ := HK.out
  have hownA := H.out.2.1
  have hnd := List.nodup_append.1 hownA.2.2
  have kw : Kp (fun x => Φ x ∨ x ∈ fblks (ys.take k)) w wr := HW.out.1.trans hkp (fun _ _ h => h.elim) fid
  have hAk : ∀ x, Bk A x → ¬ (Φ x ∨ x ∈ fblks (ys.take k)) := fun x hx he => he.elim (H.out.2.2.1 x (List.mem_append_left _ (mem_bks.2 hx))).2.1 (fun hm => hnd.2.2 x (mem_bks.2 hx) x (mem_fblks_take hm) rfl)
  have hrow := hownA.1.kp kw hAk
  have brow : wr.heap[w.heap.size]? = _ := (hkp.block _ (Array.getElem?_eq_some_iff.1 HW.out.2.1).1 (fun he => he.elim (fun hf => by have := H.out.1.book.lt _ hf; omega) (fun hm => by have := hownA.lt _ (List.mem_append_right _ (mem_fblks_take hm)); omega))).trans HW.out.2.1
  have f1 : wr.cell? ⟨w.heap.size, 1, none⟩ = some (.slice A ys.length c) := (cell_of_block brow).trans rfl
  have HX := Lib.hid (And.intro hI (And.intro hb0 (And.intro hkp (And.intro hsub (And.intro hnd (And.intro kw (And.intro hAk (And.intro hrow brow))))))))
  clear HK hI hb0 hkp hsub hownA hnd kw hAk hrow brow
  by_cases hlt : k < ys.length
  ·have hki : (k : Int) < (ys.length : Int) := by omega
   obtain ⟨y, hy⟩ : ∃ y, ys[k]? = some y := ⟨_, List.getElem?_eq_getElem hlt⟩
   obtain ⟨gA, rfl⟩ := HX.out.2.2.2.2.2.2.2.1.some_ (by omega)
   have r1 : wr.cell? ⟨gA, k * 3 + 1, none⟩ = some (.slice y.A y.f.data.length y.c) := HX.out.2.2.2.2.2.2.2.1.cell ((FV.flat_get ys k 1 y hy (by omega)).trans rfl)
   have HY := Lib.hid hy
   clear hy
   go_wp2
   refine wp_region_line (fun w' => w'.cell? ⟨w.heap.size, 1, none⟩ = some (.slice (some ⟨gA, 0, none⟩) ys.length c) ∧ w'.cell? ⟨gA, k * 3 + 1, none⟩ = some (.slice y.A y.f.data.length y.c)) (pl := [(0, true), (1, true), (2, true), (3, true), (4, true), (5, true), (6, true), (7, true), (8, true), (9, false)]) hmo (by kernel_rfl) ⟨by simpa using f1, by simpa using r1⟩ ?_
   iterate 9 (refine line_get rfl rfl (fun K hK => ?_); apply Exists.intro; refine ⟨fun w s => ?_, ?_⟩; (first | (have q := s rfl; go_simp; with_reducible rfl) | (go_simp; with_reducible rfl)); (go_simp; refine hK _ ?_; clear hK K))
   (refine line_do rfl rfl (fun K hK => ?_); go_simp)
   obtain ⟨hI, hb0, hkp, hsub, hnd, kw, hAk, hrow, brow⟩ := HX.out
   have nd : New wr wr.drew := Kp.drew _ _
   have hI1 := hI.new nd
   have hym := List.mem_of_getElem? HY.out
   have hyb : ∀ x, Bk y.A x → x ∈ fblks ys := fun x hx => mem_fblks.2 ⟨y, hym, hx⟩
   have hOw := (H.out.2.1.2.1 y hym).kp kw (fun x hx he => he.elim (H.out.2.2.1 x (List.mem_append_right _ (hyb x hx))).2.1 (fblks_take_ne hnd.2.1 HY.out (Nat.le_refl _) hx))
   have hOy := hOw.new nd
   have hdl := H.out.2.2.2 y hym
   have hLy : ∀ x, Bk y.A x → ¬ Φk x := fun x hx hf => (hsub x hf).elim (H.out.2.2.1 x (List.mem_append_right _ (hyb x hx))).2.1 (fun h => h.elim (fblks_take_ne hnd.2.1 HY.out (Nat.le_refl _) hx) (fun h => by have := H.out.2.1.lt _ (List.mem_append_right _ (hyb x hx)); have := HW.out.1.size; omega))
   refine (WriteBytes3 _ g (pcOf D) Φk (fun _ => 0) rfl y.A y.f.data.length y.c (hI1.book) (bcs y.f.data) hOy (by omega) hLy).mono ?_
   rintro e w5 ⟨rfl, hp⟩
   have hq := hI1.put hp (fun x hx => (H.out.2.2.1 x (List.mem_append_right _ (hyb x hx))).1) (fun i z hz x hx hb => (H.out.2.2.1 x (List.mem_append_right _ (hyb x hb))).2.2 i z hz hx)
   have HQ := Lib.hid hq
   clear hq hp hI1 hOy hOw hLy hdl hym
   refine hK _ _ (no_need (by kernel_rfl)) ?_
   clear hK K hI hb0 hkp hsub hnd kw hAk hrow brow nd hyb
   refine line_nil ?_
   go_wp2_with fail
   refine ⟨⟨k + 1, by omega, by go_num, Lib.hid ?_⟩, by simp [intOf]; omega⟩
   obtain ⟨hI, hb0, hkp, hsub, hnd, kw, hAk, hrow, brow⟩ := HX.out
   obtain ⟨Φ', q1, q2, q3⟩ := HQ.out
   have hzd : (wr.drew).heap.size = wr.heap.size := rfl
   have hz1 := hkp.size
   have hb1 : w.heap.size < wr.heap.size := (Array.getElem?_eq_some_iff.1 brow).1
   refine ⟨Φ', q1, fun hf => (q3 _ hf).elim hb0 (fun h => h.elim (fun hb => by have := H.out.2.1.lt _ (List.mem_append_right _ (mem_fblks.2 ⟨y, List.mem_of_getElem? HY.out, hb⟩)); omega) (fun h => by omega)), hkp.trans ((Kp.drew (fun _ => False) wr).trans q2 (fun _ _ h => h.elim) fid) (fun x _ h => h.imp id fun h => (fblks_take_succ HY.out).2 (.inl h)) (fun x hx h => ?_), fun x hx => ?_⟩
   ·rcases h with h | h
    ·exact (hsub x h).imp id fun h => h.elim (fun h => (fblks_take_succ HY.out).2 (.inl h)) (fun h => by omega)
    ·exact .inr ((fblks_take_succ HY.out).2 (.inr h))
   ·rcases q3 x hx with h | h | h
    ·exact (hsub x h).imp id fun h => h.imp (fun h => (fblks_take_succ HY.out).2 (.inl h)) id
    ·exact .inr (.inl ((fblks_take_succ HY.out).2 (.inr h)))
    ·exact .inr (.inr (by omega))
  ·obtain rfl : k = ys.length := by omega
   have hkd : decide (ys.length < ys.length) = false := by simp
   go_wp2_with fail
   refine wp_region_line (fun w' => w'.cell? ⟨w.heap.size, 1, none⟩ = some (.slice A ys.length c)) (pl := [(0, true), (1, true), (2, true), (3, true), (4, true), (5, false)]) hmo (by kernel_rfl) (by simpa using f1) ?_
   iterate 5 (refine line_get rfl rfl (fun K hK => ?_); apply Exists.intro; refine ⟨fun w s => ?_, ?_⟩; (first | (have q := s rfl; go_simp; with_reducible rfl) | (go_simp; with_reducible rfl)); (go_simp; refine hK _ ?_; clear hK K))
   (refine line_do rfl rfl (fun K hK => ?_); go_simp)
   obtain ⟨hI, hb0, hkp, hsub, hnd, kw, hAk, hrow, brow⟩ := HX.out
   have nd : New wr wr.drew := Kp.drew _ _
   have hI1 := hI.new nd
   have hOA := hrow.new nd
   have hA := fun x (hx : Bk A x) => H.out.2.2.1 x (List.mem_append_left _ (mem_bks.2 hx))
   have hLA : ∀ x, Bk A x → ¬ Φk x := fun x hx hf => (hsub x hf).elim (hA x hx).2.1 (fun h => h.elim (fun hm => hnd.2.2 x (mem_bks.2 hx) x (mem_fblks_take hm) rfl) (fun h => by have := H.out.2.1.lt _ (List.mem_append_left _ (mem_bks.2 hx)); have := HW.out.1.size; omega))
   have hAt : ¬ Bk A 0 := fun hb => by have := (hA _ hb).1; have := hI.tabL; omega
   refine (WriteFiles3 _ g (pcOf D) Φk (fun _ => 0) rfl A ys.length c (hI1.book) (FV.flat ys) hOA (by omega) hI1.tab hAt hI1.tabΦ hLA).mono ?_
   rintro e w5 ⟨rfl, hp⟩
   have hq := hI1.put hp (fun x hx => (hA x hx).1) (fun i z hz x hx hb => (hA x hb).2.2 i z hz hx)
   have HQ := Lib.hid hq
   clear hq hp hI1 hOA hLA hAt hA
   refine hK _ _ (no_need (by kernel_rfl)) ?_
   clear hK K hI hb0 hkp hsub hnd kw hAk hrow brow nd
   refine line_nil ?_
   go_wp2_with fail
   go_end0
   obtain ⟨hI, hb0, hkp, hsub, hnd, kw, hAk, hrow, brow⟩ := HX.out
   obtain ⟨Φ', q1, q2, q3⟩ := HQ.out
   have hzd : (wr.drew).heap.size = wr.heap.size := rfl
   have hz1 := kw.size
   refine ⟨rfl, Φ', q1, kw.trans ((Kp.drew (fun _ => False) wr).trans q2 (fun _ _ h => h.elim) fid) (fun x _ h => h.imp id fun h => List.mem_append_right _ (mem_fblks_take h)) (fun x hx h => ?_), fun x hx => ?_⟩
   ·rcases h with h | h
    ·exact (hsub x h).imp id fun h => h.elim (fun h => List.mem_append_right _ (mem_fblks_take h)) (fun h => by have := HW.out.1.size; omega)
    ·exact .inr (List.mem_append_left _ (mem_bks.2 h))
   ·rcases q3 x hx with h | h | h
    ·exact (hsub x h).imp id fun h => h.imp (fun h => List.mem_append_right _ (mem_fblks_take h)) (fun h => by have := HW.out.1.size; omega)
    ·exact .inr (.inl (List.mem_append_left _ (mem_bks.2 h)))
    ·exact .inr (.inr (by omega))
end Go.Proofs.YtekcoeonlfmebaaGreatDoor.Kit
