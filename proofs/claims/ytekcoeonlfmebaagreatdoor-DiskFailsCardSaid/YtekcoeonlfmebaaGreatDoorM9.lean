/- 2 texts in one: daybookkeep: a list of Files put into the book: untouched, or written over at once.; PRINTED by gen_book3.py. daybookkeep: a book of pages of Bytes, Texts, Files: looked at, settled, a list put into it. -/
import Derived.Test.YtekcoeonlfmebaaGreatDoorM8
import Derived.Test.YtekcoeonlfmebaaGreatDoorM4
import Derived.Test.YtekcoeonlfmebaaGreatDoorM3
import Derived.Test.YtekcoeonlfmebaaGreatDoorM6
namespace Go.Proofs.YtekcoeonlfmebaaGreatDoor.Kit
open Go Go.RowKit
theorem Tryz.info_pageFiles : (Tryz.prog.info? 164).map (fun i => (i.zero, i.size, i.bytes)) = some (some (.agg #[.slice none 0 0, .slice none 0 0, .slice none 0 0, .int .i64 0, .bool false]), 5, 88) := by kernel_rfl
set_option maxHeartbeats 2000000 in
theorem KeepFiles_calls (w : World) (g next : Nat) (cur : Array Value) (A L : Option Addr) (c n cL : Nat) (ps : List Pg) (xs : List Value) (hB : BookE kFiles 24 (LookE kFiles) w g cur A c ps) (h0 : cur[6]? = some (.int .i64 (next : Int))) (hn : next ≤ 700000) (hps : ps.length < 96)
  (hL : Own w kFiles.e kFiles.sz L cL n xs) (hwf : ∀ i, i < n → kFiles.wf (elt xs kFiles.sz i)) (hn2' : n ≤ 1099511627776) (hLs : ∀ x, Bk L x → x ≠ g ∧ ¬ Bk A x ∧ ∀ q ∈ ps, ¬ q.Fp x) :
  Calls Tryz.prog 218 #[.pointer (some ⟨g, 6, none⟩), .slice L n cL] w fun e w' => e = .returned (.tuple #[]) ∧ PutE kFiles 24 (LookE kFiles) w g next cur A ps L w' := by
 have HWF := Lib.hid hwf
 clear hwf
 have hlt : (ps.length : Int) < 96 := by omega
 have f1 : w.cell? ⟨g, 24, none⟩ = some (.slice A ps.length c) := (cell_of_block hB.1).trans hB.2.1
 have hgl := (Array.getElem?_eq_some_iff.1 hB.1).1
 have H := Lib.hid (And.intro hB (And.intro h0 (And.intro hL hLs)))
 have hmo : Tryz.prog.follows Departure.mixedOrders = true := by kernel_rfl
 clear hB h0 hL hLs
 go_enter Tryz.func218, Tryz.ntmps218
 go_wp2
 refine wp_region_line (fun w' => w'.cell? ⟨g, 24, none⟩ = some (.slice A ps.length c)) (pl := [(0, true), (1, true), (2, true), (3, true), (4, true), (5, true), (7, true), (9, true), (6, false), (8, false), (10, false), (11, true), (12, false), (13, false), (14, true), (15, true), (16, false)]) hmo (by kernel_rfl) (by simpa using f1) ?_
 iterate 8 (refine line_get rfl rfl (fun K hK => ?_); apply Exists.intro; refine ⟨fun w s => ?_, ?_⟩; (first | (have q := s rfl; go_simp; with_reducible rfl) | (go_simp; with_reducible rfl)); (go_simp; refine hK _ ?_; clear hK K))
 (refine line_do rfl rfl (fun K hK => ?_); go_simp)
 have hn1 : New w (w.alloc (.cells #[] 82)).drew := (Kp.alloc _ _ _).trans (Kp.drew _ _) fid fid
 refine hK _ _ (fun _ => New.cell hn1 f1) ?_
 clear hK K
 refine line_do rfl rfl (fun K hK => ?_)
 refine wp_append_end _ (.tmp 16) (.tmp 17) 57 57 rfl 82 _ 3 48 Tryz.underlying57 Tryz.info_F rfl (some ⟨w.heap.size, 0, none⟩) 0 0 [] rfl ((Own.bare w _ _).new (Kp.drew _ _)) _ rfl n xs (Src.ofRdC Tryz.underlying57 cL (H.out.2.2.1.rdC.new hn1) H.out.2.2.1.1 (by decide) (kFiles_ok.all H.out.2.2.1.1 HWF.out)) (by omega) (by omega) ?_
 intro U cU w2 hU hend
 have hn2 : New w w2 := hn1.trans hend.kp fid (fun x hx h => by have := Bk.some_.1 h; simp at this; omega)
 have hUn : ∀ x, Bk U x → w.heap.size ≤ x := fun x hx => (hend.bk x hx).elim (fun h => by have := Bk.some_.1 h; simp at this; omega) (fun h => by simp at h; omega)
 refine hK _ _ (fun _ => New.cell hn2 f1) ?_
 clear hK K
 have h2g : w2.heap[g]? = some (.cells cur 53 (0, 0)) := (hn2.block g hgl id).trans H.out.1.1
 have h1s := (Array.getElem?_eq_some_iff.1 H.out.1.2.1).1
 have hE := Lib.hid (And.intro hU hend)
 clear hU hend
 (refine line_do rfl rfl (fun K hK => ?_); go_simp)
 refine (id_calls w2 g next cur h2g H.out.2.1 hn).mono ?_
 rintro e w3 ⟨rfl, hw3⟩
 have h3g : w3.heap[g]? = some (.cells (cur.setIfInBounds 6 (.int .i64 ((next + 1 : Nat) : Int))) 53 (0, 0)) := hw3 ▸ heap_setCell_row h2g _
 have k3 : Kp (fun x => x = g) w2 w3 := hw3 ▸ Kp.setCell _ _ _ rfl
 have c3 : w3.cell? ⟨g, 24, none⟩ = some (.slice A ps.length c) := (cell_of_block h3g).trans ((setIf_ne _ (by omega)).trans H.out.1.2.1)
 clear hw3
 refine hK _ _ (fun _ => c3) ?_
 clear hK K
 (refine line_get rfl rfl (fun K hK => ?_); apply Exists.intro; refine ⟨fun w s => ?_, ?_⟩; (first | (have q := s rfl; go_simp; with_reducible rfl) | (go_simp; with_reducible rfl)); (go_simp; refine hK _ ?_; clear hK K))
 (refine line_do rfl rfl (fun K hK => ?_); go_simp)
 have n34 : New w3 (w3.alloc (.cells #[.slice L n cL, .slice none 0 0, .slice U n cU, .int .i64 ((next : Int) + 1), .bool false] 164)) := Kp.alloc _ _ _
 refine hK _ _ (fun _ => New.cell n34 c3) ?_
 clear hK K
 have hAg : ¬ Bk A g := H.out.1.2.2.2.1
 have hO4 := (((H.out.1.2.2.1.new hn2).kp k3 (fun x hx e => hAg (e ▸ hx))).new n34)
 have h34 := heap_alloc_new w3 (.cells #[.slice L n cL, .slice none 0 0, .slice U n cU, .int .i64 ((next : Int) + 1), .bool false] 164)
 have h4g := (n34.block g (Array.getElem?_eq_some_iff.1 h3g).1 id).trans h3g
 have hz2 := hn2.size
 have hz3 := k3.size
 have hz4 : (w3.alloc (.cells #[.slice L n cL, .slice none 0 0, .slice U n cU, .int .i64 ((next : Int) + 1), .bool false] 164)).heap.size = w3.heap.size + 1 := by simp
 generalize (w3.alloc (.cells #[.slice L n cL, .slice none 0 0, .slice U n cU, .int .i64 ((next : Int) + 1), .bool false] 164)) = w4 at n34 hO4 h34 h4g hz4
 refine line_do rfl rfl (fun K hK => ?_)
 refine wp_append_end _ (.tmp 14) (.tmp 22) 47 47 rfl 164 _ 5 88 Tryz.underlying47 Tryz.info_pageFiles rfl A c ps.length _ rfl hO4 _ rfl 1 _ (Src.ofRow (w := w4) Tryz.underlying47 h34 5 1 1 rfl (by simp [Value.oneCell'])) (by omega) (by omega) ?_
 intro A5 c5 w5 hO5 hend5
 have h5g := (hend5.kp.block g (Array.getElem?_eq_some_iff.1 h4g).1 hAg).trans h4g
 have g1 : w5.cell? ⟨g, 24, none⟩ = some (.slice A ps.length c) := (cell_of_block h5g).trans ((setIf_ne _ (by omega)).trans H.out.1.2.1)
 have gz : w5.frozen? ⟨g, 24, none⟩ = false := by simp [World.frozen?, h5g]
 have hz5 := hend5.kp.size
 refine hK _ _ (fun _ => g1) ?_
 clear hK K
 iterate 2 (refine line_get rfl rfl (fun K hK => ?_); apply Exists.intro; refine ⟨fun w s => ?_, ?_⟩; (first | (have q := s rfl; go_simp; with_reducible rfl) | (go_simp; with_reducible rfl)); (go_simp; refine hK _ ?_; clear hK K))
 (refine line_do rfl rfl (fun K hK => ?_); go_simp)
 refine hK _ _ (no_need (by kernel_rfl)) ?_
 clear hK K
 refine line_nil ?_
 go_wp2
 go_end0
 refine ⟨rfl, ?_⟩
 have hAl := H.out.1.2.2.1.lt
 have hUl := hE.out.1.lt
 obtain ⟨w6, hw6⟩ : ∃ w6, w5.setCell ⟨g, 24, none⟩ (.slice A5 (ps.length + 1) c5) = w6 := ⟨_, rfl⟩
 have k6 : Kp (fun x => x = g) w5 w6 := hw6 ▸ Kp.setCell _ _ _ rfl
 have h6g := hw6 ▸ heap_setCell_row h5g (.slice A5 (ps.length + 1) c5)
 rw [hw6]
 clear hw6
 have hz6 := k6.size
 have kall : Kp (fun x => x = g ∨ Bk A x ∨ Bk L x) w w6 :=
  have q3 : Kp (fun x => x = g) w w3 := hn2.trans k3 (fun _ _ h => h.elim) fid
  have q4 : Kp (fun x => x = g) w w4 := q3.trans n34 fid (fun _ _ h => h.elim)
  have q5 : Kp (fun x => x = g ∨ Bk A x ∨ Bk L x) w w5 := q4.trans hend5.kp (fun _ _ h => Or.inl h) (fun _ _ h => Or.inr (Or.inl h))
  q5.trans k6 fid (fun _ _ h => Or.inl h)
 have hOL : Own w6 kFiles.e kFiles.sz L cL n xs :=
  ((((H.out.2.2.1.new hn2).kp k3 (fun x hx e => (H.out.2.2.2 x hx).1 e)).new n34).kp hend5.kp (fun x hx => (H.out.2.2.2 x hx).2.1)).kp k6 (fun x hx e => (H.out.2.2.2 x hx).1 e)
 have hRU : RdC w6 U xs := by
  have h2 : RdC w2 U xs := hE.out.1.rdC
  exact (((h2.kp k3 (fun x hx e => by have := hUn x hx; omega)).new n34).kp hend5.kp (fun x hx hb => by have := hUn x hx; have := hAl x hb; omega)).kp k6 (fun x hx e => by have := hUn x hx; omega)
 refine ⟨A5, c5, ⟨L, n, cL, none, 0, 0, U, n, cU, next + 1, false⟩, ⟨h6g, ?_, ?_⟩, kall, fun x hx => (hend5.bk x hx).imp id (fun e => by omega), fun x hx => ?_⟩
 ·rw [List.length_append]
  exact setIf_get _ (by rw [Array.size_setIfInBounds]; exact h1s)
 ·refine H.out.1.2.2.push (LookE.stable kFiles) (hO5.kp k6 (fun x hx e => (hend5.bk x hx).elim (fun h => hAg (e ▸ h)) (fun h => by omega))) kall (fun x hx => (hend5.bk x hx).imp id (fun e => by omega)) (.inl ⟨rfl, rfl, rfl, rfl, by simp only; omega, hn2', rfl, xs, hOL, hRU, HWF.out⟩) (fun x hx => ⟨H.out.2.2.1.lt x hx, H.out.2.2.2 x hx⟩) (fun x hx => ?_) hgl
  rcases hx with hx | hx | hx
  ·exact .inl hx
  ·exact absurd hx Bk.none_
  ·refine .inr ⟨hUn x hx, Nat.lt_of_lt_of_le (hUl x hx) (by omega), fun hb => ?_⟩
   rcases hend5.bk x hb with hb | e
   ·have := hAl x hb
    have := hUn x hx
    omega
   ·have := hUl x hx
    omega
 ·rcases hx with hx | hx | hx
  ·exact .inl hx
  ·exact absurd hx Bk.none_
  ·exact .inr (hUn x hx)
set_option maxHeartbeats 2000000 in
theorem WriteFiles_calls (w : World) (g next : Nat) (cur : Array Value) (A L : Option Addr) (c n cL : Nat) (ps : List Pg) (xs : List Value) (hB : BookE kFiles 24 (LookE kFiles) w g cur A c ps) (h0 : cur[6]? = some (.int .i64 (next : Int))) (hn : next ≤ 700000) (hps : ps.length < 96)
  (hL : Own w kFiles.e kFiles.sz L cL n xs) (hn2' : n ≤ 1099511627776) (hT : Tab w) (htL : ¬ Bk L 0) (hgt : g ≠ 0) (hLs : ∀ x, Bk L x → x ≠ g ∧ ¬ Bk A x ∧ ∀ q ∈ ps, ¬ q.Fp x) :
  Calls Tryz.prog 217 #[.pointer (some ⟨g, 6, none⟩), .slice L n cL] w fun e w' => e = .returned (.tuple #[]) ∧ PutE kFiles 24 (LookE kFiles) w g next cur A ps L w' := by
 have hlt : (ps.length : Int) < 96 := by omega
 have f1 : w.cell? ⟨g, 24, none⟩ = some (.slice A ps.length c) := (cell_of_block hB.1).trans hB.2.1
 have hgl := (Array.getElem?_eq_some_iff.1 hB.1).1
 have H := Lib.hid (And.intro hB (And.intro h0 (And.intro hL hLs)))
 have HT := Lib.hid (And.intro hT (And.intro htL hgt))
 have htl := hT.lt
 clear hT htL hgt
 have hmo : Tryz.prog.follows Departure.mixedOrders = true := by kernel_rfl
 clear hB h0 hL hLs
 go_enter Tryz.func217, Tryz.ntmps217
 go_wp2_with (go_at_call 216; refine (id_calls w g next cur H.out.1.1 H.out.2.1 hn).mono ?_; rintro e w1 ⟨rfl, hw1⟩; have HW1 := Lib.hid hw1; clear hw1)
 have h1s := (Array.getElem?_eq_some_iff.1 H.out.1.2.1).1
 have h1g : w1.heap[g]? = some (.cells (cur.setIfInBounds 6 (.int .i64 ((next + 1 : Nat) : Int))) 53 (0, 0)) := HW1.out ▸ heap_setCell_row H.out.1.1 _
 have k1 : Kp (fun x => x = g) w w1 := HW1.out ▸ Kp.setCell _ _ _ rfl
 have hz1 := k1.size
 have hAg : ¬ Bk A g := H.out.1.2.2.2.1
 have hAl := H.out.1.2.2.1.lt
 have hLl := H.out.2.2.1.lt
 have k2 : New w1 (w1.alloc (.cells #[.slice L n cL, .slice none 0 0, .slice none 0 0, .int .i64 ((next : Int) + 1), .bool false] 164)) := Kp.alloc _ _ _
 have hh2 := heap_alloc_new w1 (.cells #[.slice L n cL, .slice none 0 0, .slice none 0 0, .int .i64 ((next : Int) + 1), .bool false] 164)
 have hz2 : (w1.alloc (.cells #[.slice L n cL, .slice none 0 0, .slice none 0 0, .int .i64 ((next : Int) + 1), .bool false] 164)).heap.size = w1.heap.size + 1 := by simp
 generalize (w1.alloc (.cells #[.slice L n cL, .slice none 0 0, .slice none 0 0, .int .i64 ((next : Int) + 1), .bool false] 164)) = w2 at k2 hh2 hz2
 have hL2 : Own w2 kFiles.e kFiles.sz L cL n xs := (H.out.2.2.1.kp k1 (fun x hx e => (H.out.2.2.2 x hx).1 e)).new k2
 have hLq : ¬ Bk L w1.heap.size := fun hb => by have := hLl _ hb; omega
 have HS := Lib.hid (And.intro h1g (And.intro k1 (And.intro k2 (And.intro hAg (And.intro hAl (And.intro hLl hLq))))))
 have hT2 : Tab w2 := (HT.out.1.kp k1 (fun e => HT.out.2.2 e.symm)).new k2
 have HT2 := Lib.hid hT2
 clear hT2
 refine (fillFiles_calls w2 w1.heap.size 0 #[.slice L n cL, .slice none 0 0, .slice none 0 0, .int .i64 ((next : Int) + 1), .bool false] L cL n (next + 1) false xs hh2 rfl rfl rfl hL2 hLq (by omega) hn2' HT2.out HT.out.2.1).mono ?_
 clear h1g k1 k2 hAg hAl hLl hL2 hLq hh2
 rintro e w3 ⟨rfl, hL3, k3, hh3⟩
 replace hh3 : w3.heap[w1.heap.size]? = some (.cells #[.slice L n cL, .slice none 0 0, .slice none 0 0, .int .i64 ((next : Int) + 1), .bool true] 164 (0, 0)) := hh3
 have hz3 := k3.size
 have HT3 := Lib.hid (HT2.out.kp k3 (fun e => e.elim (fun e => by omega) HT.out.2.1))
 have HF := Lib.hid (And.intro hL3 (And.intro k3 hh3))
 clear hL3 k3 hh3
 go_wp2_with fail
 refine (growFiles_calls w3 w1.heap.size 0 #[.slice L n cL, .slice none 0 0, .slice none 0 0, .int .i64 ((next : Int) + 1), .bool true] L cL n (next + 1) (.slice none 0 0) _ HF.out.2.2 rfl rfl rfl HF.out.1 HS.out.2.2.2.2.2.2 (by omega) hn2' HT3.out HT.out.2.1 (by omega)).mono ?_
 rintro e w4 ⟨rfl, G, cG, hG4, hL4, k4, hGb, hh4⟩
 replace hh4 : w4.heap[w1.heap.size]? = some (.cells #[.slice L n cL, .slice G (n + 64) cG, .slice none 0 0, .int .i64 ((next : Int) + 1), .bool true] 164 (0, 0)) := hh4
 have hz4 := k4.size
 have h4g : w4.heap[g]? = some (.cells (cur.setIfInBounds 6 (.int .i64 ((next + 1 : Nat) : Int))) 53 (0, 0)) := by
  have hgL : ¬ Bk L g := fun hb => (H.out.2.2.2 g hb).1 rfl
  rw [k4.block g (by omega) (fun h => h.elim (fun e => by omega) hgL), HF.out.2.1.block g (by omega) (fun h => h.elim (fun e => by omega) hgL), HS.out.2.2.1.block g (by omega) id]
  exact HS.out.1
 have c1 : w4.cell? ⟨g, 24, none⟩ = some (.slice A ps.length c) := (cell_of_block h4g).trans ((setIf_ne _ (by omega)).trans H.out.1.2.1)
 have d0 : w4.cell? ⟨w1.heap.size, 0, none⟩ = some (.slice L n cL) := (cell_of_block hh4).trans rfl
 have d1 : w4.cell? ⟨w1.heap.size, 1, none⟩ = some (.slice G (n + 64) cG) := (cell_of_block hh4).trans rfl
 have d2 : w4.cell? ⟨w1.heap.size, 2, none⟩ = some (.slice none 0 0) := (cell_of_block hh4).trans rfl
 have d3 : w4.cell? ⟨w1.heap.size, 3, none⟩ = some (.int .i64 ((next : Int) + 1)) := (cell_of_block hh4).trans rfl
 have d4 : w4.cell? ⟨w1.heap.size, 4, none⟩ = some (.bool true) := (cell_of_block hh4).trans rfl
 have HG := Lib.hid (And.intro hG4 (And.intro hL4 (And.intro k4 (And.intro hGb (And.intro hh4 h4g)))))
 clear hG4 hL4 k4 hGb hh4 h4g
 go_wp2_with fail
 refine wp_region_line (fun w' => w'.cell? ⟨g, 24, none⟩ = some (.slice A ps.length c) ∧ w'.cell? ⟨w1.heap.size, 0, none⟩ = some (.slice L n cL) ∧ w'.cell? ⟨w1.heap.size, 1, none⟩ = some (.slice G (n + 64) cG) ∧ w'.cell? ⟨w1.heap.size, 2, none⟩ = some (.slice none 0 0) ∧ w'.cell? ⟨w1.heap.size, 3, none⟩ = some (.int .i64 ((next : Int) + 1)) ∧ w'.cell? ⟨w1.heap.size, 4, none⟩ = some (.bool true)) (pl := [(0, true), (1, true), (2, true), (3, true), (4, true), (5, true), (6, false), (7, false), (8, true), (9, true), (10, false)]) hmo (by kernel_rfl) ⟨by simpa using c1, by simpa using d0, by simpa using d1, by simpa using d2, by simpa using d3, by simpa using d4⟩ ?_
 iterate 6 (refine line_get rfl rfl (fun K hK => ?_); apply Exists.intro; refine ⟨fun w s => ?_, ?_⟩; (first | (have q := s rfl; go_simp; with_reducible rfl) | (go_simp; with_reducible rfl)); (go_simp; refine hK _ ?_; clear hK K))
 (refine line_do rfl rfl (fun K hK => ?_); go_simp)
 have n45 : New w4 (w4.alloc (.cells #[.slice L n cL, .slice G (n + 64) cG, .slice none 0 0, .int .i64 ((next : Int) + 1), .bool true] 164)).drew := (Kp.alloc _ _ _).trans (Kp.drew _ _) fid fid
 refine hK _ _ (fun _ => ⟨New.cell n45 c1, New.cell n45 d0, New.cell n45 d1, New.cell n45 d2, New.cell n45 d3, New.cell n45 d4⟩) ?_
 clear hK K
 have hAg := HS.out.2.2.2.1
 have q1 : Kp (fun x => x = g) w w2 := HS.out.2.1.trans HS.out.2.2.1 fid (fun _ _ h => h.elim)
 have q2 : Kp (fun x => x = g ∨ Bk L x) w w3 := q1.trans HF.out.2.1 (fun _ _ h => Or.inl h) (fun x hx h => h.elim (fun e => by omega) Or.inr)
 have q3 : Kp (fun x => x = g ∨ Bk L x) w w4 := q2.trans HG.out.2.2.1 fid (fun x hx h => h.elim (fun e => by omega) Or.inr)
 have hO5 := (H.out.1.2.2.1.kp q3 (fun x hx e => e.elim (fun e => hAg (e ▸ hx)) (fun hb => (H.out.2.2.2 x hb).2.1 hx))).new n45
 have h45 : (w4.alloc (.cells #[.slice L n cL, .slice G (n + 64) cG, .slice none 0 0, .int .i64 ((next : Int) + 1), .bool true] 164)).drew.heap[w4.heap.size]? = _ := heap_alloc_new w4 (.cells #[.slice L n cL, .slice G (n + 64) cG, .slice none 0 0, .int .i64 ((next : Int) + 1), .bool true] 164)
 have h5g := (n45.block g (by omega) id).trans HG.out.2.2.2.2.2
 have hz5 : (w4.alloc (.cells #[.slice L n cL, .slice G (n + 64) cG, .slice none 0 0, .int .i64 ((next : Int) + 1), .bool true] 164)).drew.heap.size = w4.heap.size + 1 := by simp
 generalize (w4.alloc (.cells #[.slice L n cL, .slice G (n + 64) cG, .slice none 0 0, .int .i64 ((next : Int) + 1), .bool true] 164)).drew = w5 at n45 hO5 h45 h5g hz5
 refine line_do rfl rfl (fun K hK => ?_)
 refine wp_append_end _ (.tmp 21) (.tmp 23) 47 47 rfl 164 _ 5 88 Tryz.underlying47 Tryz.info_pageFiles rfl A c ps.length _ rfl hO5 _ rfl 1 _ (Src.ofRow (w := w5) Tryz.underlying47 h45 5 1 1 rfl (by simp [Value.oneCell'])) (by omega) (by omega) ?_
 intro A6 c6 w6 hO6 hend6
 have h6g := (hend6.kp.block g (by omega) hAg).trans h5g
 have g1 : w6.cell? ⟨g, 24, none⟩ = some (.slice A ps.length c) := (cell_of_block h6g).trans ((setIf_ne _ (by omega)).trans H.out.1.2.1)
 have gz : w6.frozen? ⟨g, 24, none⟩ = false := by simp [World.frozen?, h6g]
 have hz6 := hend6.kp.size
 refine hK _ _ (no_need (by kernel_rfl)) ?_
 clear hK K
 iterate 2 (refine line_get rfl rfl (fun K hK => ?_); apply Exists.intro; refine ⟨fun w s => ?_, ?_⟩; (first | (have q := s rfl; go_simp; with_reducible rfl) | (go_simp; with_reducible rfl)); (go_simp; refine hK _ ?_; clear hK K))
 (refine line_do rfl rfl (fun K hK => ?_); go_simp)
 refine hK _ _ (no_need (by kernel_rfl)) ?_
 clear hK K
 refine line_nil ?_
 go_wp2
 go_end0
 refine ⟨rfl, ?_⟩
 obtain ⟨w7, hw7⟩ : ∃ w7, w6.setCell ⟨g, 24, none⟩ (.slice A6 (ps.length + 1) c6) = w7 := ⟨_, rfl⟩
 have k7 : Kp (fun x => x = g) w6 w7 := hw7 ▸ Kp.setCell _ _ _ rfl
 have h7g := hw7 ▸ heap_setCell_row h6g (.slice A6 (ps.length + 1) c6)
 rw [hw7]
 clear hw7
 have hz7 := k7.size
 have hAl := HS.out.2.2.2.2.1
 have hLl := HS.out.2.2.2.2.2.1
 have kall : Kp (fun x => x = g ∨ Bk A x ∨ Bk L x) w w7 :=
  have r5 : Kp (fun x => x = g ∨ Bk A x ∨ Bk L x) w w5 := q3.trans n45 (fun _ _ h => h.imp id Or.inr) (fun _ _ h => h.elim)
  have r6 : Kp (fun x => x = g ∨ Bk A x ∨ Bk L x) w w6 := r5.trans hend6.kp fid (fun _ _ h => Or.inr (Or.inl h))
  r6.trans k7 fid (fun _ _ h => Or.inl h)
 have hGn : ∀ x, Bk G x → Bk L x ∨ w.heap.size ≤ x := fun x hx => (HG.out.2.2.2.1 x hx).imp id (fun h => by omega)
 have hGA : ∀ x, Bk G x → ¬ Bk A x ∧ x ≠ g := fun x hx => (hGn x hx).elim (fun hb => ⟨(H.out.2.2.2 x hb).2.1, (H.out.2.2.2 x hb).1⟩) (fun h => ⟨fun hb => by have := hAl x hb; omega, fun e => by omega⟩)
 have hRL : RdC w7 L (kFiles.marks (next + 1) n) := ((HG.out.2.1.rdC.new n45).kp hend6.kp (fun x hx => (H.out.2.2.2 x hx).2.1)).kp k7 (fun x hx => (H.out.2.2.2 x hx).1)
 have hRG : RdC w7 G (kFiles.marks (next + 1) n ++ kFiles.marks (next + 1 + 100000) 64) := by
  have h4 := HG.out.1
  exact ((h4.rdC.new n45).kp hend6.kp (fun x hx => (hGA x hx).1)).kp k7 (fun x hx => (hGA x hx).2)
 have hGl := HG.out.1.lt
 refine ⟨A6, c6, ⟨L, n, cL, G, n + 64, cG, none, 0, 0, next + 1, true⟩, ⟨h7g, ?_, ?_⟩, kall, fun x hx => (hend6.bk x hx).imp id (fun e => by omega), fun x hx => ?_⟩
 ·rw [List.length_append]
  exact setIf_get _ (by rw [Array.size_setIfInBounds]; exact h1s)
 ·refine H.out.1.2.2.push (LookE.stable kFiles) (hO6.kp k7 (fun x hx e => (hend6.bk x hx).elim (fun h => hAg (e ▸ h)) (fun h => by omega))) kall (fun x hx => (hend6.bk x hx).imp id (fun e => by omega)) (.inr ⟨rfl, rfl, by simp only; omega, hn2', hRL, hRG⟩) (fun x hx => ⟨hLl x hx, H.out.2.2.2 x hx⟩) (fun x hx => ?_) hgl
  rcases hx with hx | hx | hx
  ·exact .inl hx
  ·rcases hGn x hx with h | h
   ·exact .inl h
   ·refine .inr ⟨h, Nat.lt_of_lt_of_le (hGl x hx) (by omega), fun hb => ?_⟩
    rcases hend6.bk x hb with hb | e
    ·exact (hGA x hx).1 hb
    ·have := hGl x hx
     omega
  ·exact absurd hx Bk.none_
 ·rcases hx with hx | hx | hx
  ·exact .inl hx
  ·exact hGn x hx
  ·exact absurd hx Bk.none_
def kBytes : EK := ⟨5, 116, 1, fun a => ∃ c : UInt8, a = [bc c], fun id k => [bc (markB id k)]⟩
theorem BookB.toE {P : Nat → World → Pg → Prop} {w : World} {g c : Nat} {cur : Array Value} {A : Option Addr} {ps : List Pg} (h : BookE kBytes 7 P w g cur A c ps) : BookB P w g cur A c ps := h
def PhBytes : Nat → Nat → World → Pg → Prop
 | 0 => Look
 | 1 => fun _ w p => Full w p ∨ Grown w p
 | _ => fun _ w p => Grown w p
theorem PhBytes.stable (ph j : Nat) : Stable (PhBytes ph j) := by
 unfold PhBytes
 split
 ·exact Look.stable j
 ·exact Stable.or Full.kp Grown.kp
 ·exact Grown.kp
def PhE (K : EK) : Nat → Nat → World → Pg → Prop
 | 0 => LookE K
 | 1 => fun _ w p => FullE K w p ∨ GrownE K w p
 | _ => fun _ w p => GrownE K w p
theorem PhE.stable (K : EK) (ph j : Nat) : Stable (PhE K ph j) := by
 unfold PhE
 split
 ·exact LookE.stable K j
 ·exact Stable.or FullE.kp GrownE.kp
 ·exact GrownE.kp
def bookK : Nat → EK
 | 0 => kBytes
 | 1 => kTexts
 | _ => kFiles
def bookAt : Nat → Nat
 | 0 => 7
 | 1 => 10
 | _ => 24
def bookP : Nat → Nat → Nat → World → Pg → Prop
 | 0 => PhBytes
 | 1 => PhE kTexts
 | _ => PhE kFiles
def book3 : Kinds := ⟨3, bookK, bookAt, bookP⟩
theorem lt_cases {P : Nat → Prop} (h : P 0 ∧ P 1 ∧ P 2) : ∀ i, i < 3 → P i := by
 intro i hi
 rcases Nat.lt_or_ge i 1 with h0 | h0
 ·obtain rfl : i = 0 := by omega
  exact h.1
 rcases Nat.lt_or_ge i 2 with h1 | h1
 ·obtain rfl : i = 1 := by omega
  exact h.2.1
 rcases Nat.lt_or_ge i 3 with h2 | h2
 ·obtain rfl : i = 2 := by omega
  exact h.2.2
 omega
theorem book3_ok : book3.Ok := by
 refine ⟨fun i ph j => ?_, fun i j hi hj hij => ?_, fun i hi => ?_⟩
 ·show Stable (bookP i ph j)
  unfold bookP
  split
  ·exact PhBytes.stable _ _
  ·exact PhE.stable _ _ _
  ·exact PhE.stable _ _ _
 ·have key : ∀ i, i < 3 → ∀ j, j < 3 → i ≠ j → bookAt i ≠ bookAt j := by decide
  exact key i hi j hj hij
 ·revert i
  show ∀ i, i < 3 → _ < bookAt i
  decide
theorem lookBytes_of {v j : Nat} {w : World} {p : Pg} (hv : v = 0 ∨ v = 2) (h : bookP 0 v j w p) : Look j w p := by
 rcases hv with rfl | rfl
 ·exact h
 ·exact .inr h
theorem lookTexts_of {v j : Nat} {w : World} {p : Pg} (hv : v = 0 ∨ v = 2) (h : bookP 1 v j w p) : LookE kTexts j w p := by
 rcases hv with rfl | rfl
 ·exact h
 ·exact .inr h
theorem lookFiles_of {v j : Nat} {w : World} {p : Pg} (hv : v = 0 ∨ v = 2) (h : bookP 2 v j w p) : LookE kFiles j w p := by
 rcases hv with rfl | rfl
 ·exact h
 ·exact .inr h
theorem looks3 (ph : Nat → Nat) (hp : ∀ i, ph i = 0 ∨ ph i = 2) (g : Nat) (pc : List Value) (Φ0 : Nat → Prop) (W0 : World) : LooksB g (SX book3 ph g pc Φ0 W0) := by
 refine ⟨fun w h => ?_, fun w h => ?_, fun w h => ?_, fun w h => ?_, fun w h => ?_, fun w h => ?_, fun w h => ?_, fun w h => ?_, fun w h => ?_, fun w h => ?_, fun w h => ?_, fun w h => ?_, fun w h => ?_, fun w h => ?_, fun w h => ?_, fun w h => ?_, fun w h => ?_, fun w h => ?_, fun w h => ?_, fun w h => ?_⟩
 ·have hh := h
  obtain ⟨Φ, ⟨cur, next, R, hB, hΦ⟩, h2, h3, h4, h5⟩ := h
  refine (intactB_calls w g cur _ _ _ ((hB.book 0 (by decide)).imp (fun _ _ h => lookBytes_of (hp 0) h)) (hB.few 0 (by decide))).mono ?_
  rintro e w' ⟨rfl, hn⟩
  exact ⟨rfl, hh.new book3_ok hn⟩
 ·have hc : w.cell? ⟨g, 8, none⟩ = some (.slice none 0 0) := by
   obtain ⟨Φ, ⟨cur, next, R, hB, hΦ⟩, h2⟩ := h
   exact (cell_of_block hB.blk).trans (hB.none_ 8 (by omega) (by omega) (lt_cases (by decide)))
  refine (intactInts_none w g hc).mono ?_
  rintro e w' ⟨rfl, rfl⟩
  exact ⟨rfl, h⟩
 ·have hc : w.cell? ⟨g, 9, none⟩ = some (.slice none 0 0) := by
   obtain ⟨Φ, ⟨cur, next, R, hB, hΦ⟩, h2⟩ := h
   exact (cell_of_block hB.blk).trans (hB.none_ 9 (by omega) (by omega) (lt_cases (by decide)))
  refine (intactNums_none w g hc).mono ?_
  rintro e w' ⟨rfl, rfl⟩
  exact ⟨rfl, h⟩
 ·have hh := h
  obtain ⟨Φ, ⟨cur, next, R, hB, hΦ⟩, h2, h3, h4, h5⟩ := h
  refine (intactTexts_calls w g cur _ _ _ ((hB.book 1 (by decide)).imp (fun _ _ h => lookTexts_of (hp 1) h)) (hB.few 1 (by decide)) h4).mono ?_
  rintro e w' ⟨rfl, hn⟩
  exact ⟨rfl, hh.new book3_ok hn⟩
 ·have hc : w.cell? ⟨g, 11, none⟩ = some (.slice none 0 0) := by
   obtain ⟨Φ, ⟨cur, next, R, hB, hΦ⟩, h2⟩ := h
   exact (cell_of_block hB.blk).trans (hB.none_ 11 (by omega) (by omega) (lt_cases (by decide)))
  refine (intactPostings_none w g hc).mono ?_
  rintro e w' ⟨rfl, rfl⟩
  exact ⟨rfl, h⟩
 ·have hc : w.cell? ⟨g, 12, none⟩ = some (.slice none 0 0) := by
   obtain ⟨Φ, ⟨cur, next, R, hB, hΦ⟩, h2⟩ := h
   exact (cell_of_block hB.blk).trans (hB.none_ 12 (by omega) (by omega) (lt_cases (by decide)))
  refine (intactClaims_none w g hc).mono ?_
  rintro e w' ⟨rfl, rfl⟩
  exact ⟨rfl, h⟩
 ·have hc : w.cell? ⟨g, 13, none⟩ = some (.slice none 0 0) := by
   obtain ⟨Φ, ⟨cur, next, R, hB, hΦ⟩, h2⟩ := h
   exact (cell_of_block hB.blk).trans (hB.none_ 13 (by omega) (by omega) (lt_cases (by decide)))
  refine (intactAllots_none w g hc).mono ?_
  rintro e w' ⟨rfl, rfl⟩
  exact ⟨rfl, h⟩
 ·have hc : w.cell? ⟨g, 14, none⟩ = some (.slice none 0 0) := by
   obtain ⟨Φ, ⟨cur, next, R, hB, hΦ⟩, h2⟩ := h
   exact (cell_of_block hB.blk).trans (hB.none_ 14 (by omega) (by omega) (lt_cases (by decide)))
  refine (intactAccounts_none w g hc).mono ?_
  rintro e w' ⟨rfl, rfl⟩
  exact ⟨rfl, h⟩
 ·have hc : w.cell? ⟨g, 15, none⟩ = some (.slice none 0 0) := by
   obtain ⟨Φ, ⟨cur, next, R, hB, hΦ⟩, h2⟩ := h
   exact (cell_of_block hB.blk).trans (hB.none_ 15 (by omega) (by omega) (lt_cases (by decide)))
  refine (intactBalances_none w g hc).mono ?_
  rintro e w' ⟨rfl, rfl⟩
  exact ⟨rfl, h⟩
 ·have hc : w.cell? ⟨g, 16, none⟩ = some (.slice none 0 0) := by
   obtain ⟨Φ, ⟨cur, next, R, hB, hΦ⟩, h2⟩ := h
   exact (cell_of_block hB.blk).trans (hB.none_ 16 (by omega) (by omega) (lt_cases (by decide)))
  refine (intactColumns_none w g hc).mono ?_
  rintro e w' ⟨rfl, rfl⟩
  exact ⟨rfl, h⟩
 ·have hc : w.cell? ⟨g, 17, none⟩ = some (.slice none 0 0) := by
   obtain ⟨Φ, ⟨cur, next, R, hB, hΦ⟩, h2⟩ := h
   exact (cell_of_block hB.blk).trans (hB.none_ 17 (by omega) (by omega) (lt_cases (by decide)))
  refine (intactDays_none w g hc).mono ?_
  rintro e w' ⟨rfl, rfl⟩
  exact ⟨rfl, h⟩
 ·have hc : w.cell? ⟨g, 18, none⟩ = some (.slice none 0 0) := by
   obtain ⟨Φ, ⟨cur, next, R, hB, hΦ⟩, h2⟩ := h
   exact (cell_of_block hB.blk).trans (hB.none_ 18 (by omega) (by omega) (lt_cases (by decide)))
  refine (intactLines_none w g hc).mono ?_
  rintro e w' ⟨rfl, rfl⟩
  exact ⟨rfl, h⟩
 ·have hc : w.cell? ⟨g, 19, none⟩ = some (.slice none 0 0) := by
   obtain ⟨Φ, ⟨cur, next, R, hB, hΦ⟩, h2⟩ := h
   exact (cell_of_block hB.blk).trans (hB.none_ 19 (by omega) (by omega) (lt_cases (by decide)))
  refine (intactCells_none w g hc).mono ?_
  rintro e w' ⟨rfl, rfl⟩
  exact ⟨rfl, h⟩
 ·have hc : w.cell? ⟨g, 20, none⟩ = some (.slice none 0 0) := by
   obtain ⟨Φ, ⟨cur, next, R, hB, hΦ⟩, h2⟩ := h
   exact (cell_of_block hB.blk).trans (hB.none_ 20 (by omega) (by omega) (lt_cases (by decide)))
  refine (intactSegments_none w g hc).mono ?_
  rintro e w' ⟨rfl, rfl⟩
  exact ⟨rfl, h⟩
 ·have hc : w.cell? ⟨g, 21, none⟩ = some (.slice none 0 0) := by
   obtain ⟨Φ, ⟨cur, next, R, hB, hΦ⟩, h2⟩ := h
   exact (cell_of_block hB.blk).trans (hB.none_ 21 (by omega) (by omega) (lt_cases (by decide)))
  refine (intactNodes_none w g hc).mono ?_
  rintro e w' ⟨rfl, rfl⟩
  exact ⟨rfl, h⟩
 ·have hc : w.cell? ⟨g, 22, none⟩ = some (.slice none 0 0) := by
   obtain ⟨Φ, ⟨cur, next, R, hB, hΦ⟩, h2⟩ := h
   exact (cell_of_block hB.blk).trans (hB.none_ 22 (by omega) (by omega) (lt_cases (by decide)))
  refine (intactEvents_none w g hc).mono ?_
  rintro e w' ⟨rfl, rfl⟩
  exact ⟨rfl, h⟩
 ·have hc : w.cell? ⟨g, 23, none⟩ = some (.slice none 0 0) := by
   obtain ⟨Φ, ⟨cur, next, R, hB, hΦ⟩, h2⟩ := h
   exact (cell_of_block hB.blk).trans (hB.none_ 23 (by omega) (by omega) (lt_cases (by decide)))
  refine (intactEntries_none w g hc).mono ?_
  rintro e w' ⟨rfl, rfl⟩
  exact ⟨rfl, h⟩
 ·have hh := h
  obtain ⟨Φ, ⟨cur, next, R, hB, hΦ⟩, h2, h3, h4, h5⟩ := h
  refine (intactFiles_calls w g cur _ _ _ ((hB.book 2 (by decide)).imp (fun _ _ h => lookFiles_of (hp 2) h)) (hB.few 2 (by decide)) h4).mono ?_
  rintro e w' ⟨rfl, hn⟩
  exact ⟨rfl, hh.new book3_ok hn⟩
 ·have hc : w.cell? ⟨g, 25, none⟩ = some (.slice none 0 0) := by
   obtain ⟨Φ, ⟨cur, next, R, hB, hΦ⟩, h2⟩ := h
   exact (cell_of_block hB.blk).trans (hB.none_ 25 (by omega) (by omega) (lt_cases (by decide)))
  refine (intactLists_none w g hc).mono ?_
  rintro e w' ⟨rfl, rfl⟩
  exact ⟨rfl, h⟩
 ·have hc : w.cell? ⟨g, 26, none⟩ = some (.slice none 0 0) := by
   obtain ⟨Φ, ⟨cur, next, R, hB, hΦ⟩, h2⟩ := h
   exact (cell_of_block hB.blk).trans (hB.none_ 26 (by omega) (by omega) (lt_cases (by decide)))
  refine (intactRows_none w g hc).mono ?_
  rintro e w' ⟨rfl, rfl⟩
  exact ⟨rfl, h⟩
theorem fillInts3 (ph : Nat → Nat) (g : Nat) (pc : List Value) (Φ0 : Nat → Prop) (W0 : World) : StepB 54 g (SX book3 ph g pc Φ0 W0) (SX book3 ph g pc Φ0 W0) := by
 intro w h
 have hc : w.cell? ⟨g, 8, none⟩ = some (.slice none 0 0) := by
  obtain ⟨Φ, ⟨cur, next, R, hB, hΦ⟩, h2⟩ := h
  exact (cell_of_block hB.blk).trans (hB.none_ 8 (by omega) (by omega) (lt_cases (by decide)))
 refine (fillInts_none w g hc).mono ?_
 rintro e w' ⟨rfl, rfl⟩
 exact ⟨rfl, h⟩
theorem fillNums3 (ph : Nat → Nat) (g : Nat) (pc : List Value) (Φ0 : Nat → Prop) (W0 : World) : StepB 55 g (SX book3 ph g pc Φ0 W0) (SX book3 ph g pc Φ0 W0) := by
 intro w h
 have hc : w.cell? ⟨g, 9, none⟩ = some (.slice none 0 0) := by
  obtain ⟨Φ, ⟨cur, next, R, hB, hΦ⟩, h2⟩ := h
  exact (cell_of_block hB.blk).trans (hB.none_ 9 (by omega) (by omega) (lt_cases (by decide)))
 refine (fillNums_none w g hc).mono ?_
 rintro e w' ⟨rfl, rfl⟩
 exact ⟨rfl, h⟩
theorem fillPostings3 (ph : Nat → Nat) (g : Nat) (pc : List Value) (Φ0 : Nat → Prop) (W0 : World) : StepB 57 g (SX book3 ph g pc Φ0 W0) (SX book3 ph g pc Φ0 W0) := by
 intro w h
 have hc : w.cell? ⟨g, 11, none⟩ = some (.slice none 0 0) := by
  obtain ⟨Φ, ⟨cur, next, R, hB, hΦ⟩, h2⟩ := h
  exact (cell_of_block hB.blk).trans (hB.none_ 11 (by omega) (by omega) (lt_cases (by decide)))
 refine (fillPostings_none w g hc).mono ?_
 rintro e w' ⟨rfl, rfl⟩
 exact ⟨rfl, h⟩
theorem fillClaims3 (ph : Nat → Nat) (g : Nat) (pc : List Value) (Φ0 : Nat → Prop) (W0 : World) : StepB 58 g (SX book3 ph g pc Φ0 W0) (SX book3 ph g pc Φ0 W0) := by
 intro w h
 have hc : w.cell? ⟨g, 12, none⟩ = some (.slice none 0 0) := by
  obtain ⟨Φ, ⟨cur, next, R, hB, hΦ⟩, h2⟩ := h
  exact (cell_of_block hB.blk).trans (hB.none_ 12 (by omega) (by omega) (lt_cases (by decide)))
 refine (fillClaims_none w g hc).mono ?_
 rintro e w' ⟨rfl, rfl⟩
 exact ⟨rfl, h⟩
theorem fillAllots3 (ph : Nat → Nat) (g : Nat) (pc : List Value) (Φ0 : Nat → Prop) (W0 : World) : StepB 59 g (SX book3 ph g pc Φ0 W0) (SX book3 ph g pc Φ0 W0) := by
 intro w h
 have hc : w.cell? ⟨g, 13, none⟩ = some (.slice none 0 0) := by
  obtain ⟨Φ, ⟨cur, next, R, hB, hΦ⟩, h2⟩ := h
  exact (cell_of_block hB.blk).trans (hB.none_ 13 (by omega) (by omega) (lt_cases (by decide)))
 refine (fillAllots_none w g hc).mono ?_
 rintro e w' ⟨rfl, rfl⟩
 exact ⟨rfl, h⟩
theorem fillAccounts3 (ph : Nat → Nat) (g : Nat) (pc : List Value) (Φ0 : Nat → Prop) (W0 : World) : StepB 60 g (SX book3 ph g pc Φ0 W0) (SX book3 ph g pc Φ0 W0) := by
 intro w h
 have hc : w.cell? ⟨g, 14, none⟩ = some (.slice none 0 0) := by
  obtain ⟨Φ, ⟨cur, next, R, hB, hΦ⟩, h2⟩ := h
  exact (cell_of_block hB.blk).trans (hB.none_ 14 (by omega) (by omega) (lt_cases (by decide)))
 refine (fillAccounts_none w g hc).mono ?_
 rintro e w' ⟨rfl, rfl⟩
 exact ⟨rfl, h⟩
theorem fillBalances3 (ph : Nat → Nat) (g : Nat) (pc : List Value) (Φ0 : Nat → Prop) (W0 : World) : StepB 61 g (SX book3 ph g pc Φ0 W0) (SX book3 ph g pc Φ0 W0) := by
 intro w h
 have hc : w.cell? ⟨g, 15, none⟩ = some (.slice none 0 0) := by
  obtain ⟨Φ, ⟨cur, next, R, hB, hΦ⟩, h2⟩ := h
  exact (cell_of_block hB.blk).trans (hB.none_ 15 (by omega) (by omega) (lt_cases (by decide)))
 refine (fillBalances_none w g hc).mono ?_
 rintro e w' ⟨rfl, rfl⟩
 exact ⟨rfl, h⟩
theorem fillColumns3 (ph : Nat → Nat) (g : Nat) (pc : List Value) (Φ0 : Nat → Prop) (W0 : World) : StepB 62 g (SX book3 ph g pc Φ0 W0) (SX book3 ph g pc Φ0 W0) := by
 intro w h
 have hc : w.cell? ⟨g, 16, none⟩ = some (.slice none 0 0) := by
  obtain ⟨Φ, ⟨cur, next, R, hB, hΦ⟩, h2⟩ := h
  exact (cell_of_block hB.blk).trans (hB.none_ 16 (by omega) (by omega) (lt_cases (by decide)))
 refine (fillColumns_none w g hc).mono ?_
 rintro e w' ⟨rfl, rfl⟩
 exact ⟨rfl, h⟩
theorem fillDays3 (ph : Nat → Nat) (g : Nat) (pc : List Value) (Φ0 : Nat → Prop) (W0 : World) : StepB 63 g (SX book3 ph g pc Φ0 W0) (SX book3 ph g pc Φ0 W0) := by
 intro w h
 have hc : w.cell? ⟨g, 17, none⟩ = some (.slice none 0 0) := by
  obtain ⟨Φ, ⟨cur, next, R, hB, hΦ⟩, h2⟩ := h
  exact (cell_of_block hB.blk).trans (hB.none_ 17 (by omega) (by omega) (lt_cases (by decide)))
 refine (fillDays_none w g hc).mono ?_
 rintro e w' ⟨rfl, rfl⟩
 exact ⟨rfl, h⟩
theorem fillLines3 (ph : Nat → Nat) (g : Nat) (pc : List Value) (Φ0 : Nat → Prop) (W0 : World) : StepB 64 g (SX book3 ph g pc Φ0 W0) (SX book3 ph g pc Φ0 W0) := by
 intro w h
 have hc : w.cell? ⟨g, 18, none⟩ = some (.slice none 0 0) := by
  obtain ⟨Φ, ⟨cur, next, R, hB, hΦ⟩, h2⟩ := h
  exact (cell_of_block hB.blk).trans (hB.none_ 18 (by omega) (by omega) (lt_cases (by decide)))
 refine (fillLines_none w g hc).mono ?_
 rintro e w' ⟨rfl, rfl⟩
 exact ⟨rfl, h⟩
theorem fillCells3 (ph : Nat → Nat) (g : Nat) (pc : List Value) (Φ0 : Nat → Prop) (W0 : World) : StepB 65 g (SX book3 ph g pc Φ0 W0) (SX book3 ph g pc Φ0 W0) := by
 intro w h
 have hc : w.cell? ⟨g, 19, none⟩ = some (.slice none 0 0) := by
  obtain ⟨Φ, ⟨cur, next, R, hB, hΦ⟩, h2⟩ := h
  exact (cell_of_block hB.blk).trans (hB.none_ 19 (by omega) (by omega) (lt_cases (by decide)))
 refine (fillCells_none w g hc).mono ?_
 rintro e w' ⟨rfl, rfl⟩
 exact ⟨rfl, h⟩
theorem fillSegments3 (ph : Nat → Nat) (g : Nat) (pc : List Value) (Φ0 : Nat → Prop) (W0 : World) : StepB 66 g (SX book3 ph g pc Φ0 W0) (SX book3 ph g pc Φ0 W0) := by
 intro w h
 have hc : w.cell? ⟨g, 20, none⟩ = some (.slice none 0 0) := by
  obtain ⟨Φ, ⟨cur, next, R, hB, hΦ⟩, h2⟩ := h
  exact (cell_of_block hB.blk).trans (hB.none_ 20 (by omega) (by omega) (lt_cases (by decide)))
 refine (fillSegments_none w g hc).mono ?_
 rintro e w' ⟨rfl, rfl⟩
 exact ⟨rfl, h⟩
theorem fillNodes3 (ph : Nat → Nat) (g : Nat) (pc : List Value) (Φ0 : Nat → Prop) (W0 : World) : StepB 67 g (SX book3 ph g pc Φ0 W0) (SX book3 ph g pc Φ0 W0) := by
 intro w h
 have hc : w.cell? ⟨g, 21, none⟩ = some (.slice none 0 0) := by
  obtain ⟨Φ, ⟨cur, next, R, hB, hΦ⟩, h2⟩ := h
  exact (cell_of_block hB.blk).trans (hB.none_ 21 (by omega) (by omega) (lt_cases (by decide)))
 refine (fillNodes_none w g hc).mono ?_
 rintro e w' ⟨rfl, rfl⟩
 exact ⟨rfl, h⟩
theorem fillEvents3 (ph : Nat → Nat) (g : Nat) (pc : List Value) (Φ0 : Nat → Prop) (W0 : World) : StepB 68 g (SX book3 ph g pc Φ0 W0) (SX book3 ph g pc Φ0 W0) := by
 intro w h
 have hc : w.cell? ⟨g, 22, none⟩ = some (.slice none 0 0) := by
  obtain ⟨Φ, ⟨cur, next, R, hB, hΦ⟩, h2⟩ := h
  exact (cell_of_block hB.blk).trans (hB.none_ 22 (by omega) (by omega) (lt_cases (by decide)))
 refine (fillEvents_none w g hc).mono ?_
 rintro e w' ⟨rfl, rfl⟩
 exact ⟨rfl, h⟩
theorem fillEntries3 (ph : Nat → Nat) (g : Nat) (pc : List Value) (Φ0 : Nat → Prop) (W0 : World) : StepB 69 g (SX book3 ph g pc Φ0 W0) (SX book3 ph g pc Φ0 W0) := by
 intro w h
 have hc : w.cell? ⟨g, 23, none⟩ = some (.slice none 0 0) := by
  obtain ⟨Φ, ⟨cur, next, R, hB, hΦ⟩, h2⟩ := h
  exact (cell_of_block hB.blk).trans (hB.none_ 23 (by omega) (by omega) (lt_cases (by decide)))
 refine (fillEntries_none w g hc).mono ?_
 rintro e w' ⟨rfl, rfl⟩
 exact ⟨rfl, h⟩
theorem fillLists3 (ph : Nat → Nat) (g : Nat) (pc : List Value) (Φ0 : Nat → Prop) (W0 : World) : StepB 71 g (SX book3 ph g pc Φ0 W0) (SX book3 ph g pc Φ0 W0) := by
 intro w h
 have hc : w.cell? ⟨g, 25, none⟩ = some (.slice none 0 0) := by
  obtain ⟨Φ, ⟨cur, next, R, hB, hΦ⟩, h2⟩ := h
  exact (cell_of_block hB.blk).trans (hB.none_ 25 (by omega) (by omega) (lt_cases (by decide)))
 refine (fillLists_none w g hc).mono ?_
 rintro e w' ⟨rfl, rfl⟩
 exact ⟨rfl, h⟩
theorem fillRows3 (ph : Nat → Nat) (g : Nat) (pc : List Value) (Φ0 : Nat → Prop) (W0 : World) : StepB 72 g (SX book3 ph g pc Φ0 W0) (SX book3 ph g pc Φ0 W0) := by
 intro w h
 have hc : w.cell? ⟨g, 26, none⟩ = some (.slice none 0 0) := by
  obtain ⟨Φ, ⟨cur, next, R, hB, hΦ⟩, h2⟩ := h
  exact (cell_of_block hB.blk).trans (hB.none_ 26 (by omega) (by omega) (lt_cases (by decide)))
 refine (fillRows_none w g hc).mono ?_
 rintro e w' ⟨rfl, rfl⟩
 exact ⟨rfl, h⟩
theorem fillBytes3 (ph : Nat → Nat) (hp : ph 0 = 0) (g : Nat) (pc : List Value) (Φ0 : Nat → Prop) (W0 : World) : StepB 53 g (SX book3 ph g pc Φ0 W0) (SX book3 (setPh ph 0 1) g pc Φ0 W0) := by
 intro w h
 obtain ⟨Φ, ⟨cur, next, R, hB, hΦ⟩, h2, h3, h4, h5⟩ := h
 have hb := hB.book 0 (by decide)
 rw [hp] at hb
 refine (fillsB_calls w g cur _ _ _ hb (hB.few 0 (by decide))).mono ?_
 rintro e w' ⟨rfl, hs⟩
 exact ⟨rfl, SX.turn book3_ok hB hΦ (i := 0) (v := 1) (by decide) h2 h3 h4 h5 (hs.imp fun i p hi h => by unfold FillI at h; rw [if_pos hi] at h; exact h)⟩
theorem fillTexts3 (ph : Nat → Nat) (hp : ph 1 = 0) (g : Nat) (pc : List Value) (Φ0 : Nat → Prop) (W0 : World) : StepB 56 g (SX book3 ph g pc Φ0 W0) (SX book3 (setPh ph 1 1) g pc Φ0 W0) := by
 intro w h
 obtain ⟨Φ, ⟨cur, next, R, hB, hΦ⟩, h2, h3, h4, h5⟩ := h
 have hb := hB.book 1 (by decide)
 rw [hp] at hb
 refine (fillsTexts_calls w g cur _ _ _ hb (hB.few 1 (by decide)) h4 (fun hf => SX.tab h3 h5 ((hΦ _).2 (.inr ⟨1, by decide, hf⟩)))).mono ?_
 rintro e w' ⟨rfl, hs⟩
 exact ⟨rfl, SX.turn book3_ok hB hΦ (i := 1) (v := 1) (by decide) h2 h3 h4 h5 (hs.imp fun i p hi h => by unfold FillE at h; rw [if_pos hi] at h; exact h)⟩
theorem fillFiles3 (ph : Nat → Nat) (hp : ph 2 = 0) (g : Nat) (pc : List Value) (Φ0 : Nat → Prop) (W0 : World) : StepB 70 g (SX book3 ph g pc Φ0 W0) (SX book3 (setPh ph 2 1) g pc Φ0 W0) := by
 intro w h
 obtain ⟨Φ, ⟨cur, next, R, hB, hΦ⟩, h2, h3, h4, h5⟩ := h
 have hb := hB.book 2 (by decide)
 rw [hp] at hb
 refine (fillsFiles_calls w g cur _ _ _ hb (hB.few 2 (by decide)) h4 (fun hf => SX.tab h3 h5 ((hΦ _).2 (.inr ⟨2, by decide, hf⟩)))).mono ?_
 rintro e w' ⟨rfl, hs⟩
 exact ⟨rfl, SX.turn book3_ok hB hΦ (i := 2) (v := 1) (by decide) h2 h3 h4 h5 (hs.imp fun i p hi h => by unfold FillE at h; rw [if_pos hi] at h; exact h)⟩
theorem growInts3 (ph : Nat → Nat) (g : Nat) (pc : List Value) (Φ0 : Nat → Prop) (W0 : World) : StepB 74 g (SX book3 ph g pc Φ0 W0) (SX book3 ph g pc Φ0 W0) := by
 intro w h
 have hc : w.cell? ⟨g, 8, none⟩ = some (.slice none 0 0) := by
  obtain ⟨Φ, ⟨cur, next, R, hB, hΦ⟩, h2⟩ := h
  exact (cell_of_block hB.blk).trans (hB.none_ 8 (by omega) (by omega) (lt_cases (by decide)))
 refine (growInts_none w g hc).mono ?_
 rintro e w' ⟨rfl, rfl⟩
 exact ⟨rfl, h⟩
theorem growNums3 (ph : Nat → Nat) (g : Nat) (pc : List Value) (Φ0 : Nat → Prop) (W0 : World) : StepB 75 g (SX book3 ph g pc Φ0 W0) (SX book3 ph g pc Φ0 W0) := by
 intro w h
 have hc : w.cell? ⟨g, 9, none⟩ = some (.slice none 0 0) := by
  obtain ⟨Φ, ⟨cur, next, R, hB, hΦ⟩, h2⟩ := h
  exact (cell_of_block hB.blk).trans (hB.none_ 9 (by omega) (by omega) (lt_cases (by decide)))
 refine (growNums_none w g hc).mono ?_
 rintro e w' ⟨rfl, rfl⟩
 exact ⟨rfl, h⟩
theorem growPostings3 (ph : Nat → Nat) (g : Nat) (pc : List Value) (Φ0 : Nat → Prop) (W0 : World) : StepB 77 g (SX book3 ph g pc Φ0 W0) (SX book3 ph g pc Φ0 W0) := by
 intro w h
 have hc : w.cell? ⟨g, 11, none⟩ = some (.slice none 0 0) := by
  obtain ⟨Φ, ⟨cur, next, R, hB, hΦ⟩, h2⟩ := h
  exact (cell_of_block hB.blk).trans (hB.none_ 11 (by omega) (by omega) (lt_cases (by decide)))
 refine (growPostings_none w g hc).mono ?_
 rintro e w' ⟨rfl, rfl⟩
 exact ⟨rfl, h⟩
theorem growClaims3 (ph : Nat → Nat) (g : Nat) (pc : List Value) (Φ0 : Nat → Prop) (W0 : World) : StepB 78 g (SX book3 ph g pc Φ0 W0) (SX book3 ph g pc Φ0 W0) := by
 intro w h
 have hc : w.cell? ⟨g, 12, none⟩ = some (.slice none 0 0) := by
  obtain ⟨Φ, ⟨cur, next, R, hB, hΦ⟩, h2⟩ := h
  exact (cell_of_block hB.blk).trans (hB.none_ 12 (by omega) (by omega) (lt_cases (by decide)))
 refine (growClaims_none w g hc).mono ?_
 rintro e w' ⟨rfl, rfl⟩
 exact ⟨rfl, h⟩
theorem growAllots3 (ph : Nat → Nat) (g : Nat) (pc : List Value) (Φ0 : Nat → Prop) (W0 : World) : StepB 79 g (SX book3 ph g pc Φ0 W0) (SX book3 ph g pc Φ0 W0) := by
 intro w h
 have hc : w.cell? ⟨g, 13, none⟩ = some (.slice none 0 0) := by
  obtain ⟨Φ, ⟨cur, next, R, hB, hΦ⟩, h2⟩ := h
  exact (cell_of_block hB.blk).trans (hB.none_ 13 (by omega) (by omega) (lt_cases (by decide)))
 refine (growAllots_none w g hc).mono ?_
 rintro e w' ⟨rfl, rfl⟩
 exact ⟨rfl, h⟩
theorem growAccounts3 (ph : Nat → Nat) (g : Nat) (pc : List Value) (Φ0 : Nat → Prop) (W0 : World) : StepB 80 g (SX book3 ph g pc Φ0 W0) (SX book3 ph g pc Φ0 W0) := by
 intro w h
 have hc : w.cell? ⟨g, 14, none⟩ = some (.slice none 0 0) := by
  obtain ⟨Φ, ⟨cur, next, R, hB, hΦ⟩, h2⟩ := h
  exact (cell_of_block hB.blk).trans (hB.none_ 14 (by omega) (by omega) (lt_cases (by decide)))
 refine (growAccounts_none w g hc).mono ?_
 rintro e w' ⟨rfl, rfl⟩
 exact ⟨rfl, h⟩
theorem growBalances3 (ph : Nat → Nat) (g : Nat) (pc : List Value) (Φ0 : Nat → Prop) (W0 : World) : StepB 81 g (SX book3 ph g pc Φ0 W0) (SX book3 ph g pc Φ0 W0) := by
 intro w h
 have hc : w.cell? ⟨g, 15, none⟩ = some (.slice none 0 0) := by
  obtain ⟨Φ, ⟨cur, next, R, hB, hΦ⟩, h2⟩ := h
  exact (cell_of_block hB.blk).trans (hB.none_ 15 (by omega) (by omega) (lt_cases (by decide)))
 refine (growBalances_none w g hc).mono ?_
 rintro e w' ⟨rfl, rfl⟩
 exact ⟨rfl, h⟩
theorem growColumns3 (ph : Nat → Nat) (g : Nat) (pc : List Value) (Φ0 : Nat → Prop) (W0 : World) : StepB 82 g (SX book3 ph g pc Φ0 W0) (SX book3 ph g pc Φ0 W0) := by
 intro w h
 have hc : w.cell? ⟨g, 16, none⟩ = some (.slice none 0 0) := by
  obtain ⟨Φ, ⟨cur, next, R, hB, hΦ⟩, h2⟩ := h
  exact (cell_of_block hB.blk).trans (hB.none_ 16 (by omega) (by omega) (lt_cases (by decide)))
 refine (growColumns_none w g hc).mono ?_
 rintro e w' ⟨rfl, rfl⟩
 exact ⟨rfl, h⟩
theorem growDays3 (ph : Nat → Nat) (g : Nat) (pc : List Value) (Φ0 : Nat → Prop) (W0 : World) : StepB 83 g (SX book3 ph g pc Φ0 W0) (SX book3 ph g pc Φ0 W0) := by
 intro w h
 have hc : w.cell? ⟨g, 17, none⟩ = some (.slice none 0 0) := by
  obtain ⟨Φ, ⟨cur, next, R, hB, hΦ⟩, h2⟩ := h
  exact (cell_of_block hB.blk).trans (hB.none_ 17 (by omega) (by omega) (lt_cases (by decide)))
 refine (growDays_none w g hc).mono ?_
 rintro e w' ⟨rfl, rfl⟩
 exact ⟨rfl, h⟩
theorem growLines3 (ph : Nat → Nat) (g : Nat) (pc : List Value) (Φ0 : Nat → Prop) (W0 : World) : StepB 84 g (SX book3 ph g pc Φ0 W0) (SX book3 ph g pc Φ0 W0) := by
 intro w h
 have hc : w.cell? ⟨g, 18, none⟩ = some (.slice none 0 0) := by
  obtain ⟨Φ, ⟨cur, next, R, hB, hΦ⟩, h2⟩ := h
  exact (cell_of_block hB.blk).trans (hB.none_ 18 (by omega) (by omega) (lt_cases (by decide)))
 refine (growLines_none w g hc).mono ?_
 rintro e w' ⟨rfl, rfl⟩
 exact ⟨rfl, h⟩
theorem growCells3 (ph : Nat → Nat) (g : Nat) (pc : List Value) (Φ0 : Nat → Prop) (W0 : World) : StepB 85 g (SX book3 ph g pc Φ0 W0) (SX book3 ph g pc Φ0 W0) := by
 intro w h
 have hc : w.cell? ⟨g, 19, none⟩ = some (.slice none 0 0) := by
  obtain ⟨Φ, ⟨cur, next, R, hB, hΦ⟩, h2⟩ := h
  exact (cell_of_block hB.blk).trans (hB.none_ 19 (by omega) (by omega) (lt_cases (by decide)))
 refine (growCells_none w g hc).mono ?_
 rintro e w' ⟨rfl, rfl⟩
 exact ⟨rfl, h⟩
theorem growSegments3 (ph : Nat → Nat) (g : Nat) (pc : List Value) (Φ0 : Nat → Prop) (W0 : World) : StepB 86 g (SX book3 ph g pc Φ0 W0) (SX book3 ph g pc Φ0 W0) := by
 intro w h
 have hc : w.cell? ⟨g, 20, none⟩ = some (.slice none 0 0) := by
  obtain ⟨Φ, ⟨cur, next, R, hB, hΦ⟩, h2⟩ := h
  exact (cell_of_block hB.blk).trans (hB.none_ 20 (by omega) (by omega) (lt_cases (by decide)))
 refine (growSegments_none w g hc).mono ?_
 rintro e w' ⟨rfl, rfl⟩
 exact ⟨rfl, h⟩
theorem growNodes3 (ph : Nat → Nat) (g : Nat) (pc : List Value) (Φ0 : Nat → Prop) (W0 : World) : StepB 87 g (SX book3 ph g pc Φ0 W0) (SX book3 ph g pc Φ0 W0) := by
 intro w h
 have hc : w.cell? ⟨g, 21, none⟩ = some (.slice none 0 0) := by
  obtain ⟨Φ, ⟨cur, next, R, hB, hΦ⟩, h2⟩ := h
  exact (cell_of_block hB.blk).trans (hB.none_ 21 (by omega) (by omega) (lt_cases (by decide)))
 refine (growNodes_none w g hc).mono ?_
 rintro e w' ⟨rfl, rfl⟩
 exact ⟨rfl, h⟩
theorem growEvents3 (ph : Nat → Nat) (g : Nat) (pc : List Value) (Φ0 : Nat → Prop) (W0 : World) : StepB 88 g (SX book3 ph g pc Φ0 W0) (SX book3 ph g pc Φ0 W0) := by
 intro w h
 have hc : w.cell? ⟨g, 22, none⟩ = some (.slice none 0 0) := by
  obtain ⟨Φ, ⟨cur, next, R, hB, hΦ⟩, h2⟩ := h
  exact (cell_of_block hB.blk).trans (hB.none_ 22 (by omega) (by omega) (lt_cases (by decide)))
 refine (growEvents_none w g hc).mono ?_
 rintro e w' ⟨rfl, rfl⟩
 exact ⟨rfl, h⟩
theorem growEntries3 (ph : Nat → Nat) (g : Nat) (pc : List Value) (Φ0 : Nat → Prop) (W0 : World) : StepB 89 g (SX book3 ph g pc Φ0 W0) (SX book3 ph g pc Φ0 W0) := by
 intro w h
 have hc : w.cell? ⟨g, 23, none⟩ = some (.slice none 0 0) := by
  obtain ⟨Φ, ⟨cur, next, R, hB, hΦ⟩, h2⟩ := h
  exact (cell_of_block hB.blk).trans (hB.none_ 23 (by omega) (by omega) (lt_cases (by decide)))
 refine (growEntries_none w g hc).mono ?_
 rintro e w' ⟨rfl, rfl⟩
 exact ⟨rfl, h⟩
theorem growLists3 (ph : Nat → Nat) (g : Nat) (pc : List Value) (Φ0 : Nat → Prop) (W0 : World) : StepB 91 g (SX book3 ph g pc Φ0 W0) (SX book3 ph g pc Φ0 W0) := by
 intro w h
 have hc : w.cell? ⟨g, 25, none⟩ = some (.slice none 0 0) := by
  obtain ⟨Φ, ⟨cur, next, R, hB, hΦ⟩, h2⟩ := h
  exact (cell_of_block hB.blk).trans (hB.none_ 25 (by omega) (by omega) (lt_cases (by decide)))
 refine (growLists_none w g hc).mono ?_
 rintro e w' ⟨rfl, rfl⟩
 exact ⟨rfl, h⟩
theorem growRows3 (ph : Nat → Nat) (g : Nat) (pc : List Value) (Φ0 : Nat → Prop) (W0 : World) : StepB 92 g (SX book3 ph g pc Φ0 W0) (SX book3 ph g pc Φ0 W0) := by
 intro w h
 have hc : w.cell? ⟨g, 26, none⟩ = some (.slice none 0 0) := by
  obtain ⟨Φ, ⟨cur, next, R, hB, hΦ⟩, h2⟩ := h
  exact (cell_of_block hB.blk).trans (hB.none_ 26 (by omega) (by omega) (lt_cases (by decide)))
 refine (growRows_none w g hc).mono ?_
 rintro e w' ⟨rfl, rfl⟩
 exact ⟨rfl, h⟩
theorem growBytes3 (ph : Nat → Nat) (hp : ph 0 = 1) (g : Nat) (pc : List Value) (Φ0 : Nat → Prop) (W0 : World) : StepB 73 g (SX book3 ph g pc Φ0 W0) (SX book3 (setPh ph 0 2) g pc Φ0 W0) := by
 intro w h
 obtain ⟨Φ, ⟨cur, next, R, hB, hΦ⟩, h2, h3, h4, h5⟩ := h
 have hb := hB.book 0 (by decide)
 rw [hp] at hb
 refine (growsB_calls w g cur _ _ _ hb (hB.few 0 (by decide))).mono ?_
 rintro e w' ⟨rfl, hs⟩
 exact ⟨rfl, SX.turn book3_ok hB hΦ (i := 0) (v := 2) (by decide) h2 h3 h4 h5 (hs.imp fun i p hi h => by unfold GrowI at h; rw [if_pos hi] at h; exact h)⟩
theorem growTexts3 (ph : Nat → Nat) (hp : ph 1 = 1) (g : Nat) (pc : List Value) (Φ0 : Nat → Prop) (W0 : World) : StepB 76 g (SX book3 ph g pc Φ0 W0) (SX book3 (setPh ph 1 2) g pc Φ0 W0) := by
 intro w h
 obtain ⟨Φ, ⟨cur, next, R, hB, hΦ⟩, h2, h3, h4, h5⟩ := h
 have hb := hB.book 1 (by decide)
 rw [hp] at hb
 refine (growsTexts_calls w g cur _ _ _ hb (hB.few 1 (by decide)) h4 (fun hf => SX.tab h3 h5 ((hΦ _).2 (.inr ⟨1, by decide, hf⟩)))).mono ?_
 rintro e w' ⟨rfl, hs⟩
 exact ⟨rfl, SX.turn book3_ok hB hΦ (i := 1) (v := 2) (by decide) h2 h3 h4 h5 (hs.imp fun i p hi h => by unfold GrowE at h; rw [if_pos hi] at h; exact h)⟩
theorem growFiles3 (ph : Nat → Nat) (hp : ph 2 = 1) (g : Nat) (pc : List Value) (Φ0 : Nat → Prop) (W0 : World) : StepB 90 g (SX book3 ph g pc Φ0 W0) (SX book3 (setPh ph 2 2) g pc Φ0 W0) := by
 intro w h
 obtain ⟨Φ, ⟨cur, next, R, hB, hΦ⟩, h2, h3, h4, h5⟩ := h
 have hb := hB.book 2 (by decide)
 rw [hp] at hb
 refine (growsFiles_calls w g cur _ _ _ hb (hB.few 2 (by decide)) h4 (fun hf => SX.tab h3 h5 ((hΦ _).2 (.inr ⟨2, by decide, hf⟩)))).mono ?_
 rintro e w' ⟨rfl, hs⟩
 exact ⟨rfl, SX.turn book3_ok hB hΦ (i := 2) (v := 2) (by decide) h2 h3 h4 h5 (hs.imp fun i p hi h => by unfold GrowE at h; rw [if_pos hi] at h; exact h)⟩
def ph3 (k : Nat) : Nat → Nat := fun i => match i with
 | 0 => if k ≤ 0 then 0 else if k ≤ 20 then 1 else 2
 | 1 => if k ≤ 3 then 0 else if k ≤ 23 then 1 else 2
 | _ => if k ≤ 17 then 0 else if k ≤ 37 then 1 else 2
theorem settle3 (g : Nat) (pc : List Value) (Φ0 : Nat → Prop) (W0 : World) (w : World) (h : SX book3 (fun _ => 0) g pc Φ0 W0 w) :
  Calls Tryz.prog 16 #[.pointer (some ⟨g, 6, none⟩)] w fun e w' => e = .returned (.bool true) ∧ SX book3 (fun _ => 2) g pc Φ0 W0 w' :=
 (Settle_calls g (fun k => SX book3 (ph3 k) g pc Φ0 W0) (looks3 _ (fun i => .inl (by unfold ph3; split <;> rfl)) g pc Φ0 W0)
  ⟨fun w h => (fillBytes3 (ph3 0) rfl g pc Φ0 W0 w h).mono fun _ _ h => ⟨h.1, h.2.phase (lt_cases (by decide))⟩,
   fun w h => (fillInts3 (ph3 1) g pc Φ0 W0 w h).mono fun _ _ h => ⟨h.1, h.2.phase (lt_cases (by decide))⟩,
   fun w h => (fillNums3 (ph3 2) g pc Φ0 W0 w h).mono fun _ _ h => ⟨h.1, h.2.phase (lt_cases (by decide))⟩,
   fun w h => (fillTexts3 (ph3 3) rfl g pc Φ0 W0 w h).mono fun _ _ h => ⟨h.1, h.2.phase (lt_cases (by decide))⟩,
   fun w h => (fillPostings3 (ph3 4) g pc Φ0 W0 w h).mono fun _ _ h => ⟨h.1, h.2.phase (lt_cases (by decide))⟩,
   fun w h => (fillClaims3 (ph3 5) g pc Φ0 W0 w h).mono fun _ _ h => ⟨h.1, h.2.phase (lt_cases (by decide))⟩,
   fun w h => (fillAllots3 (ph3 6) g pc Φ0 W0 w h).mono fun _ _ h => ⟨h.1, h.2.phase (lt_cases (by decide))⟩,
   fun w h => (fillAccounts3 (ph3 7) g pc Φ0 W0 w h).mono fun _ _ h => ⟨h.1, h.2.phase (lt_cases (by decide))⟩,
   fun w h => (fillBalances3 (ph3 8) g pc Φ0 W0 w h).mono fun _ _ h => ⟨h.1, h.2.phase (lt_cases (by decide))⟩,
   fun w h => (fillColumns3 (ph3 9) g pc Φ0 W0 w h).mono fun _ _ h => ⟨h.1, h.2.phase (lt_cases (by decide))⟩,
   fun w h => (fillDays3 (ph3 10) g pc Φ0 W0 w h).mono fun _ _ h => ⟨h.1, h.2.phase (lt_cases (by decide))⟩,
   fun w h => (fillLines3 (ph3 11) g pc Φ0 W0 w h).mono fun _ _ h => ⟨h.1, h.2.phase (lt_cases (by decide))⟩,
   fun w h => (fillCells3 (ph3 12) g pc Φ0 W0 w h).mono fun _ _ h => ⟨h.1, h.2.phase (lt_cases (by decide))⟩,
   fun w h => (fillSegments3 (ph3 13) g pc Φ0 W0 w h).mono fun _ _ h => ⟨h.1, h.2.phase (lt_cases (by decide))⟩,
   fun w h => (fillNodes3 (ph3 14) g pc Φ0 W0 w h).mono fun _ _ h => ⟨h.1, h.2.phase (lt_cases (by decide))⟩,
   fun w h => (fillEvents3 (ph3 15) g pc Φ0 W0 w h).mono fun _ _ h => ⟨h.1, h.2.phase (lt_cases (by decide))⟩,
   fun w h => (fillEntries3 (ph3 16) g pc Φ0 W0 w h).mono fun _ _ h => ⟨h.1, h.2.phase (lt_cases (by decide))⟩,
   fun w h => (fillFiles3 (ph3 17) rfl g pc Φ0 W0 w h).mono fun _ _ h => ⟨h.1, h.2.phase (lt_cases (by decide))⟩,
   fun w h => (fillLists3 (ph3 18) g pc Φ0 W0 w h).mono fun _ _ h => ⟨h.1, h.2.phase (lt_cases (by decide))⟩,
   fun w h => (fillRows3 (ph3 19) g pc Φ0 W0 w h).mono fun _ _ h => ⟨h.1, h.2.phase (lt_cases (by decide))⟩⟩
  ⟨fun w h => (growBytes3 (ph3 20) rfl g pc Φ0 W0 w h).mono fun _ _ h => ⟨h.1, h.2.phase (lt_cases (by decide))⟩,
   fun w h => (growInts3 (ph3 21) g pc Φ0 W0 w h).mono fun _ _ h => ⟨h.1, h.2.phase (lt_cases (by decide))⟩,
   fun w h => (growNums3 (ph3 22) g pc Φ0 W0 w h).mono fun _ _ h => ⟨h.1, h.2.phase (lt_cases (by decide))⟩,
   fun w h => (growTexts3 (ph3 23) rfl g pc Φ0 W0 w h).mono fun _ _ h => ⟨h.1, h.2.phase (lt_cases (by decide))⟩,
   fun w h => (growPostings3 (ph3 24) g pc Φ0 W0 w h).mono fun _ _ h => ⟨h.1, h.2.phase (lt_cases (by decide))⟩,
   fun w h => (growClaims3 (ph3 25) g pc Φ0 W0 w h).mono fun _ _ h => ⟨h.1, h.2.phase (lt_cases (by decide))⟩,
   fun w h => (growAllots3 (ph3 26) g pc Φ0 W0 w h).mono fun _ _ h => ⟨h.1, h.2.phase (lt_cases (by decide))⟩,
   fun w h => (growAccounts3 (ph3 27) g pc Φ0 W0 w h).mono fun _ _ h => ⟨h.1, h.2.phase (lt_cases (by decide))⟩,
   fun w h => (growBalances3 (ph3 28) g pc Φ0 W0 w h).mono fun _ _ h => ⟨h.1, h.2.phase (lt_cases (by decide))⟩,
   fun w h => (growColumns3 (ph3 29) g pc Φ0 W0 w h).mono fun _ _ h => ⟨h.1, h.2.phase (lt_cases (by decide))⟩,
   fun w h => (growDays3 (ph3 30) g pc Φ0 W0 w h).mono fun _ _ h => ⟨h.1, h.2.phase (lt_cases (by decide))⟩,
   fun w h => (growLines3 (ph3 31) g pc Φ0 W0 w h).mono fun _ _ h => ⟨h.1, h.2.phase (lt_cases (by decide))⟩,
   fun w h => (growCells3 (ph3 32) g pc Φ0 W0 w h).mono fun _ _ h => ⟨h.1, h.2.phase (lt_cases (by decide))⟩,
   fun w h => (growSegments3 (ph3 33) g pc Φ0 W0 w h).mono fun _ _ h => ⟨h.1, h.2.phase (lt_cases (by decide))⟩,
   fun w h => (growNodes3 (ph3 34) g pc Φ0 W0 w h).mono fun _ _ h => ⟨h.1, h.2.phase (lt_cases (by decide))⟩,
   fun w h => (growEvents3 (ph3 35) g pc Φ0 W0 w h).mono fun _ _ h => ⟨h.1, h.2.phase (lt_cases (by decide))⟩,
   fun w h => (growEntries3 (ph3 36) g pc Φ0 W0 w h).mono fun _ _ h => ⟨h.1, h.2.phase (lt_cases (by decide))⟩,
   fun w h => (growFiles3 (ph3 37) rfl g pc Φ0 W0 w h).mono fun _ _ h => ⟨h.1, h.2.phase (lt_cases (by decide))⟩,
   fun w h => (growLists3 (ph3 38) g pc Φ0 W0 w h).mono fun _ _ h => ⟨h.1, h.2.phase (lt_cases (by decide))⟩,
   fun w h => (growRows3 (ph3 39) g pc Φ0 W0 w h).mono fun _ _ h => ⟨h.1, h.2.phase (lt_cases (by decide))⟩⟩
  (looks3 _ (fun i => .inr (by unfold ph3; split <;> rfl)) g pc Φ0 W0) w (h.phase (lt_cases (by decide)))).mono fun _ _ h => ⟨h.1, h.2.phase (lt_cases (by decide))⟩
theorem intact3 (g : Nat) (pc : List Value) (Φ0 : Nat → Prop) (W0 : World) (ph : Nat → Nat) (hp : ∀ i, ph i = 0 ∨ ph i = 2) (w : World) (h : SX book3 ph g pc Φ0 W0 w) :
  Calls Tryz.prog 10 #[.pointer (some ⟨g, 6, none⟩)] w fun e w' => e = .returned (.bool true) ∧ SX book3 ph g pc Φ0 W0 w' :=
 Intact_calls g (SX book3 ph g pc Φ0 W0) (looks3 ph hp g pc Φ0 W0) w h
theorem KeepBytes_full (w : World) (g : Nat) (A L : Option Addr) (c n m cL : Nat) (hc : w.cell? ⟨g, 7, none⟩ = some (.slice A m c)) (hm : m = 96) :
  Calls Tryz.prog 114 #[.pointer (some ⟨g, 6, none⟩), .slice L n cL] w fun e w' => e = .returned (.tuple #[]) ∧ w = w' := by
 subst hm
 go_enter Tryz.func114, Tryz.ntmps114
 go_wp2_with fail
 go_end0
 exact ⟨rfl, rfl⟩
theorem KeepBytes3 (w : World) (g : Nat) (pc : List Value) (Φ : Nat → Prop) (ph : Nat → Nat) (hp : ph 0 = 0) (L : Option Addr) (n cL : Nat) (h : BX book3 ph w g pc Φ) (l : List UInt8) (hL : Own w 5 1 L cL n (bcs l)) (hn : n = l.length) (hn2 : n ≤ 1099511627776) (hLs : ∀ x, Bk L x → ¬ Φ x) :
  Calls Tryz.prog 114 #[.pointer (some ⟨g, 6, none⟩), .slice L n cL] w fun e w' => e = .returned (.tuple #[]) ∧ PutBX book3 ph w g pc Φ L w' := by
 have hh := h
 obtain ⟨cur, next, R, hB, hΦ⟩ := h
 have hb := hB.book 0 (by decide)
 rw [hp] at hb
 have hfew := hB.few 0 (by decide)
 have hle := hB.le
 have htot := total_le (n := book3.n) (R := R) fun i hi => hB.few i hi
 have h3 : book3.n = 3 := rfl
 rw [h3] at htot hle
 by_cases hlt : (R 0).ps.length < 96
 ·refine (KeepB_calls w g next cur (R 0).A L (R 0).c n cL (R 0).ps l hb hB.nxt (by omega) hlt hL hn hn2 (fun x hx => ⟨fun e => hLs x hx ((hΦ x).2 (.inl e)), fun hb => hLs x hx ((hΦ x).2 (.inr ⟨0, by decide, .inl hb⟩)), fun q hq hf => hLs x hx ((hΦ x).2 (.inr ⟨0, by decide, .inr ⟨q, hq, hf⟩⟩))⟩)).mono ?_
  rintro e w' ⟨rfl, hq⟩
  exact ⟨rfl, BX.putE book3_ok hB hΦ (i := 0) (by decide) hlt hLs (by rw [hp]; exact hq) hL.lt⟩
 ·refine (KeepBytes_full w g (R 0).A L (R 0).c n _ cL ((cell_of_block hB.blk).trans hb.2.1) (by omega)).mono ?_
  rintro e w' ⟨rfl, rfl⟩
  exact ⟨rfl, hh.putNone L⟩
theorem WriteBytes_full (w : World) (g : Nat) (A L : Option Addr) (c n m cL : Nat) (hc : w.cell? ⟨g, 7, none⟩ = some (.slice A m c)) (hm : m = 96) :
  Calls Tryz.prog 115 #[.pointer (some ⟨g, 6, none⟩), .slice L n cL] w fun e w' => e = .returned (.tuple #[]) ∧ w = w' := by
 subst hm
 go_enter Tryz.func115, Tryz.ntmps115
 go_wp2_with fail
 go_end0
 exact ⟨rfl, rfl⟩
theorem WriteBytes3 (w : World) (g : Nat) (pc : List Value) (Φ : Nat → Prop) (ph : Nat → Nat) (hp : ph 0 = 0) (L : Option Addr) (n cL : Nat) (h : BX book3 ph w g pc Φ) (xs : List Value) (hL : Own w 5 1 L cL n xs) (hn2 : n ≤ 1099511627776) (hLs : ∀ x, Bk L x → ¬ Φ x) :
  Calls Tryz.prog 115 #[.pointer (some ⟨g, 6, none⟩), .slice L n cL] w fun e w' => e = .returned (.tuple #[]) ∧ PutBX book3 ph w g pc Φ L w' := by
 have hh := h
 obtain ⟨cur, next, R, hB, hΦ⟩ := h
 have hb := hB.book 0 (by decide)
 rw [hp] at hb
 have hfew := hB.few 0 (by decide)
 have hle := hB.le
 have htot := total_le (n := book3.n) (R := R) fun i hi => hB.few i hi
 have h3 : book3.n = 3 := rfl
 rw [h3] at htot hle
 by_cases hlt : (R 0).ps.length < 96
 ·refine (WriteB_calls w g next cur (R 0).A L (R 0).c n cL (R 0).ps xs hb hB.nxt (by omega) hlt hL hn2 (fun x hx => ⟨fun e => hLs x hx ((hΦ x).2 (.inl e)), fun hb => hLs x hx ((hΦ x).2 (.inr ⟨0, by decide, .inl hb⟩)), fun q hq hf => hLs x hx ((hΦ x).2 (.inr ⟨0, by decide, .inr ⟨q, hq, hf⟩⟩))⟩)).mono ?_
  rintro e w' ⟨rfl, hq⟩
  exact ⟨rfl, BX.putE book3_ok hB hΦ (i := 0) (by decide) hlt hLs (by rw [hp]; exact hq) hL.lt⟩
 ·refine (WriteBytes_full w g (R 0).A L (R 0).c n _ cL ((cell_of_block hB.blk).trans hb.2.1) (by omega)).mono ?_
  rintro e w' ⟨rfl, rfl⟩
  exact ⟨rfl, hh.putNone L⟩
theorem KeepTexts_full (w : World) (g : Nat) (A L : Option Addr) (c n m cL : Nat) (hc : w.cell? ⟨g, 10, none⟩ = some (.slice A m c)) (hm : m = 96) :
  Calls Tryz.prog 120 #[.pointer (some ⟨g, 6, none⟩), .slice L n cL] w fun e w' => e = .returned (.tuple #[]) ∧ w = w' := by
 subst hm
 go_enter Tryz.func120, Tryz.ntmps120
 go_wp2_with fail
 go_end0
 exact ⟨rfl, rfl⟩
theorem KeepTexts3 (w : World) (g : Nat) (pc : List Value) (Φ : Nat → Prop) (ph : Nat → Nat) (hp : ph 1 = 0) (L : Option Addr) (n cL : Nat) (h : BX book3 ph w g pc Φ) (xs : List Value) (hL : Own w kTexts.e kTexts.sz L cL n xs) (hwf : ∀ i, i < n → kTexts.wf (elt xs kTexts.sz i)) (hn2 : n ≤ 1099511627776) (hLs : ∀ x, Bk L x → ¬ Φ x) :
  Calls Tryz.prog 120 #[.pointer (some ⟨g, 6, none⟩), .slice L n cL] w fun e w' => e = .returned (.tuple #[]) ∧ PutBX book3 ph w g pc Φ L w' := by
 have hh := h
 obtain ⟨cur, next, R, hB, hΦ⟩ := h
 have hb := hB.book 1 (by decide)
 rw [hp] at hb
 have hfew := hB.few 1 (by decide)
 have hle := hB.le
 have htot := total_le (n := book3.n) (R := R) fun i hi => hB.few i hi
 have h3 : book3.n = 3 := rfl
 rw [h3] at htot hle
 by_cases hlt : (R 1).ps.length < 96
 ·refine (KeepTexts_calls w g next cur (R 1).A L (R 1).c n cL (R 1).ps xs hb hB.nxt (by omega) hlt hL hwf hn2 (fun x hx => ⟨fun e => hLs x hx ((hΦ x).2 (.inl e)), fun hb => hLs x hx ((hΦ x).2 (.inr ⟨1, by decide, .inl hb⟩)), fun q hq hf => hLs x hx ((hΦ x).2 (.inr ⟨1, by decide, .inr ⟨q, hq, hf⟩⟩))⟩)).mono ?_
  rintro e w' ⟨rfl, hq⟩
  exact ⟨rfl, BX.putE book3_ok hB hΦ (i := 1) (by decide) hlt hLs (by rw [hp]; exact hq) hL.lt⟩
 ·refine (KeepTexts_full w g (R 1).A L (R 1).c n _ cL ((cell_of_block hB.blk).trans hb.2.1) (by omega)).mono ?_
  rintro e w' ⟨rfl, rfl⟩
  exact ⟨rfl, hh.putNone L⟩
theorem WriteTexts_full (w : World) (g : Nat) (A L : Option Addr) (c n m cL : Nat) (hc : w.cell? ⟨g, 10, none⟩ = some (.slice A m c)) (hm : m = 96) :
  Calls Tryz.prog 121 #[.pointer (some ⟨g, 6, none⟩), .slice L n cL] w fun e w' => e = .returned (.tuple #[]) ∧ w = w' := by
 subst hm
 go_enter Tryz.func121, Tryz.ntmps121
 go_wp2_with fail
 go_end0
 exact ⟨rfl, rfl⟩
theorem WriteTexts3 (w : World) (g : Nat) (pc : List Value) (Φ : Nat → Prop) (ph : Nat → Nat) (hp : ph 1 = 0) (L : Option Addr) (n cL : Nat) (h : BX book3 ph w g pc Φ) (xs : List Value) (hL : Own w kTexts.e kTexts.sz L cL n xs) (hn2 : n ≤ 1099511627776) (hT : Tab w) (htL : ¬ Bk L 0) (htΦ : ¬ Φ 0) (hLs : ∀ x, Bk L x → ¬ Φ x) :
  Calls Tryz.prog 121 #[.pointer (some ⟨g, 6, none⟩), .slice L n cL] w fun e w' => e = .returned (.tuple #[]) ∧ PutBX book3 ph w g pc Φ L w' := by
 have hh := h
 obtain ⟨cur, next, R, hB, hΦ⟩ := h
 have hb := hB.book 1 (by decide)
 rw [hp] at hb
 have hfew := hB.few 1 (by decide)
 have hle := hB.le
 have htot := total_le (n := book3.n) (R := R) fun i hi => hB.few i hi
 have h3 : book3.n = 3 := rfl
 rw [h3] at htot hle
 by_cases hlt : (R 1).ps.length < 96
 ·refine (WriteTexts_calls w g next cur (R 1).A L (R 1).c n cL (R 1).ps xs hb hB.nxt (by omega) hlt hL hn2 hT htL (fun e => htΦ ((hΦ _).2 (.inl e.symm))) (fun x hx => ⟨fun e => hLs x hx ((hΦ x).2 (.inl e)), fun hb => hLs x hx ((hΦ x).2 (.inr ⟨1, by decide, .inl hb⟩)), fun q hq hf => hLs x hx ((hΦ x).2 (.inr ⟨1, by decide, .inr ⟨q, hq, hf⟩⟩))⟩)).mono ?_
  rintro e w' ⟨rfl, hq⟩
  exact ⟨rfl, BX.putE book3_ok hB hΦ (i := 1) (by decide) hlt hLs (by rw [hp]; exact hq) hL.lt⟩
 ·refine (WriteTexts_full w g (R 1).A L (R 1).c n _ cL ((cell_of_block hB.blk).trans hb.2.1) (by omega)).mono ?_
  rintro e w' ⟨rfl, rfl⟩
  exact ⟨rfl, hh.putNone L⟩
theorem KeepFiles_full (w : World) (g : Nat) (A L : Option Addr) (c n m cL : Nat) (hc : w.cell? ⟨g, 24, none⟩ = some (.slice A m c)) (hm : m = 96) :
  Calls Tryz.prog 218 #[.pointer (some ⟨g, 6, none⟩), .slice L n cL] w fun e w' => e = .returned (.tuple #[]) ∧ w = w' := by
 subst hm
 go_enter Tryz.func218, Tryz.ntmps218
 go_wp2_with fail
 go_end0
 exact ⟨rfl, rfl⟩
theorem KeepFiles3 (w : World) (g : Nat) (pc : List Value) (Φ : Nat → Prop) (ph : Nat → Nat) (hp : ph 2 = 0) (L : Option Addr) (n cL : Nat) (h : BX book3 ph w g pc Φ) (xs : List Value) (hL : Own w kFiles.e kFiles.sz L cL n xs) (hwf : ∀ i, i < n → kFiles.wf (elt xs kFiles.sz i)) (hn2 : n ≤ 1099511627776) (hLs : ∀ x, Bk L x → ¬ Φ x) :
  Calls Tryz.prog 218 #[.pointer (some ⟨g, 6, none⟩), .slice L n cL] w fun e w' => e = .returned (.tuple #[]) ∧ PutBX book3 ph w g pc Φ L w' := by
 have hh := h
 obtain ⟨cur, next, R, hB, hΦ⟩ := h
 have hb := hB.book 2 (by decide)
 rw [hp] at hb
 have hfew := hB.few 2 (by decide)
 have hle := hB.le
 have htot := total_le (n := book3.n) (R := R) fun i hi => hB.few i hi
 have h3 : book3.n = 3 := rfl
 rw [h3] at htot hle
 by_cases hlt : (R 2).ps.length < 96
 ·refine (KeepFiles_calls w g next cur (R 2).A L (R 2).c n cL (R 2).ps xs hb hB.nxt (by omega) hlt hL hwf hn2 (fun x hx => ⟨fun e => hLs x hx ((hΦ x).2 (.inl e)), fun hb => hLs x hx ((hΦ x).2 (.inr ⟨2, by decide, .inl hb⟩)), fun q hq hf => hLs x hx ((hΦ x).2 (.inr ⟨2, by decide, .inr ⟨q, hq, hf⟩⟩))⟩)).mono ?_
  rintro e w' ⟨rfl, hq⟩
  exact ⟨rfl, BX.putE book3_ok hB hΦ (i := 2) (by decide) hlt hLs (by rw [hp]; exact hq) hL.lt⟩
 ·refine (KeepFiles_full w g (R 2).A L (R 2).c n _ cL ((cell_of_block hB.blk).trans hb.2.1) (by omega)).mono ?_
  rintro e w' ⟨rfl, rfl⟩
  exact ⟨rfl, hh.putNone L⟩
theorem WriteFiles_full (w : World) (g : Nat) (A L : Option Addr) (c n m cL : Nat) (hc : w.cell? ⟨g, 24, none⟩ = some (.slice A m c)) (hm : m = 96) :
  Calls Tryz.prog 217 #[.pointer (some ⟨g, 6, none⟩), .slice L n cL] w fun e w' => e = .returned (.tuple #[]) ∧ w = w' := by
 subst hm
 go_enter Tryz.func217, Tryz.ntmps217
 go_wp2_with fail
 go_end0
 exact ⟨rfl, rfl⟩
theorem WriteFiles3 (w : World) (g : Nat) (pc : List Value) (Φ : Nat → Prop) (ph : Nat → Nat) (hp : ph 2 = 0) (L : Option Addr) (n cL : Nat) (h : BX book3 ph w g pc Φ) (xs : List Value) (hL : Own w kFiles.e kFiles.sz L cL n xs) (hn2 : n ≤ 1099511627776) (hT : Tab w) (htL : ¬ Bk L 0) (htΦ : ¬ Φ 0) (hLs : ∀ x, Bk L x → ¬ Φ x) :
  Calls Tryz.prog 217 #[.pointer (some ⟨g, 6, none⟩), .slice L n cL] w fun e w' => e = .returned (.tuple #[]) ∧ PutBX book3 ph w g pc Φ L w' := by
 have hh := h
 obtain ⟨cur, next, R, hB, hΦ⟩ := h
 have hb := hB.book 2 (by decide)
 rw [hp] at hb
 have hfew := hB.few 2 (by decide)
 have hle := hB.le
 have htot := total_le (n := book3.n) (R := R) fun i hi => hB.few i hi
 have h3 : book3.n = 3 := rfl
 rw [h3] at htot hle
 by_cases hlt : (R 2).ps.length < 96
 ·refine (WriteFiles_calls w g next cur (R 2).A L (R 2).c n cL (R 2).ps xs hb hB.nxt (by omega) hlt hL hn2 hT htL (fun e => htΦ ((hΦ _).2 (.inl e.symm))) (fun x hx => ⟨fun e => hLs x hx ((hΦ x).2 (.inl e)), fun hb => hLs x hx ((hΦ x).2 (.inr ⟨2, by decide, .inl hb⟩)), fun q hq hf => hLs x hx ((hΦ x).2 (.inr ⟨2, by decide, .inr ⟨q, hq, hf⟩⟩))⟩)).mono ?_
  rintro e w' ⟨rfl, hq⟩
  exact ⟨rfl, BX.putE book3_ok hB hΦ (i := 2) (by decide) hlt hLs (by rw [hp]; exact hq) hL.lt⟩
 ·refine (WriteFiles_full w g (R 2).A L (R 2).c n _ cL ((cell_of_block hB.blk).trans hb.2.1) (by omega)).mono ?_
  rintro e w' ⟨rfl, rfl⟩
  exact ⟨rfl, hh.putNone L⟩
end Go.Proofs.YtekcoeonlfmebaaGreatDoor.Kit
