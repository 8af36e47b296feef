/- 1 texts in one: daybookkeep: pages of Texts. -/
import Derived.Test.YtekcoeonlfmebaaGreatDoorM2
import Derived.Test.YtekcoeonlfmebaaGreatDoorM3
namespace Go.Proofs.YtekcoeonlfmebaaGreatDoor.Kit
open Go Go.RowKit
def cellsTexts (nm : List UInt8) : List Value := [.string (bstr nm)]
def kTexts : EK := ⟨9, 123, 1, fun a => ∃ nm, a = cellsTexts nm, fun id k => cellsTexts (textL id k)⟩
theorem kTexts_ok : kTexts.Ok := ⟨by decide, by rintro a ⟨nm, rfl⟩; rfl, fun id k => ⟨_, rfl⟩, by
 rintro a ⟨nm, rfl⟩ u hu
 simp only [cellsTexts, List.mem_cons, List.not_mem_nil, or_false] at hu
 subst hu; rfl⟩
theorem Tryz.info_T : (Tryz.prog.info? 9).map (fun i => (i.zero, i.size, i.bytes)) = some (some (.string ⟨#[]⟩), 1, 16) := by kernel_rfl
theorem markTexts_calls (w : World) (id k : Nat) (i j : Int) (hi : i = id) (hj : j = k) (h1 : id ≤ 1000000) (h2 : k ≤ 1099511627776) (hT : Tab w) :
  Calls Tryz.prog 223 #[.int .i64 i, .int .i64 j] w fun e w' => e = .returned (.string (bstr (textL id k))) ∧ New w w' := by
 subst hi hj
 have HT := Lib.hid hT
 clear hT
 go_enter Tryz.func223, Tryz.ntmps223
 go_wp2_with fail
 refine (text_calls w id k _ _ rfl rfl (by omega) (by omega) HT.out).mono ?_
 rintro e w1 ⟨rfl, n1⟩
 have H1 := Lib.hid n1
 clear n1
 go_wp2_with fail
 go_ret
 exact ⟨rfl, H1.out⟩
theorem sameTexts_calls (w : World) (nm : List UInt8) :
  Calls Tryz.prog 222 #[.string (bstr nm), .string (bstr nm)] w fun e w' => e = .returned (.bool true) ∧ New w w' := by
 go_enter Tryz.func222, Tryz.ntmps222
 go_wp2_with fail
 go_ret
 exact ⟨rfl, Kp.refl _ _⟩
def FillTextsPost (w : World) (h o : Nat) (cur : Array Value) (A : Option Addr) (c n id : Nat) (e : Ending) (w' : World) : Prop :=
 e = .returned (.tuple #[]) ∧ Own w' kTexts.e kTexts.sz A c n (kTexts.marks id n) ∧ Kp (fun j => j = h ∨ Bk A j) w w' ∧ w'.heap[h]? = some (.cells (cur.setIfInBounds (o + 4) (.bool true)) 123 (0, 0))
set_option maxHeartbeats 2000000 in
theorem fillTexts_calls (w : World) (h o : Nat) (cur : Array Value) (A : Option Addr) (c n id : Nat) (b : Bool) (xs : List Value) (hh : w.heap[h]? = some (.cells cur 123 (0, 0)))
  (h0 : cur[o]? = some (.slice A n c)) (h3 : cur[o + 3]? = some (.int .i64 (id : Int))) (h4 : cur[o + 4]? = some (.bool b)) (hA : Own w kTexts.e kTexts.sz A c n xs) (hne : ¬ Bk A h) (hid : id ≤ 1000000) (hn : n ≤ 1099511627776) (hT : Tab w) (htA : ¬ Bk A 0) :
  Calls Tryz.prog 159 #[.pointer (some ⟨h, o, none⟩)] w (FillTextsPost w h o cur A c n id) := by
 have H := Lib.hid (And.intro hh (And.intro h0 (And.intro h3 (And.intro h4 (And.intro hA hne)))))
 have HT := Lib.hid (And.intro hT htA)
 clear hh h0 h3 h4 hA hne hT htA
 go_enter Tryz.func159, Tryz.ntmps159
 go_wp2
 go_loopw [2] (fun i wr => ∃ k : Nat, k ≤ n ∧ i = .int .i64 (k : Int) ∧ Hid (Own wr kTexts.e kTexts.sz A c n (kTexts.marks id k ++ xs.drop (k * kTexts.sz)) ∧ Kp (Bk A) w wr)) (fun i _ => n - (intOf i).toNat)
 case atStart => exact ⟨0, Nat.zero_le _, rfl, Lib.hid ⟨by simpa [EK.marks] using H.out.2.2.2.2.1, Kp.refl _ _⟩⟩
 case round =>
  obtain ⟨k, hk, rfl, HI⟩ := hrel
  have hrh : wr.heap[h]? = some (.cells cur 123 (0, 0)) := (HI.out.2.block h (Array.getElem?_eq_some_iff.1 H.out.1).1 H.out.2.2.2.2.2).trans H.out.1
  have f0 : wr.cell? ⟨h, o, none⟩ = some (.slice A n c) := (cell_of_block hrh).trans H.out.2.1
  have f3 : wr.cell? ⟨h, o + 3, none⟩ = some (.int .i64 (id : Int)) := (cell_of_block hrh).trans H.out.2.2.1
  by_cases hlt : k < n
  ·obtain ⟨g, rfl⟩ := HI.out.1.some_ (by omega)
   have hlen := HI.out.1.1
   have hkz : k * kTexts.sz + kTexts.sz ≤ n * kTexts.sz := by rw [← Nat.succ_mul]; exact Nat.mul_le_mul_right _ hlt
   have hkz' : k * 1 + 1 ≤ n * 1 := hkz
   have hlen' : (kTexts.marks id k ++ xs.drop (k * kTexts.sz)).length = n * 1 := hlen
   obtain ⟨u0, hu0⟩ : ∃ u, (kTexts.marks id k ++ xs.drop (k * kTexts.sz))[k]? = some u := ⟨_, List.getElem?_eq_getElem (by omega)⟩
   have fg0 : wr.cell? ⟨g, k, none⟩ = some u0 := HI.out.1.cell hu0
   have fz0 : wr.frozen? ⟨g, k, none⟩ = false := HI.out.1.frozen _
   clear hu0
   have hki : (k : Int) < n := by omega
   have hk0 : (0 : Int) ≤ k := by omega
   have HR := Lib.hid hrh
   have hTr := HT.out.1.kp HI.out.2 HT.out.2
   have HTR := Lib.hid hTr
   clear hrh hlen hkz hlen' hTr
   have hmo : Tryz.prog.follows Departure.mixedOrders = true := by kernel_rfl
   go_wp2
   refine wp_region_line (fun w' => w'.cell? ⟨h, o, none⟩ = some (.slice (some ⟨g, 0, none⟩) n c) ∧ w'.cell? ⟨h, o + 3, none⟩ = some (.int .i64 (id : Int))) (pl := [(0, true), (1, true), (2, true), (3, true), (4, true), (5, true), (6, true), (7, true), (8, true), (9, true), (10, false), (11, true), (12, false)]) hmo (by kernel_rfl) ⟨by simpa using f0, by simpa using f3⟩ ?_
   iterate 10 (refine line_get rfl rfl (fun K hK => ?_); apply Exists.intro; refine ⟨fun w s => ?_, ?_⟩; (first | (have q := s rfl; go_simp; with_reducible rfl) | (go_simp; with_reducible rfl)); (go_simp; refine hK _ ?_; clear hK K))
   (refine line_do rfl rfl (fun K hK => ?_); go_simp)
   refine (markTexts_calls _ id k _ _ rfl rfl hid (by omega) (HTR.out.new (Kp.drew _ _))).mono ?_
   rintro e w3 ⟨rfl, n3⟩
   have n3' : New wr w3 := Kp.trans (Kp.drew _ _) n3 fid fid
   refine hK _ _ (fun _ => ⟨n3'.cell f0, n3'.cell f3⟩) ?_
   clear hK K
   have fg0 := n3'.cell fg0
   have fz0 : w3.frozen? ⟨g, k, none⟩ = false := (HI.out.1.new n3').frozen _
   have HN := Lib.hid n3'
   clear n3 n3' f0 f3
   (refine line_get rfl rfl (fun K hK => ?_); apply Exists.intro; refine ⟨fun w s => ?_, ?_⟩; (first | (have q := s rfl; go_simp; with_reducible rfl) | (go_simp; with_reducible rfl)); (go_simp; refine hK _ ?_; clear hK K))
   (refine line_do rfl rfl (fun K hK => ?_); go_simp)
   refine hK _ _ (no_need (by kernel_rfl)) ?_
   clear hK K
   refine line_nil ?_
   go_wp2
   have hf := fill_step kTexts_ok (o := k) HI.out.1 HN.out hlt H.out.2.2.2.2.1.1 (Nat.mul_one k).symm
   exact ⟨⟨k + 1, by omega, by go_num, Lib.hid ⟨hf.1, HI.out.2.trans hf.2 fid fid⟩⟩, by simp [intOf]; omega⟩
  ·obtain rfl : k = n := by omega
   have f4 : wr.cell? ⟨h, o + 4, none⟩ = some (.bool b) := (cell_of_block hrh).trans H.out.2.2.2.1
   have fz : wr.frozen? ⟨h, o + 4, none⟩ = false := by simp [World.frozen?, hrh]
   have HR := Lib.hid hrh
   clear hrh
   go_wp2
   go_end0
   refine ⟨rfl, ?_, HI.out.2.trans (Kp.setCell _ _ _ (.inl rfl)) (fun _ _ h => .inr h) fid, heap_setCell_row HR.out _⟩
   have := HI.out.1.keep (w' := wr.setCell ⟨h, o + 4, none⟩ (.bool true)) (fun j hj => Below.heap_setCell _ _ _ _ (fun e => H.out.2.2.2.2.2 (by have e' : j = h := e; rw [← e']; exact hj)))
   rwa [List.drop_of_length_le (by have := H.out.2.2.2.2.1.1; omega), List.append_nil] at this
def GrowTextsPost (w : World) (h o : Nat) (cur : Array Value) (A : Option Addr) (c n id : Nat) (xs : List Value) (e : Ending) (w' : World) : Prop :=
 e = .returned (.tuple #[]) ∧ ∃ G cG, Own w' kTexts.e kTexts.sz G cG (n + 64) (xs ++ kTexts.marks (id + 100000) 64) ∧ Own w' kTexts.e kTexts.sz A c n xs ∧ Kp (fun j => j = h ∨ Bk A j) w w' ∧ (∀ j, Bk G j → Bk A j ∨ w.heap.size ≤ j) ∧
  w'.heap[h]? = some (.cells (cur.setIfInBounds (o + 1) (.slice G (n + 64) cG)) 123 (0, 0))
set_option maxHeartbeats 2000000 in
theorem growTexts_calls (w : World) (h o : Nat) (cur : Array Value) (A : Option Addr) (c n id : Nat) (u : Value) (xs : List Value) (hh : w.heap[h]? = some (.cells cur 123 (0, 0)))
  (h0 : cur[o]? = some (.slice A n c)) (h1 : cur[o + 1]? = some u) (h3 : cur[o + 3]? = some (.int .i64 (id : Int))) (hA : Own w kTexts.e kTexts.sz A c n xs) (hne : ¬ Bk A h) (hid : id ≤ 800000) (hn : n ≤ 1099511627776) (hT : Tab w) (htA : ¬ Bk A 0) (hth : h ≠ 0) :
  Calls Tryz.prog 179 #[.pointer (some ⟨h, o, none⟩)] w (GrowTextsPost w h o cur A c n id xs) := by
 have H := Lib.hid (And.intro hh (And.intro h0 (And.intro h1 (And.intro h3 (And.intro hA hne)))))
 have HT := Lib.hid (And.intro hT (And.intro htA hth))
 have f0 : w.cell? ⟨h, o, none⟩ = some (.slice A n c) := (cell_of_block hh).trans h0
 have f1 : w.cell? ⟨h, o + 1, none⟩ = some u := (cell_of_block hh).trans h1
 have fz : w.frozen? ⟨h, o + 1, none⟩ = false := by simp [World.frozen?, hh]
 clear hh h0 h1 h3 hA hne hT htA hth
 go_enter Tryz.func179, Tryz.ntmps179
 go_wp2
 clear f0 f1 fz
 go_loopw [2] (fun i wr => ∃ k : Nat, k ≤ 64 ∧ i = .int .i64 (k : Int) ∧ Hid (∃ G cG, wr.heap[h]? = some (.cells (cur.setIfInBounds (o + 1) (.slice G (n + k) cG)) 123 (0, 0)) ∧
  Own wr kTexts.e kTexts.sz G cG (n + k) (xs ++ kTexts.marks (id + 100000) k) ∧ Own wr kTexts.e kTexts.sz A c n xs ∧ Kp (fun j => j = h ∨ Bk A j) w wr ∧ ((G = A ∧ cG = c) ∨ ∀ j, Bk G j → w.heap.size ≤ j))) (fun i _ => 64 - (intOf i).toNat)
 case atStart =>
  have hk : Own (w.setCell ⟨h, o + 1, none⟩ (.slice A n c)) kTexts.e kTexts.sz A c n xs := H.out.2.2.2.2.1.keep (fun j hj => Below.heap_setCell _ _ _ _ (fun e => H.out.2.2.2.2.2 (by have e' : j = h := e; rw [← e']; exact hj)))
  exact ⟨0, Nat.zero_le _, rfl, Lib.hid ⟨A, c, heap_setCell_row H.out.1 _, by simpa [EK.marks] using hk, hk, Kp.setCell _ _ _ (.inl rfl), .inl ⟨rfl, rfl⟩⟩⟩
 case round =>
  obtain ⟨k, hk, rfl, HI⟩ := hrel
  obtain ⟨G, cG, hrh, hG, hA, hkp, hbG⟩ := HI.out
  have hlt := (Array.getElem?_eq_some_iff.1 H.out.1).1
  have hsz : o + 1 < cur.size := (Array.getElem?_eq_some_iff.1 H.out.2.2.1).1
  have f1 : wr.cell? ⟨h, o + 1, none⟩ = some (.slice G (n + k) cG) := (cell_of_block hrh).trans (setIf_get _ hsz)
  have f3 : wr.cell? ⟨h, o + 3, none⟩ = some (.int .i64 (id : Int)) := (cell_of_block hrh).trans ((setIf_ne _ (by omega)).trans H.out.2.2.2.1)
  have hGh : ¬ Bk G h := fun hb => hbG.elim (fun e => H.out.2.2.2.2.2 (e.1 ▸ hb)) (fun h' => by have := h' h hb; omega)
  have hTr : Tab wr := HT.out.1.kp hkp (fun e => e.elim (fun e => HT.out.2.2 e.symm) HT.out.2.1)
  have HTR := Lib.hid hTr
  have HJ := Lib.hid (And.intro hrh (And.intro hG (And.intro hA (And.intro hkp (And.intro hbG hGh)))))
  clear hrh hG hA hkp hbG hGh HI hlt hsz hTr
  by_cases hlt : k < 64
  ·have hmo : Tryz.prog.follows Departure.mixedOrders = true := by kernel_rfl
   go_wp2
   refine wp_region_line (fun w' => w'.cell? ⟨h, o + 1, none⟩ = some (.slice G (n + k) cG) ∧ w'.cell? ⟨h, o + 3, none⟩ = some (.int .i64 (id : Int))) (pl := [(0, true), (1, true), (2, true), (3, true), (4, true), (5, true), (6, true), (7, true), (8, true), (10, true), (9, false), (11, false), (12, false), (13, false), (14, true), (15, true), (16, false)]) hmo (by kernel_rfl) ⟨by simpa using f1, by simpa using f3⟩ ?_
   iterate 10 (refine line_get rfl rfl (fun K hK => ?_); apply Exists.intro; refine ⟨fun w s => ?_, ?_⟩; (first | (have q := s rfl; go_simp; with_reducible rfl) | (go_simp; with_reducible rfl)); (go_simp; refine hK _ ?_; clear hK K))
   (refine line_do rfl rfl (fun K hK => ?_); go_simp)
   refine (behind_calls _ id _ rfl (by omega)).mono ?_
   rintro e w' ⟨rfl, rfl⟩
   refine hK _ _ (fun _ => ⟨by simpa using f1, by simpa using f3⟩) ?_
   clear hK K
   (refine line_do rfl rfl (fun K hK => ?_); go_simp)
   refine (markTexts_calls _ (id + 100000) k _ _ rfl rfl (by omega) (by omega) (HTR.out.new (Kp.drew _ _))).mono ?_
   rintro e w3 ⟨rfl, n3⟩
   have n3' : New wr w3 := Kp.trans (Kp.drew _ _) n3 fid fid
   refine hK _ _ (fun _ => ⟨n3'.cell f1, n3'.cell f3⟩) ?_
   clear hK K
   (refine line_do rfl rfl (fun K hK => ?_); go_simp)
   have hn1 : New wr (w3.alloc (.cells #[.string (bstr (textL (id + 100000) k))] 9)) := n3'.trans (Kp.alloc _ _ _) fid fid
   refine hK _ _ (fun _ => ⟨New.cell hn1 f1, New.cell hn1 f3⟩) ?_
   clear hK K
   refine line_do rfl rfl (fun K hK => ?_)
   refine wp_append_end _ (.tmp 18) (.tmp 26) 77 77 rfl 9 _ 1 16 Tryz.underlying77 Tryz.info_T rfl G cG (n + k) _ rfl (HJ.out.2.1.new hn1) _ rfl 1 _ (Src.ofRow (w := w3.alloc (.cells #[.string (bstr (textL (id + 100000) k))] 9)) Tryz.underlying77 (heap_alloc_new w3 (.cells #[.string (bstr (textL (id + 100000) k))] 9)) 1 1 1 rfl (by simp [Value.oneCell'])) (by omega) (by omega) ?_
   intro G2 cG2 w2 hG2 hend
   have hk2 : Kp (Bk G) wr w2 := hn1.trans hend.kp (fun _ _ h => h.elim) fid
   have hhl := (Array.getElem?_eq_some_iff.1 HJ.out.1).1
   have h2h : w2.heap[h]? = some (.cells (cur.setIfInBounds (o + 1) (.slice G (n + k) cG)) 123 (0, 0)) := (hk2.block h hhl HJ.out.2.2.2.2.2).trans HJ.out.1
   have hsz : o + 1 < cur.size := (Array.getElem?_eq_some_iff.1 H.out.2.2.1).1
   have g1 : w2.cell? ⟨h, o + 1, none⟩ = some (.slice G (n + k) cG) := (cell_of_block h2h).trans (setIf_get _ hsz)
   have g3 : w2.cell? ⟨h, o + 3, none⟩ = some (.int .i64 (id : Int)) := (cell_of_block h2h).trans ((setIf_ne _ (by omega)).trans H.out.2.2.2.1)
   have hz3 := n3'.size
   have h2G : ¬ Bk G2 h := fun hb => (hend.bk h hb).elim HJ.out.2.2.2.2.2 (fun e => by simp at e; omega)
   have gz : w2.frozen? ⟨h, o + 1, none⟩ = false := by simp [World.frozen?, h2h]
   refine hK _ _ (fun _ => ⟨g1, g3⟩) ?_
   clear hK K
   iterate 2 (refine line_get rfl rfl (fun K hK => ?_); apply Exists.intro; refine ⟨fun w s => ?_, ?_⟩; (first | (have q := s rfl; go_simp; with_reducible rfl) | (go_simp; with_reducible rfl)); (go_simp; refine hK _ ?_; clear hK K))
   (refine line_do rfl rfl (fun K hK => ?_); go_simp)
   refine hK _ _ (no_need (by kernel_rfl)) ?_
   clear hK K
   refine line_nil ?_
   go_wp2
   refine ⟨⟨k + 1, by omega, by go_num, Lib.hid ⟨G2, cG2, ?_, ?_, ?_, ?_, ?_⟩⟩, by simp [intOf]; omega⟩
   ·rw [heap_setCell_row h2h, setIf_twice]
    rfl
   ·rw [EK.marks_snoc, ← List.append_assoc]
    exact hG2.keep (fun j hj => Below.heap_setCell _ _ _ _ (fun e => h2G (by have e' : j = h := e; rw [← e']; exact hj)))
   ·refine (?_ : Own w2 kTexts.e kTexts.sz A c n xs).keep (fun j hj => Below.heap_setCell _ _ _ _ (fun e => H.out.2.2.2.2.2 (by have e' : j = h := e; rw [← e']; exact hj)))
    rcases HJ.out.2.2.2.2.1 with ⟨rfl, rfl⟩ | hnew
    ·exact (hend.old (HJ.out.2.1.new hn1) hG2).pre H.out.2.2.2.2.1.1
    ·exact HJ.out.2.2.1.kp hk2 (fun j hj hb => by have := hnew j hb; have := H.out.2.2.2.2.1.lt j hj; omega)
   ·refine (HJ.out.2.2.2.1.trans hk2 fid (fun j hj hb => ?_)).trans (Kp.setCell _ _ _ (.inl rfl)) fid fid
    rcases HJ.out.2.2.2.2.1 with ⟨rfl, _⟩ | hnew
    ·exact .inr hb
    ·have := hnew j hb
     omega
   ·have hws := HJ.out.2.2.2.1.size
    rcases hend with ⟨rfl, rfl, _⟩ | ⟨rfl, _⟩
    ·exact HJ.out.2.2.2.2.1
    ·exact .inr (fun j hj => by have := Bk.some_.1 hj; simp at this; omega)
  ·obtain rfl : k = 64 := by omega
   go_wp2
   go_end0
   exact ⟨rfl, G, cG, HJ.out.2.1, HJ.out.2.2.1, HJ.out.2.2.2.1, fun j hj => HJ.out.2.2.2.2.1.elim (fun e => .inl (e.1 ▸ hj)) (fun h' => .inr (h' j hj)), HJ.out.1⟩
set_option maxRecDepth 10000 in
set_option maxHeartbeats 4000000 in
theorem showsTexts_kept (w : World) (A U : Option Addr) (n c uc id : Nat) (xs : List Value) (hA : RdC w A xs) (hU : RdC w U xs) (hx : xs.length = n * kTexts.sz) (hwf : ∀ i, i < n → kTexts.wf (elt xs kTexts.sz i)) (hb : n ≤ 1099511627776) :
  Calls Tryz.prog 128 #[.agg #[.slice A n c, .slice none 0 0, .slice U n uc, .int .i64 (id : Int), .bool false]] w fun e w' => e = .returned (.bool true) ∧ New w w' := by
 have H := Lib.hid (And.intro hA (And.intro hU (And.intro hx hwf)))
 clear hA hU hx hwf
 go_enter Tryz.func128, Tryz.ntmps128
 go_wp2
 obtain ⟨W0, hW0⟩ : ∃ W0, w.alloc (.cells #[.slice A n c, .slice none 0 0, .slice U n uc, .int .i64 (id : Int), .bool false] 123) = W0 := ⟨_, rfl⟩
 rw [hW0]
 have hg : W0.heap[w.heap.size]? = some (.cells #[.slice A n c, .slice none 0 0, .slice U n uc, .int .i64 (id : Int), .bool false] 123 (0, 0)) := hW0 ▸ heap_alloc_new w _
 have hn0 : New w W0 := hW0 ▸ Kp.alloc _ _ _
 have HN := Lib.hid (And.intro hn0 hg)
 clear hg hn0 hW0
 have hmo : Tryz.prog.follows Departure.mixedOrders = true := by kernel_rfl
 have f0 : W0.cell? ⟨w.heap.size, 0, none⟩ = some (.slice A n c) := (cell_of_block HN.out.2).trans rfl
 go_loopw [4] (fun i wr => ∃ k : Nat, k ≤ n ∧ i = .int .i64 (k : Int) ∧ Hid (New W0 wr)) (fun i _ => n - (intOf i).toNat)
 case atStart => exact ⟨0, Nat.zero_le _, rfl, Lib.hid (Kp.refl _ _)⟩
 case round =>
  clear f0
  obtain ⟨k, hk, rfl, HI⟩ := hrel
  have hgr := (HI.out.block _ (Array.getElem?_eq_some_iff.1 HN.out.2).1 (fun h => h)).trans HN.out.2
  have nr : New w wr := HN.out.1.trans HI.out fid fid
  have HG := Lib.hid (And.intro hgr nr)
  clear hgr nr
  by_cases hlt : k < n
  ·obtain ⟨b1, o1, rfl, hc1⟩ := (H.out.1.new HG.out.2).elt_at H.out.2.2.1 hlt (by decide)
   obtain ⟨b2, o2, rfl, hc2⟩ := (H.out.2.1.new HG.out.2).elt_at H.out.2.2.1 hlt (by decide)
   obtain ⟨nm, hv⟩ := H.out.2.2.2 k hlt
   rw [hv] at hc1 hc2
   have e0 : wr.cell? ⟨b1, o1 + k, none⟩ = some (.string (bstr nm)) := by have := hc1 0 _ rfl; rw [show k * kTexts.sz = k from Nat.mul_one k] at this; exact this
   have d0 : wr.cell? ⟨b2, o2 + k, none⟩ = some (.string (bstr nm)) := by have := hc2 0 _ rfl; rw [show k * kTexts.sz = k from Nat.mul_one k] at this; exact this
   have f0 : wr.cell? ⟨w.heap.size, 0, none⟩ = some (.slice (some ⟨b1, o1, none⟩) n c) := (cell_of_block HG.out.1).trans rfl
   have f1 : wr.cell? ⟨w.heap.size, 1, none⟩ = some (.slice none 0 0) := (cell_of_block HG.out.1).trans rfl
   have f2 : wr.cell? ⟨w.heap.size, 2, none⟩ = some (.slice (some ⟨b2, o2, none⟩) n uc) := (cell_of_block HG.out.1).trans rfl
   have f4 : wr.cell? ⟨w.heap.size, 4, none⟩ = some (.bool false) := (cell_of_block HG.out.1).trans rfl
   clear hc1 hc2 hv
   have hki : (k : Int) < (n : Int) := by omega
   have hk0 : (0 : Int) ≤ k := by omega
   go_wp2
   refine wp_region_line (fun w' => w'.cell? ⟨w.heap.size, 0, none⟩ = some (.slice (some ⟨b1, o1, none⟩) n c) ∧ w'.cell? ⟨w.heap.size, 2, none⟩ = some (.slice (some ⟨b2, o2, none⟩) n uc) ∧ w'.cell? ⟨w.heap.size, 4, none⟩ = some (.bool false) ∧ w'.cell? ⟨b1, o1 + k, none⟩ = some (.string (bstr nm)) ∧ w'.cell? ⟨b2, o2 + k, none⟩ = some (.string (bstr nm))) (pl := [(0, true), (1, true), (2, true), (3, true), (4, true), (5, true), (6, true), (7, true), (8, true), (9, true), (10, true), (11, true), (12, true), (13, true), (14, false), (15, true), (16, true)]) hmo (by kernel_rfl) ⟨by simpa using f0, by simpa using f2, by simpa using f4, by simpa using e0, by simpa using d0⟩ ?_
   iterate 14 (refine line_get rfl rfl (fun K hK => ?_); apply Exists.intro; refine ⟨fun w s => ?_, ?_⟩; (first | (have q := s rfl; go_simp; with_reducible rfl) | (go_simp; with_reducible rfl)); (go_simp; refine hK _ ?_; clear hK K))
   (refine line_do rfl rfl (fun K hK => ?_); go_simp)
   refine (sameTexts_calls _ nm).mono ?_
   rintro e w3 ⟨rfl, n3⟩
   have NN : New wr w3 := Kp.trans (Kp.drew _ _) n3 fid fid
   refine hK _ _ (fun _ => ⟨NN.cell f0, NN.cell f2, NN.cell f4, NN.cell e0, NN.cell d0⟩) ?_
   clear hK K
   have f0 : w3.cell? ⟨w.heap.size, 0, none⟩ = some (.slice (some ⟨b1, o1, none⟩) n c) := NN.cell f0
   have f2 : w3.cell? ⟨w.heap.size, 2, none⟩ = some (.slice (some ⟨b2, o2, none⟩) n uc) := NN.cell f2
   have f4 : w3.cell? ⟨w.heap.size, 4, none⟩ = some (.bool false) := NN.cell f4
   have e0 : w3.cell? ⟨b1, o1 + k, none⟩ = some (.string (bstr nm)) := NN.cell e0
   have d0 : w3.cell? ⟨b2, o2 + k, none⟩ = some (.string (bstr nm)) := NN.cell d0
   have N_w3 := Lib.hid NN
   clear NN n3
   iterate 2 (refine line_get rfl rfl (fun K hK => ?_); apply Exists.intro; refine ⟨fun w s => ?_, ?_⟩; (first | (have q := s rfl; go_simp; with_reducible rfl) | (go_simp; with_reducible rfl)); (go_simp; refine hK _ ?_; clear hK K))
   refine line_nil ?_
   have f1 := N_w3.out.cell f1
   clear e0 d0
   go_wp2
   refine wp_region_line (fun w' => w'.cell? ⟨w.heap.size, 4, none⟩ = some (.bool false)) (pl := [(0, true), (1, true), (2, true), (3, true), (4, true), (5, true), (6, true), (7, true), (8, true), (9, true), (10, true), (11, false), (12, false), (13, true), (14, true), (15, true), (16, true), (17, true), (18, true), (19, true), (20, true), (21, true), (22, true), (23, true), (24, true), (25, true), (26, true), (27, true), (28, false), (29, false), (30, true), (31, true), (32, true), (33, true)]) hmo (by kernel_rfl) (by simpa using f4) ?_
   iterate 3 (refine line_get rfl rfl (fun K hK => ?_); apply Exists.intro; refine ⟨fun w s => ?_, ?_⟩; (first | (have q := s rfl; go_simp; with_reducible rfl) | (go_simp; with_reducible rfl)); (go_simp; refine hK _ ?_; clear hK K))
   iterate 8 (refine line_past rfl rfl (fun K hK => ?_); go_simp; refine hK _ ?_; clear hK K)
   iterate 2 (refine line_miss rfl rfl (fun _ => by simpa using f4) ?_; go_simp)
   iterate 15 (refine line_past rfl rfl (fun K hK => ?_); go_simp; refine hK _ ?_; clear hK K)
   iterate 2 (refine line_miss rfl rfl (fun _ => by simpa using f4) ?_; go_simp)
   iterate 3 (refine line_past rfl rfl (fun K hK => ?_); go_simp; refine hK _ ?_; clear hK K)
   (refine line_get rfl rfl (fun K hK => ?_); apply Exists.intro; refine ⟨fun w s => ?_, ?_⟩; (first | (have q := s rfl; go_simp; with_reducible rfl) | (go_simp; with_reducible rfl)); (go_simp; refine hK _ ?_; clear hK K))
   refine line_nil ?_
   go_wp2
   exact ⟨⟨k + 1, by omega, by go_num, Lib.hid ((HI.out.trans N_w3.out fid fid).trans (Kp.drew _ _) fid fid)⟩, by simp [intOf]; omega⟩
  ·obtain rfl : k = n := by omega
   have f1 : wr.cell? ⟨w.heap.size, 1, none⟩ = some (.slice none 0 0) := (cell_of_block HG.out.1).trans rfl
   go_wp2
   obtain ⟨wo, rfl⟩ : ∃ wo : World, wo = wr := ⟨_, rfl⟩
   go_loopw [5] (fun i wr => i = .int .i64 (k : Int) ∧ wr = wo) (fun i _ => 0)
   case atStart => exact ⟨rfl, rfl⟩
   case round =>
    obtain ⟨rfl, rfl⟩ := hrel
    go_wp2
    go_ret
    exact ⟨rfl, HG.out.2⟩
set_option maxRecDepth 10000 in
set_option maxHeartbeats 8000000 in
theorem showsTexts_done (w : World) (A G : Option Addr) (u : Value) (n c gc id : Nat) (hA : RdC w A (kTexts.marks id n)) (hG : RdC w G (kTexts.marks id n ++ kTexts.marks (id + 100000) 64)) (hid : id ≤ 800000) (hb : n ≤ 1099511627776) (hT : Tab w) :
  Calls Tryz.prog 128 #[.agg #[.slice A n c, .slice G (n + 64) gc, u, .int .i64 (id : Int), .bool true]] w fun e w' => e = .returned (.bool true) ∧ New w w' := by
 have hl1 := EK.marks_length kTexts_ok id n
 have hl2 : (kTexts.marks id n ++ kTexts.marks (id + 100000) 64).length = (n + 64) * kTexts.sz := by rw [List.length_append, hl1, EK.marks_length kTexts_ok, Nat.add_mul]
 have H := Lib.hid (And.intro hA (And.intro hG (And.intro hl1 (And.intro hl2 hT))))
 clear hA hG hl1 hl2 hT
 go_enter Tryz.func128, Tryz.ntmps128
 go_wp2
 obtain ⟨W0, hW0⟩ : ∃ W0, w.alloc (.cells #[.slice A n c, .slice G (n + 64) gc, u, .int .i64 (id : Int), .bool true] 123) = W0 := ⟨_, rfl⟩
 rw [hW0]
 have hg : W0.heap[w.heap.size]? = some (.cells #[.slice A n c, .slice G (n + 64) gc, u, .int .i64 (id : Int), .bool true] 123 (0, 0)) := hW0 ▸ heap_alloc_new w _
 have hn0 : New w W0 := hW0 ▸ Kp.alloc _ _ _
 have HN := Lib.hid (And.intro hn0 hg)
 clear hg hn0 hW0
 have hmo : Tryz.prog.follows Departure.mixedOrders = true := by kernel_rfl
 have f0 : W0.cell? ⟨w.heap.size, 0, none⟩ = some (.slice A n c) := (cell_of_block HN.out.2).trans rfl
 go_loopw [4] (fun i wr => ∃ k : Nat, k ≤ n ∧ i = .int .i64 (k : Int) ∧ Hid (New W0 wr)) (fun i _ => n - (intOf i).toNat)
 case atStart => exact ⟨0, Nat.zero_le _, rfl, Lib.hid (Kp.refl _ _)⟩
 case round =>
  clear f0
  obtain ⟨k, hk, rfl, HI⟩ := hrel
  have hgr := (HI.out.block _ (Array.getElem?_eq_some_iff.1 HN.out.2).1 (fun h => h)).trans HN.out.2
  have nr : New w wr := HN.out.1.trans HI.out fid fid
  have HG := Lib.hid (And.intro hgr (And.intro nr (H.out.2.2.2.2.new nr)))
  clear hgr nr
  by_cases hlt : k < n
  ·obtain ⟨b1, o1, rfl, hc1⟩ := (H.out.1.new HG.out.2.1).elt_at H.out.2.2.1 hlt (by decide)
   obtain ⟨b2, o2, rfl, hc2⟩ := (H.out.2.1.new HG.out.2.1).elt_at H.out.2.2.2.1 (show k < n + 64 by omega) (by decide)
   rw [elt_marks kTexts_ok id n k hlt] at hc1
   rw [elt_app_left H.out.2.2.1 hlt, elt_marks kTexts_ok id n k hlt] at hc2
   have e0 : wr.cell? ⟨b1, o1 + k, none⟩ = some (.string (bstr (textL id k))) := by have := hc1 0 _ rfl; rw [show k * kTexts.sz = k from Nat.mul_one k] at this; exact this
   have d0 : wr.cell? ⟨b2, o2 + k, none⟩ = some (.string (bstr (textL id k))) := by have := hc2 0 _ rfl; rw [show k * kTexts.sz = k from Nat.mul_one k] at this; exact this
   have f0 : wr.cell? ⟨w.heap.size, 0, none⟩ = some (.slice (some ⟨b1, o1, none⟩) n c) := (cell_of_block HG.out.1).trans rfl
   have f1 : wr.cell? ⟨w.heap.size, 1, none⟩ = some (.slice (some ⟨b2, o2, none⟩) (n + 64) gc) := (cell_of_block HG.out.1).trans rfl
   have f3 : wr.cell? ⟨w.heap.size, 3, none⟩ = some (.int .i64 (id : Int)) := (cell_of_block HG.out.1).trans rfl
   have f4 : wr.cell? ⟨w.heap.size, 4, none⟩ = some (.bool true) := (cell_of_block HG.out.1).trans rfl
   clear hc1 hc2
   have hki : (k : Int) < n := by omega
   have hki2 : (k : Int) < (n : Int) + 64 := by omega
   have hk0 : (0 : Int) ≤ k := by omega
   have hgp : (0 : Int) < (n : Int) + 64 := by omega
   go_wp2
   refine wp_region_line (fun w' => w'.cell? ⟨w.heap.size, 4, none⟩ = some (.bool true)) (pl := [(0, true), (1, true), (2, true), (3, true), (4, true), (5, true), (6, true), (7, true), (8, true), (9, true), (10, true), (11, true), (12, true), (13, true), (14, false), (15, true), (16, true)]) hmo (by kernel_rfl) (by simpa using f4) ?_
   iterate 4 (refine line_get rfl rfl (fun K hK => ?_); apply Exists.intro; refine ⟨fun w s => ?_, ?_⟩; (first | (have q := s rfl; go_simp; with_reducible rfl) | (go_simp; with_reducible rfl)); (go_simp; refine hK _ ?_; clear hK K))
   iterate 10 (refine line_past rfl rfl (fun K hK => ?_); go_simp; refine hK _ ?_; clear hK K)
   refine line_miss rfl rfl (fun _ => by simpa using f4) ?_
   go_simp
   (refine line_past rfl rfl (fun K hK => ?_); go_simp; refine hK _ ?_; clear hK K)
   (refine line_get rfl rfl (fun K hK => ?_); apply Exists.intro; refine ⟨fun w s => ?_, ?_⟩; (first | (have q := s rfl; go_simp; with_reducible rfl) | (go_simp; with_reducible rfl)); (go_simp; refine hK _ ?_; clear hK K))
   refine line_nil ?_
   obtain ⟨w2, hw2⟩ : ∃ W, wr.drew = W := ⟨_, rfl⟩
   rw [hw2]
   have NN : New wr w2 := hw2 ▸ Kp.drew _ _
   have f0 : w2.cell? ⟨w.heap.size, 0, none⟩ = some (.slice (some ⟨b1, o1, none⟩) n c) := NN.cell f0
   have f1 : w2.cell? ⟨w.heap.size, 1, none⟩ = some (.slice (some ⟨b2, o2, none⟩) (n + 64) gc) := NN.cell f1
   have f3 : w2.cell? ⟨w.heap.size, 3, none⟩ = some (.int .i64 (id : Int)) := NN.cell f3
   have f4 : w2.cell? ⟨w.heap.size, 4, none⟩ = some (.bool true) := NN.cell f4
   have e0 : w2.cell? ⟨b1, o1 + k, none⟩ = some (.string (bstr (textL id k))) := NN.cell e0
   have d0 : w2.cell? ⟨b2, o2 + k, none⟩ = some (.string (bstr (textL id k))) := NN.cell d0
   have N_w2 := Lib.hid NN
   clear NN hw2
   go_wp2
   refine wp_region_line (fun w' => w'.cell? ⟨w.heap.size, 0, none⟩ = some (.slice (some ⟨b1, o1, none⟩) n c) ∧ w'.cell? ⟨w.heap.size, 1, none⟩ = some (.slice (some ⟨b2, o2, none⟩) (n + 64) gc) ∧ w'.cell? ⟨w.heap.size, 3, none⟩ = some (.int .i64 (id : Int)) ∧ w'.cell? ⟨w.heap.size, 4, none⟩ = some (.bool true) ∧ w'.cell? ⟨b1, o1 + k, none⟩ = some (.string (bstr (textL id k))) ∧ w'.cell? ⟨b2, o2 + k, none⟩ = some (.string (bstr (textL id k)))) (pl := [(0, true), (1, true), (2, true), (3, true), (4, true), (5, true), (6, true), (7, true), (8, true), (9, true), (10, true), (11, false), (12, false), (13, true), (14, true), (15, true), (16, true), (17, true), (18, true), (19, true), (20, true), (21, true), (22, true), (23, true), (24, true), (25, true), (26, true), (27, true), (28, false), (29, false), (30, true), (31, true), (32, true), (33, true)]) hmo (by kernel_rfl) ⟨by simpa using f0, by simpa using f1, by simpa using f3, by simpa using f4, by simpa using e0, by simpa using d0⟩ ?_
   iterate 11 (refine line_get rfl rfl (fun K hK => ?_); apply Exists.intro; refine ⟨fun w s => ?_, ?_⟩; (first | (have q := s rfl; go_simp; with_reducible rfl) | (go_simp; with_reducible rfl)); (go_simp; refine hK _ ?_; clear hK K))
   (refine line_do rfl rfl (fun K hK => ?_); go_simp)
   refine (markTexts_calls _ id k _ _ rfl rfl (by omega) (by omega) ((HG.out.2.2.new N_w2.out).new (Kp.drew _ _))).mono ?_
   rintro e w3 ⟨rfl, n3⟩
   have NN : New w2 w3 := Kp.trans (Kp.drew _ _) n3 fid fid
   refine hK _ _ (fun _ => ⟨NN.cell f0, NN.cell f1, NN.cell f3, NN.cell f4, NN.cell e0, NN.cell d0⟩) ?_
   clear hK K
   have f0 : w3.cell? ⟨w.heap.size, 0, none⟩ = some (.slice (some ⟨b1, o1, none⟩) n c) := NN.cell f0
   have f1 : w3.cell? ⟨w.heap.size, 1, none⟩ = some (.slice (some ⟨b2, o2, none⟩) (n + 64) gc) := NN.cell f1
   have f3 : w3.cell? ⟨w.heap.size, 3, none⟩ = some (.int .i64 (id : Int)) := NN.cell f3
   have f4 : w3.cell? ⟨w.heap.size, 4, none⟩ = some (.bool true) := NN.cell f4
   have e0 : w3.cell? ⟨b1, o1 + k, none⟩ = some (.string (bstr (textL id k))) := NN.cell e0
   have d0 : w3.cell? ⟨b2, o2 + k, none⟩ = some (.string (bstr (textL id k))) := NN.cell d0
   have N_w3 := Lib.hid NN
   clear NN n3
   (refine line_do rfl rfl (fun K hK => ?_); go_simp)
   refine (sameTexts_calls _ (textL id k)).mono ?_
   rintro e w4 ⟨rfl, n4⟩
   have NN : New w3 w4 := n4
   refine hK _ _ (fun _ => ⟨NN.cell f0, NN.cell f1, NN.cell f3, NN.cell f4, NN.cell e0, NN.cell d0⟩) ?_
   clear hK K
   have f0 : w4.cell? ⟨w.heap.size, 0, none⟩ = some (.slice (some ⟨b1, o1, none⟩) n c) := NN.cell f0
   have f1 : w4.cell? ⟨w.heap.size, 1, none⟩ = some (.slice (some ⟨b2, o2, none⟩) (n + 64) gc) := NN.cell f1
   have f3 : w4.cell? ⟨w.heap.size, 3, none⟩ = some (.int .i64 (id : Int)) := NN.cell f3
   have f4 : w4.cell? ⟨w.heap.size, 4, none⟩ = some (.bool true) := NN.cell f4
   have e0 : w4.cell? ⟨b1, o1 + k, none⟩ = some (.string (bstr (textL id k))) := NN.cell e0
   have d0 : w4.cell? ⟨b2, o2 + k, none⟩ = some (.string (bstr (textL id k))) := NN.cell d0
   have N_w4 := Lib.hid NN
   clear NN n4
   iterate 15 (refine line_get rfl rfl (fun K hK => ?_); apply Exists.intro; refine ⟨fun w s => ?_, ?_⟩; (first | (have q := s rfl; go_simp; with_reducible rfl) | (go_simp; with_reducible rfl)); (go_simp; refine hK _ ?_; clear hK K))
   (refine line_do rfl rfl (fun K hK => ?_); go_simp)
   refine (markTexts_calls _ id k _ _ rfl rfl (by omega) (by omega) (((HG.out.2.2.new N_w2.out).new N_w3.out).new N_w4.out)).mono ?_
   rintro e w5 ⟨rfl, n5⟩
   have NN : New w4 w5 := n5
   refine hK _ _ (fun _ => ⟨NN.cell f0, NN.cell f1, NN.cell f3, NN.cell f4, NN.cell e0, NN.cell d0⟩) ?_
   clear hK K
   have f0 : w5.cell? ⟨w.heap.size, 0, none⟩ = some (.slice (some ⟨b1, o1, none⟩) n c) := NN.cell f0
   have f1 : w5.cell? ⟨w.heap.size, 1, none⟩ = some (.slice (some ⟨b2, o2, none⟩) (n + 64) gc) := NN.cell f1
   have f3 : w5.cell? ⟨w.heap.size, 3, none⟩ = some (.int .i64 (id : Int)) := NN.cell f3
   have f4 : w5.cell? ⟨w.heap.size, 4, none⟩ = some (.bool true) := NN.cell f4
   have e0 : w5.cell? ⟨b1, o1 + k, none⟩ = some (.string (bstr (textL id k))) := NN.cell e0
   have d0 : w5.cell? ⟨b2, o2 + k, none⟩ = some (.string (bstr (textL id k))) := NN.cell d0
   have N_w5 := Lib.hid NN
   clear NN n5
   (refine line_do rfl rfl (fun K hK => ?_); go_simp)
   refine (sameTexts_calls _ (textL id k)).mono ?_
   rintro e w6 ⟨rfl, n6⟩
   have NN : New w5 w6 := n6
   refine hK _ _ (fun _ => ⟨NN.cell f0, NN.cell f1, NN.cell f3, NN.cell f4, NN.cell e0, NN.cell d0⟩) ?_
   clear hK K
   have f0 : w6.cell? ⟨w.heap.size, 0, none⟩ = some (.slice (some ⟨b1, o1, none⟩) n c) := NN.cell f0
   have f1 : w6.cell? ⟨w.heap.size, 1, none⟩ = some (.slice (some ⟨b2, o2, none⟩) (n + 64) gc) := NN.cell f1
   have f3 : w6.cell? ⟨w.heap.size, 3, none⟩ = some (.int .i64 (id : Int)) := NN.cell f3
   have f4 : w6.cell? ⟨w.heap.size, 4, none⟩ = some (.bool true) := NN.cell f4
   have e0 : w6.cell? ⟨b1, o1 + k, none⟩ = some (.string (bstr (textL id k))) := NN.cell e0
   have d0 : w6.cell? ⟨b2, o2 + k, none⟩ = some (.string (bstr (textL id k))) := NN.cell d0
   have N_w6 := Lib.hid NN
   clear NN n6
   iterate 4 (refine line_get rfl rfl (fun K hK => ?_); apply Exists.intro; refine ⟨fun w s => ?_, ?_⟩; (first | (have q := s rfl; go_simp; with_reducible rfl) | (go_simp; with_reducible rfl)); (go_simp; refine hK _ ?_; clear hK K))
   refine line_nil ?_
   go_wp2
   exact ⟨⟨k + 1, by omega, by go_num, Lib.hid (((((HI.out.trans N_w2.out fid fid).trans N_w3.out fid fid).trans N_w4.out fid fid).trans N_w5.out fid fid).trans N_w6.out fid fid)⟩, by simp [intOf]; omega⟩
  ·obtain rfl : k = n := by omega
   have f1 : wr.cell? ⟨w.heap.size, 1, none⟩ = some (.slice G (k + 64) gc) := (cell_of_block HG.out.1).trans rfl
   go_wp2
   obtain ⟨wo, rfl⟩ : ∃ wo : World, wo = wr := ⟨_, rfl⟩
   obtain ⟨n, rfl⟩ : ∃ n : Nat, n = k := ⟨_, rfl⟩
   go_loopw [5] (fun i wr => ∃ j : Nat, j ≤ 64 ∧ i = .int .i64 ((n : Int) + j) ∧ Hid (New wo wr)) (fun i _ => n + 64 - (intOf i).toNat)
   case atStart => exact ⟨0, by omega, by simp, Lib.hid (Kp.refl _ _)⟩
   case round =>
    clear f1
    obtain ⟨j, hj, rfl, HJ⟩ := hrel
    have hgr := (HJ.out.block _ (Array.getElem?_eq_some_iff.1 HG.out.1).1 (fun h => h)).trans HG.out.1
    have nr : New w wr := HG.out.2.1.trans HJ.out fid fid
    have HR := Lib.hid (And.intro hgr (And.intro nr (H.out.2.2.2.2.new nr)))
    clear hgr nr
    by_cases hlt2 : j < 64
    ·obtain ⟨b2, o2, rfl, hc2⟩ := (H.out.2.1.new HR.out.2.1).elt_at H.out.2.2.2.1 (show n + j < n + 64 by omega) (by decide)
     rw [elt_app_right H.out.2.2.1, elt_marks kTexts_ok (id + 100000) 64 j hlt2] at hc2
     have d0 : wr.cell? ⟨b2, o2 + ((n : Int) + (j : Int)).toNat, none⟩ = some (.string (bstr (textL (id + 100000) j))) := by have := hc2 0 _ rfl; rw [show (n + j) * kTexts.sz = ((n : Int) + (j : Int)).toNat from (Nat.mul_one _).trans (by omega)] at this; exact this
     have f1 : wr.cell? ⟨w.heap.size, 1, none⟩ = some (.slice (some ⟨b2, o2, none⟩) (n + 64) gc) := (cell_of_block HR.out.1).trans rfl
     have f3 : wr.cell? ⟨w.heap.size, 3, none⟩ = some (.int .i64 (id : Int)) := (cell_of_block HR.out.1).trans rfl
     clear hc2
     have hj0 : (0 : Int) ≤ (n : Int) + j := by omega
     have hj1 : (n : Int) + j < (n : Int) + 64 := by omega
     go_wp2
     refine wp_region_line (fun w' => w'.cell? ⟨w.heap.size, 1, none⟩ = some (.slice (some ⟨b2, o2, none⟩) (n + 64) gc) ∧ w'.cell? ⟨w.heap.size, 3, none⟩ = some (.int .i64 (id : Int)) ∧ w'.cell? ⟨b2, o2 + ((n : Int) + (j : Int)).toNat, none⟩ = some (.string (bstr (textL (id + 100000) j)))) (pl := [(0, true), (1, true), (2, true), (3, true), (4, true), (5, true), (6, true), (8, true), (9, true), (10, true), (7, false), (11, false), (12, false), (13, true)]) hmo (by kernel_rfl) ⟨by simpa using f1, by simpa using f3, by simpa using d0⟩ ?_
     iterate 10 (refine line_get rfl rfl (fun K hK => ?_); apply Exists.intro; refine ⟨fun w s => ?_, ?_⟩; (first | (have q := s rfl; go_simp; with_reducible rfl) | (go_simp; with_reducible rfl)); (go_simp; refine hK _ ?_; clear hK K))
     (refine line_do rfl rfl (fun K hK => ?_); go_simp)
     refine (behind_calls _ id _ rfl (by omega)).mono ?_
     rintro e w' ⟨rfl, rfl⟩
     refine hK _ _ (fun _ => ⟨by simpa using f1, by simpa using f3, by simpa using d0⟩) ?_
     clear hK K
     (refine line_do rfl rfl (fun K hK => ?_); go_simp)
     refine (markTexts_calls _ (id + 100000) j _ _ rfl (by rw [IntKind.wrap_i64]; omega) (by omega) (by omega) (HR.out.2.2.new (Kp.drew _ _))).mono ?_
     rintro e w3 ⟨rfl, n3⟩
     have NN : New wr w3 := Kp.trans (Kp.drew _ _) n3 fid fid
     refine hK _ _ (fun _ => ⟨NN.cell f1, NN.cell f3, NN.cell d0⟩) ?_
     clear hK K
     have f1 : w3.cell? ⟨w.heap.size, 1, none⟩ = some (.slice (some ⟨b2, o2, none⟩) (n + 64) gc) := NN.cell f1
     have f3 : w3.cell? ⟨w.heap.size, 3, none⟩ = some (.int .i64 (id : Int)) := NN.cell f3
     have d0 : w3.cell? ⟨b2, o2 + ((n : Int) + (j : Int)).toNat, none⟩ = some (.string (bstr (textL (id + 100000) j))) := NN.cell d0
     have N_w3 := Lib.hid NN
     clear NN n3
     (refine line_do rfl rfl (fun K hK => ?_); go_simp)
     refine (sameTexts_calls _ (textL (id + 100000) j)).mono ?_
     rintro e w4 ⟨rfl, n4⟩
     have NN : New w3 w4 := n4
     refine hK _ _ (fun _ => ⟨NN.cell f1, NN.cell f3, NN.cell d0⟩) ?_
     clear hK K
     have f1 : w4.cell? ⟨w.heap.size, 1, none⟩ = some (.slice (some ⟨b2, o2, none⟩) (n + 64) gc) := NN.cell f1
     have f3 : w4.cell? ⟨w.heap.size, 3, none⟩ = some (.int .i64 (id : Int)) := NN.cell f3
     have d0 : w4.cell? ⟨b2, o2 + ((n : Int) + (j : Int)).toNat, none⟩ = some (.string (bstr (textL (id + 100000) j))) := NN.cell d0
     have N_w4 := Lib.hid NN
     clear NN n4
     (refine line_get rfl rfl (fun K hK => ?_); apply Exists.intro; refine ⟨fun w s => ?_, ?_⟩; (first | (have q := s rfl; go_simp; with_reducible rfl) | (go_simp; with_reducible rfl)); (go_simp; refine hK _ ?_; clear hK K))
     refine line_nil ?_
     go_wp2
     exact ⟨⟨j + 1, by omega, by go_num, Lib.hid ((HJ.out.trans N_w3.out fid fid).trans N_w4.out fid fid)⟩, by simp [intOf]; omega⟩
    ·obtain rfl : j = 64 := by omega
     have f1 : wr.cell? ⟨w.heap.size, 1, none⟩ = some (.slice G (n + 64) gc) := (cell_of_block HR.out.1).trans rfl
     go_wp2
     go_ret
     exact ⟨rfl, HR.out.2.1⟩
end Go.Proofs.YtekcoeonlfmebaaGreatDoor.Kit
