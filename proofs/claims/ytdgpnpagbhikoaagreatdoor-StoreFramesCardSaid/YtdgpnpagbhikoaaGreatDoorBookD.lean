/- daybookkeep: a page of bytes, appended to. -/
import Derived.Test.YtdgpnpagbhikoaaGreatDoorBookC
namespace Go.Proofs.YtdgpnpagbhikoaaGreatDoor.Kit
open Go Go.RowKit

/-- What grow leaves. -/
def GrowPost (w : World) (h o : Nat) (cur : Array Value) (A : Option Addr) (c n id : Nat) (xs : List Value) (e : Ending) (w' : World) : Prop :=
  e = .returned (.tuple #[]) ∧ ∃ G cG, Own w' 5 1 G cG (n + 64) (xs ++ bcs (marksB (id + 100000) 64)) ∧ Own w' 5 1 A c n xs ∧ Kp (fun j => j = h ∨ Bk A j) w w' ∧ (∀ j, Bk G j → Bk A j ∨ w.heap.size ≤ j) ∧
    w'.heap[h]? = some (.cells (cur.setIfInBounds (o + 1) (.slice G (n + 64) cG)) 93 (0, 0))

theorem setIf_get {cur : Array Value} {i : Nat} (v : Value) (h : i < cur.size) : (cur.setIfInBounds i v)[i]? = some v := by simp [h]
theorem setIf_ne {cur : Array Value} {i j : Nat} (v : Value) (h : i ≠ j) : (cur.setIfInBounds i v)[j]? = cur[j]? := by simp [h]
theorem setIf_twice (cur : Array Value) (i : Nat) (u v : Value) : (cur.setIfInBounds i u).setIfInBounds i v = cur.setIfInBounds i v := by
  apply Array.ext_getElem?
  intro j
  simp only [Array.getElem?_setIfInBounds, Array.size_setIfInBounds]
  split <;> simp_all

set_option maxHeartbeats 1000000 in
theorem growB_calls (w : World) (h o : Nat) (cur : Array Value) (A : Option Addr) (c n id : Nat) (u : Value) (xs : List Value) (hh : w.heap[h]? = some (.cells cur 93 (0, 0)))
    (h0 : cur[o]? = some (.slice A n c)) (h1 : cur[o + 1]? = some u) (h3 : cur[o + 3]? = some (.int .i64 (id : Int))) (hA : Own w 5 1 A c n xs) (hne : ¬ Bk A h) (hid : id ≤ 800000) (hn : n ≤ 1099511627776) :
    Calls Tryz.prog 37 #[.pointer (some ⟨h, o, none⟩)] w (GrowPost w h o cur A c n id xs) := by
  have H := Lib.hid (And.intro hh (And.intro h0 (And.intro h1 (And.intro h3 (And.intro hA hne)))))
  have f0 : w.cell? ⟨h, o, none⟩ = some (.slice A n c) := (cell_of_block hh).trans h0
  have f1 : w.cell? ⟨h, o + 1, none⟩ = some u := (cell_of_block hh).trans h1
  have fz : w.frozen? ⟨h, o + 1, none⟩ = false := by simp [World.frozen?, hh]
  clear hh h0 h1 h3 hA hne
  go_enter Tryz.func37, Tryz.ntmps37
  go_wp2
  clear f0 f1 fz
  go_loopw [2] (fun i wr => ∃ k : Nat, k ≤ 64 ∧ i = .int .i64 (k : Int) ∧ Hid (∃ G cG, wr.heap[h]? = some (.cells (cur.setIfInBounds (o + 1) (.slice G (n + k) cG)) 93 (0, 0)) ∧
    Own wr 5 1 G cG (n + k) (xs ++ bcs (marksB (id + 100000) k)) ∧ Own wr 5 1 A c n xs ∧ Kp (fun j => j = h ∨ Bk A j) w wr ∧ ((G = A ∧ cG = c) ∨ ∀ j, Bk G j → w.heap.size ≤ j))) (fun i _ => 64 - (intOf i).toNat)
  case atStart =>
    have hk : Own (w.setCell ⟨h, o + 1, none⟩ (.slice A n c)) 5 1 A c n xs := H.out.2.2.2.2.1.keep (fun j hj => Below.heap_setCell _ _ _ _ (fun e => H.out.2.2.2.2.2 (by have e' : j = h := e; rw [← e']; exact hj)))
    exact ⟨0, Nat.zero_le _, rfl, Lib.hid ⟨A, c, heap_setCell_row H.out.1 _, by simpa [marksB, bcs] using hk, hk, Kp.setCell _ _ _ (.inl rfl), .inl ⟨rfl, rfl⟩⟩⟩
  case round =>
    obtain ⟨k, hk, rfl, HI⟩ := hrel
    obtain ⟨G, cG, hrh, hG, hA, hkp, hbG⟩ := HI.out
    have hlt := (Array.getElem?_eq_some_iff.1 H.out.1).1
    have hsz : o + 1 < cur.size := (Array.getElem?_eq_some_iff.1 H.out.2.2.1).1
    have f1 : wr.cell? ⟨h, o + 1, none⟩ = some (.slice G (n + k) cG) := (cell_of_block hrh).trans (setIf_get _ hsz)
    have f3 : wr.cell? ⟨h, o + 3, none⟩ = some (.int .i64 (id : Int)) := (cell_of_block hrh).trans ((setIf_ne _ (by omega)).trans H.out.2.2.2.1)
    have hGh : ¬ Bk G h := fun hb => hbG.elim (fun e => H.out.2.2.2.2.2 (e.1 ▸ hb)) (fun h' => by have := h' h hb; omega)
    have HJ := Lib.hid (And.intro hrh (And.intro hG (And.intro hA (And.intro hkp (And.intro hbG hGh)))))
    clear hrh hG hA hkp hbG hGh HI hlt hsz
    by_cases hlt : k < 64
    · have hmo : Tryz.prog.follows Departure.mixedOrders = true := by kernel_rfl
      have hm := (markB (id + 100000) k).toNat_lt
      go_wp2
      refine wp_region_line (fun w' => w'.cell? ⟨h, o + 1, none⟩ = some (.slice G (n + k) cG) ∧ w'.cell? ⟨h, o + 3, none⟩ = some (.int .i64 (id : Int))) (pl := [(0, true), (1, true), (2, true), (3, true), (4, true), (5, true), (6, true), (7, true), (8, true), (10, true), (9, false), (11, false), (12, false), (13, false), (14, true), (15, true), (16, false)]) hmo (by kernel_rfl) ⟨by simpa using f1, by simpa using f3⟩ ?_
      iterate 10 (refine line_get rfl rfl (fun K hK => ?_); apply Exists.intro; refine ⟨fun w hS => ?_, ?_⟩; (first | (have hS' := hS rfl; go_simp; with_reducible rfl) | (go_simp; with_reducible rfl)); (go_simp; refine hK _ ?_; clear hK K))
      (refine line_do rfl rfl (fun K hK => ?_); go_simp)
      refine (behind_calls _ id _ rfl (by omega)).mono ?_
      rintro e w' ⟨rfl, rfl⟩
      refine hK _ _ (fun _ => ⟨by simpa using f1, by simpa using f3⟩) ?_
      clear hK K
      (refine line_do rfl rfl (fun K hK => ?_); go_simp)
      refine (markBytes_calls _ (id + 100000) k _ _ rfl rfl (by omega) (by omega)).mono ?_
      rintro e w' ⟨rfl, rfl⟩
      refine hK _ _ (fun _ => ⟨by simpa using f1, by simpa using f3⟩) ?_
      clear hK K
      (refine line_do rfl rfl (fun K hK => ?_); go_simp)
      have hn1 : New wr (wr.alloc (.cells #[.int .u8 ((markB (id + 100000) k).toNat : Int)] 5)).drew := (Kp.alloc _ _ _).trans (Kp.drew _ _) (fun _ _ h => h) (fun _ _ h => h)
      refine hK _ _ (fun _ => ⟨New.cell hn1 f1, New.cell hn1 f3⟩) ?_
      clear hK K
      refine line_do rfl rfl (fun K hK => ?_)
      refine wp_append_end _ (.tmp 18) (.tmp 26) 22 22 rfl 5 (.int .u8 0) 1 1 Tryz.underlying22 Tryz.info_u8 rfl G cG (n + k) _ rfl (HJ.out.2.1.new hn1) _ rfl 1 _ (Src.ofRow (w := (wr.alloc (.cells #[.int .u8 ((markB (id + 100000) k).toNat : Int)] 5)).drew) Tryz.underlying22 (heap_alloc_new wr (.cells #[.int .u8 ((markB (id + 100000) k).toNat : Int)] 5)) 1 1 1 rfl (by simp [Value.oneCell'])) (by omega) (by omega) ?_
      intro G2 cG2 w2 hG2 hend
      have hk2 : Kp (Bk G) wr w2 := hn1.trans hend.kp (fun _ _ h => h.elim) (fun _ _ h => h)
      have hhl := (Array.getElem?_eq_some_iff.1 HJ.out.1).1
      have h2h : w2.heap[h]? = some (.cells (cur.setIfInBounds (o + 1) (.slice G (n + k) cG)) 93 (0, 0)) := (hk2.block h hhl HJ.out.2.2.2.2.2).trans HJ.out.1
      have hsz : o + 1 < cur.size := (Array.getElem?_eq_some_iff.1 H.out.2.2.1).1
      have g1 : w2.cell? ⟨h, o + 1, none⟩ = some (.slice G (n + k) cG) := (cell_of_block h2h).trans (setIf_get _ hsz)
      have g3 : w2.cell? ⟨h, o + 3, none⟩ = some (.int .i64 (id : Int)) := (cell_of_block h2h).trans ((setIf_ne _ (by omega)).trans H.out.2.2.2.1)
      have h2G : ¬ Bk G2 h := fun hb => (hend.bk h hb).elim HJ.out.2.2.2.2.2 (fun e => by simp at e; omega)
      have gz : w2.frozen? ⟨h, o + 1, none⟩ = false := by simp [World.frozen?, h2h]
      refine hK _ _ (fun _ => ⟨g1, g3⟩) ?_
      clear hK K
      iterate 2 (refine line_get rfl rfl (fun K hK => ?_); apply Exists.intro; refine ⟨fun w hS => ?_, ?_⟩; (first | (have hS' := hS rfl; go_simp; with_reducible rfl) | (go_simp; with_reducible rfl)); (go_simp; refine hK _ ?_; clear hK K))
      (refine line_do rfl rfl (fun K hK => ?_); go_simp)
      refine hK _ _ (no_need (by kernel_rfl)) ?_
      clear hK K
      refine line_nil ?_
      go_wp2
      refine ⟨⟨k + 1, by omega, by go_num, Lib.hid ⟨G2, cG2, ?_, ?_, ?_, ?_, ?_⟩⟩, by simp [intOf]; omega⟩
      · rw [heap_setCell_row h2h, setIf_twice]
        rfl
      · rw [marksB_snoc, bcs_append, ← List.append_assoc]
        exact hG2.keep (fun j hj => Below.heap_setCell _ _ _ _ (fun e => h2G (by have e' : j = h := e; rw [← e']; exact hj)))
      · refine (?_ : Own w2 5 1 A c n xs).keep (fun j hj => Below.heap_setCell _ _ _ _ (fun e => H.out.2.2.2.2.2 (by have e' : j = h := e; rw [← e']; exact hj)))
        rcases HJ.out.2.2.2.2.1 with ⟨rfl, rfl⟩ | hnew
        · exact (hend.old (HJ.out.2.1.new hn1) hG2).pre H.out.2.2.2.2.1.1
        · exact HJ.out.2.2.1.kp hk2 (fun j hj hb => by have := hnew j hb; have := H.out.2.2.2.2.1.lt j hj; omega)
      · refine (HJ.out.2.2.2.1.trans hk2 (fun _ _ h => h) (fun j hj hb => ?_)).trans (Kp.setCell _ _ _ (.inl rfl)) (fun _ _ h => h) (fun _ _ h => h)
        rcases HJ.out.2.2.2.2.1 with ⟨rfl, _⟩ | hnew
        · exact .inr hb
        · have := hnew j hb
          omega
      · have hws := HJ.out.2.2.2.1.size
        rcases hend with ⟨rfl, rfl, _⟩ | ⟨rfl, _⟩
        · exact HJ.out.2.2.2.2.1
        · exact .inr (fun j hj => by have := Bk.some_.1 hj; simp at this; omega)
    · obtain rfl : k = 64 := by omega
      go_wp2
      go_end0
      exact ⟨rfl, G, cG, HJ.out.2.1, HJ.out.2.2.1, HJ.out.2.2.2.1, fun j hj => HJ.out.2.2.2.2.1.elim (fun e => .inl (e.1 ▸ hj)) (fun h' => .inr (h' j hj)), HJ.out.1⟩
end Go.Proofs.YtdgpnpagbhikoaaGreatDoor.Kit
