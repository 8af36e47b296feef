/- daybookkeep: a list put into the book, written over at once. -/
import Derived.Test.YtdgpnpagbhikoaaGreatDoorBookH
namespace Go.Proofs.YtdgpnpagbhikoaaGreatDoor.Kit
open Go Go.RowKit

set_option maxHeartbeats 1000000 in
theorem WriteB_calls (w : World) (g next : Nat) (cur : Array Value) (A L : Option Addr) (c n cL : Nat) (ps : List Pg) (xs : List Value) (hB : BookB Look w g cur A c ps) (h0 : cur[0]? = some (.int .i64 (next : Int))) (hn : next ≤ 700000) (hps : ps.length < 96)
    (hL : Own w 5 1 L cL n xs) (hn2' : n ≤ 1099511627776) (hLs : ∀ x, Bk L x → x ≠ g ∧ ¬ Bk A x ∧ ∀ q ∈ ps, ¬ q.Fp x) :
    Calls Tryz.prog 12 #[.pointer (some ⟨g, 0, none⟩), .slice L n cL] w fun e w' => e = .returned (.tuple #[]) ∧ PutPage Look w g next cur A ps L w' := by
  have hlt : (ps.length : Int) < 96 := by omega
  have f1 : w.cell? ⟨g, 1, none⟩ = some (.slice A ps.length c) := (cell_of_block hB.1).trans hB.2.1
  have hgl := (Array.getElem?_eq_some_iff.1 hB.1).1
  have H := Lib.hid (And.intro hB (And.intro h0 (And.intro hL hLs)))
  have hmo : Tryz.prog.follows Departure.mixedOrders = true := by kernel_rfl
  clear hB h0 hL hLs
  go_enter Tryz.func12, Tryz.ntmps12
  go_wp2_with (go_at_call 35; refine (id_calls w g next cur H.out.1.1 H.out.2.1 hn).mono ?_; rintro e w1 ⟨rfl, hw1⟩; have HW1 := Lib.hid hw1; clear hw1)
  have h1s := (Array.getElem?_eq_some_iff.1 H.out.1.2.1).1
  have h1g : w1.heap[g]? = some (.cells (cur.setIfInBounds 0 (.int .i64 ((next + 1 : Nat) : Int))) 50 (0, 0)) := HW1.out ▸ heap_setCell_row H.out.1.1 _
  have k1 : Kp (fun x => x = g) w w1 := HW1.out ▸ Kp.setCell _ _ _ rfl
  have hz1 := k1.size
  have hAg : ¬ Bk A g := H.out.1.2.2.2.1
  have hAl := H.out.1.2.2.1.lt
  have hLl := H.out.2.2.1.lt
  have k2 : New w1 (w1.alloc (.cells #[.slice L n cL, .slice none 0 0, .slice none 0 0, .int .i64 ((next : Int) + 1), .bool false] 93)) := Kp.alloc _ _ _
  have hh2 := heap_alloc_new w1 (.cells #[.slice L n cL, .slice none 0 0, .slice none 0 0, .int .i64 ((next : Int) + 1), .bool false] 93)
  have hz2 : (w1.alloc (.cells #[.slice L n cL, .slice none 0 0, .slice none 0 0, .int .i64 ((next : Int) + 1), .bool false] 93)).heap.size = w1.heap.size + 1 := by simp
  generalize (w1.alloc (.cells #[.slice L n cL, .slice none 0 0, .slice none 0 0, .int .i64 ((next : Int) + 1), .bool false] 93)) = w2 at k2 hh2 hz2
  have hL2 : Own w2 5 1 L cL n xs := (H.out.2.2.1.kp k1 (fun x hx e => (H.out.2.2.2 x hx).1 e)).new k2
  have hLq : ¬ Bk L w1.heap.size := fun hb => by have := hLl _ hb; omega
  have HS := Lib.hid (And.intro h1g (And.intro k1 (And.intro k2 (And.intro hAg (And.intro hAl (And.intro hLl hLq))))))
  refine (fillB_calls w2 w1.heap.size 0 #[.slice L n cL, .slice none 0 0, .slice none 0 0, .int .i64 ((next : Int) + 1), .bool false] L cL n (next + 1) false xs hh2 rfl rfl rfl hL2 hLq (by omega) hn2').mono ?_
  clear h1g k1 k2 hAg hAl hLl hL2 hLq hh2
  rintro e w3 ⟨rfl, hL3, k3, hh3⟩
  replace hh3 : w3.heap[w1.heap.size]? = some (.cells #[.slice L n cL, .slice none 0 0, .slice none 0 0, .int .i64 ((next : Int) + 1), .bool true] 93 (0, 0)) := hh3
  have hz3 := k3.size
  have HF := Lib.hid (And.intro hL3 (And.intro k3 hh3))
  clear hL3 k3 hh3
  go_wp2_with fail
  refine (growB_calls w3 w1.heap.size 0 #[.slice L n cL, .slice none 0 0, .slice none 0 0, .int .i64 ((next : Int) + 1), .bool true] L cL n (next + 1) (.slice none 0 0) _ HF.out.2.2 rfl rfl rfl HF.out.1 HS.out.2.2.2.2.2.2 (by omega) hn2').mono ?_
  rintro e w4 ⟨rfl, G, cG, hG4, hL4, k4, hGb, hh4⟩
  replace hh4 : w4.heap[w1.heap.size]? = some (.cells #[.slice L n cL, .slice G (n + 64) cG, .slice none 0 0, .int .i64 ((next : Int) + 1), .bool true] 93 (0, 0)) := hh4
  have hz4 := k4.size
  have h4g : w4.heap[g]? = some (.cells (cur.setIfInBounds 0 (.int .i64 ((next + 1 : Nat) : Int))) 50 (0, 0)) := by
    have hgL : ¬ Bk L g := fun hb => (H.out.2.2.2 g hb).1 rfl
    rw [k4.block g (by omega) (fun h => h.elim (fun e => by omega) hgL), HF.out.2.1.block g (by omega) (fun h => h.elim (fun e => by omega) hgL), HS.out.2.2.1.block g (by omega) id]
    exact HS.out.1
  have c1 : w4.cell? ⟨g, 1, none⟩ = some (.slice A ps.length c) := (cell_of_block h4g).trans ((setIf_ne _ (by omega)).trans H.out.1.2.1)
  have d0 : w4.cell? ⟨w1.heap.size, 0, none⟩ = some (.slice L n cL) := (cell_of_block hh4).trans rfl
  have d1 : w4.cell? ⟨w1.heap.size, 1, none⟩ = some (.slice G (n + 64) cG) := (cell_of_block hh4).trans rfl
  have d2 : w4.cell? ⟨w1.heap.size, 2, none⟩ = some (.slice none 0 0) := (cell_of_block hh4).trans rfl
  have d3 : w4.cell? ⟨w1.heap.size, 3, none⟩ = some (.int .i64 ((next : Int) + 1)) := (cell_of_block hh4).trans rfl
  have d4 : w4.cell? ⟨w1.heap.size, 4, none⟩ = some (.bool true) := (cell_of_block hh4).trans rfl
  have HG := Lib.hid (And.intro hG4 (And.intro hL4 (And.intro k4 (And.intro hGb (And.intro hh4 h4g)))))
  clear hG4 hL4 k4 hGb hh4 h4g
  go_wp2_with fail
  refine wp_region_line (fun w' => w'.cell? ⟨g, 1, none⟩ = some (.slice A ps.length c) ∧ w'.cell? ⟨w1.heap.size, 0, none⟩ = some (.slice L n cL) ∧ w'.cell? ⟨w1.heap.size, 1, none⟩ = some (.slice G (n + 64) cG) ∧ w'.cell? ⟨w1.heap.size, 2, none⟩ = some (.slice none 0 0) ∧ w'.cell? ⟨w1.heap.size, 3, none⟩ = some (.int .i64 ((next : Int) + 1)) ∧ w'.cell? ⟨w1.heap.size, 4, none⟩ = some (.bool true)) (pl := [(0, true), (1, true), (2, true), (3, true), (4, true), (5, true), (6, false), (7, false), (8, true), (9, true), (10, false)]) hmo (by kernel_rfl) ⟨by simpa using c1, by simpa using d0, by simpa using d1, by simpa using d2, by simpa using d3, by simpa using d4⟩ ?_
  iterate 6 (refine line_get rfl rfl (fun K hK => ?_); apply Exists.intro; refine ⟨fun w hS => ?_, ?_⟩; (first | (have hS' := hS rfl; go_simp; with_reducible rfl) | (go_simp; with_reducible rfl)); (go_simp; refine hK _ ?_; clear hK K))
  (refine line_do rfl rfl (fun K hK => ?_); go_simp)
  have n45 : New w4 (w4.alloc (.cells #[.slice L n cL, .slice G (n + 64) cG, .slice none 0 0, .int .i64 ((next : Int) + 1), .bool true] 93)).drew := (Kp.alloc _ _ _).trans (Kp.drew _ _) (fun _ _ h => h) (fun _ _ h => h)
  refine hK _ _ (fun _ => ⟨New.cell n45 c1, New.cell n45 d0, New.cell n45 d1, New.cell n45 d2, New.cell n45 d3, New.cell n45 d4⟩) ?_
  clear hK K
  have hAg := HS.out.2.2.2.1
  have q1 : Kp (fun x => x = g) w w2 := HS.out.2.1.trans HS.out.2.2.1 (fun _ _ h => h) (fun _ _ h => h.elim)
  have q2 : Kp (fun x => x = g ∨ Bk L x) w w3 := q1.trans HF.out.2.1 (fun _ _ h => Or.inl h) (fun x hx h => h.elim (fun e => by omega) Or.inr)
  have q3 : Kp (fun x => x = g ∨ Bk L x) w w4 := q2.trans HG.out.2.2.1 (fun _ _ h => h) (fun x hx h => h.elim (fun e => by omega) Or.inr)
  have hO5 := (H.out.1.2.2.1.kp q3 (fun x hx e => e.elim (fun e => hAg (e ▸ hx)) (fun hb => (H.out.2.2.2 x hb).2.1 hx))).new n45
  have h45 : (w4.alloc (.cells #[.slice L n cL, .slice G (n + 64) cG, .slice none 0 0, .int .i64 ((next : Int) + 1), .bool true] 93)).drew.heap[w4.heap.size]? = _ := heap_alloc_new w4 (.cells #[.slice L n cL, .slice G (n + 64) cG, .slice none 0 0, .int .i64 ((next : Int) + 1), .bool true] 93)
  have h5g := (n45.block g (by omega) id).trans HG.out.2.2.2.2.2
  have hz5 : (w4.alloc (.cells #[.slice L n cL, .slice G (n + 64) cG, .slice none 0 0, .int .i64 ((next : Int) + 1), .bool true] 93)).drew.heap.size = w4.heap.size + 1 := by simp
  generalize (w4.alloc (.cells #[.slice L n cL, .slice G (n + 64) cG, .slice none 0 0, .int .i64 ((next : Int) + 1), .bool true] 93)).drew = w5 at n45 hO5 h45 h5g hz5
  refine line_do rfl rfl (fun K hK => ?_)
  refine wp_append_end _ (.tmp 21) (.tmp 23) 29 29 rfl 93 _ 5 88 Tryz.underlying29 Tryz.info_page rfl A c ps.length _ rfl hO5 _ rfl 1 _ (Src.ofRow (w := w5) Tryz.underlying29 h45 5 1 1 rfl (by simp [Value.oneCell'])) (by omega) (by omega) ?_
  intro A6 c6 w6 hO6 hend6
  have h6g := (hend6.kp.block g (by omega) hAg).trans h5g
  have g1 : w6.cell? ⟨g, 1, none⟩ = some (.slice A ps.length c) := (cell_of_block h6g).trans ((setIf_ne _ (by omega)).trans H.out.1.2.1)
  have gz : w6.frozen? ⟨g, 1, none⟩ = false := by simp [World.frozen?, h6g]
  have hz6 := hend6.kp.size
  refine hK _ _ (no_need (by kernel_rfl)) ?_
  clear hK K
  iterate 2 (refine line_get rfl rfl (fun K hK => ?_); apply Exists.intro; refine ⟨fun w hS => ?_, ?_⟩; (first | (have hS' := hS rfl; go_simp; with_reducible rfl) | (go_simp; with_reducible rfl)); (go_simp; refine hK _ ?_; clear hK K))
  (refine line_do rfl rfl (fun K hK => ?_); go_simp)
  refine hK _ _ (no_need (by kernel_rfl)) ?_
  clear hK K
  refine line_nil ?_
  go_wp2
  go_end0
  refine ⟨rfl, ?_⟩
  obtain ⟨w7, hw7⟩ : ∃ w7, w6.setCell ⟨g, 1, none⟩ (.slice A6 (ps.length + 1) c6) = w7 := ⟨_, rfl⟩
  have k7 : Kp (fun x => x = g) w6 w7 := hw7 ▸ Kp.setCell _ _ _ rfl
  have h7g := hw7 ▸ heap_setCell_row h6g (.slice A6 (ps.length + 1) c6)
  rw [hw7]
  clear hw7
  have hz7 := k7.size
  have hAl := HS.out.2.2.2.2.1
  have hLl := HS.out.2.2.2.2.2.1
  have kall : Kp (fun x => x = g ∨ Bk A x ∨ Bk L x) w w7 :=
    have r5 : Kp (fun x => x = g ∨ Bk A x ∨ Bk L x) w w5 := q3.trans n45 (fun _ _ h => h.imp id Or.inr) (fun _ _ h => h.elim)
    have r6 : Kp (fun x => x = g ∨ Bk A x ∨ Bk L x) w w6 := r5.trans hend6.kp (fun _ _ h => h) (fun _ _ h => Or.inr (Or.inl h))
    r6.trans k7 (fun _ _ h => h) (fun _ _ h => Or.inl h)
  have hGn : ∀ x, Bk G x → Bk L x ∨ w.heap.size ≤ x := fun x hx => (HG.out.2.2.2.1 x hx).imp id (fun h => by omega)
  have hGA : ∀ x, Bk G x → ¬ Bk A x ∧ x ≠ g := fun x hx => (hGn x hx).elim (fun hb => ⟨(H.out.2.2.2 x hb).2.1, (H.out.2.2.2 x hb).1⟩) (fun h => ⟨fun hb => by have := hAl x hb; omega, fun e => by omega⟩)
  have hRL : RdB w7 L (marksB (next + 1) n) := ((HG.out.2.1.rd2.new n45).kp hend6.kp (fun x hx => (H.out.2.2.2 x hx).2.1)).kp k7 (fun x hx => (H.out.2.2.2 x hx).1)
  have hRG : RdB w7 G (marksB (next + 1) n ++ marksB (next + 1 + 100000) 64) := by
    have h4 := HG.out.1
    rw [← bcs_append] at h4
    exact ((h4.rd2.new n45).kp hend6.kp (fun x hx => (hGA x hx).1)).kp k7 (fun x hx => (hGA x hx).2)
  have hGl := HG.out.1.lt
  refine ⟨A6, c6, ⟨L, n, cL, G, n + 64, cG, none, 0, 0, next + 1, true⟩, ⟨h7g, ?_, ?_⟩, kall, fun x hx => (hend6.bk x hx).imp id (fun e => by omega), fun x hx => ?_⟩
  · rw [List.length_append]
    exact setIf_get _ (by rw [Array.size_setIfInBounds]; exact h1s)
  · refine H.out.1.2.2.push Look.stable (hO6.kp k7 (fun x hx e => (hend6.bk x hx).elim (fun h => hAg (e ▸ h)) (fun h => by omega))) kall (fun x hx => (hend6.bk x hx).imp id (fun e => by omega)) (.inr ⟨rfl, rfl, by simp only; omega, hn2', hRL, hRG⟩) (fun x hx => ⟨hLl x hx, H.out.2.2.2 x hx⟩) (fun x hx => ?_) hgl
    rcases hx with hx | hx | hx
    · exact .inl hx
    · rcases hGn x hx with h | h
      · exact .inl h
      · refine .inr ⟨h, Nat.lt_of_lt_of_le (hGl x hx) (by omega), fun hb => ?_⟩
        rcases hend6.bk x hb with hb | e
        · exact (hGA x hx).1 hb
        · have := hGl x hx
          omega
    · exact absurd hx Bk.none_
  · rcases hx with hx | hx | hx
    · exact .inl hx
    · exact hGn x hx
    · exact absurd hx Bk.none_
end Go.Proofs.YtdgpnpagbhikoaaGreatDoor.Kit
