/- daybookkeep: a list put into the book, untouched. -/
import Derived.Test.YtdgpnpagbhikoaaGreatDoorBookG
import Derived.Test.YtdgpnpagbhikoaaGreatDoorEmpty
namespace Go.Proofs.YtdgpnpagbhikoaaGreatDoor.Kit
open Go Go.RowKit

theorem id_calls (w : World) (g next : Nat) (cur : Array Value) (hg : w.heap[g]? = some (.cells cur 50 (0, 0))) (h0 : cur[0]? = some (.int .i64 (next : Int))) (hn : next ≤ 700000) :
    Calls Tryz.prog 35 #[.pointer (some ⟨g, 0, none⟩)] w fun e w' => e = .returned (.int .i64 ((next + 1 : Nat) : Int)) ∧ w' = w.setCell ⟨g, 0, none⟩ (.int .i64 ((next + 1 : Nat) : Int)) := by
  have f0 : w.cell? ⟨g, 0, none⟩ = some (.int .i64 (next : Int)) := (cell_of_block hg).trans h0
  have fz : w.frozen? ⟨g, 0, none⟩ = false := by simp [World.frozen?, hg]
  have hsz := (Array.getElem?_eq_some_iff.1 h0).1
  have f0' : (w.setCell ⟨g, 0, none⟩ (.int .i64 ((next : Int) + 1))).cell? ⟨g, 0, none⟩ = some (.int .i64 ((next : Int) + 1)) := (cell_of_block (heap_setCell_row hg _)).trans (setIf_get _ hsz)
  clear hg h0 hsz
  go_enter Tryz.func35, Tryz.ntmps35
  go_wp2
  go_ret
  exact ⟨by go_num, by go_num⟩

theorem Tryz.info_page : (Tryz.prog.info? 93).map (fun i => (i.zero, i.size, i.bytes)) = some (some (.agg #[.slice none 0 0, .slice none 0 0, .slice none 0 0, .int .i64 0, .bool false]), 5, 88) := by kernel_rfl

/-- One page more. -/
theorem Pages.push {P : Nat → World → Pg → Prop} {w w' : World} {g c c' : Nat} {A A' : Option Addr} {ps : List Pg} {p : Pg} (h : Pages P w g A c ps) (hP : ∀ i, Stable (P i)) (hown : Own w' 93 5 A' c' (ps.length + 1) (ps.flatMap Pg.vals ++ p.vals))
    (hk : Kp (fun x => x = g ∨ Bk A x ∨ Bk p.L x) w w') (hA' : ∀ x, Bk A' x → Bk A x ∨ w.heap.size ≤ x) (hp : P ps.length w' p) (hL : ∀ x, Bk p.L x → x < w.heap.size ∧ x ≠ g ∧ ¬ Bk A x ∧ ∀ q ∈ ps, ¬ q.Fp x)
    (hnew : ∀ x, p.Fp x → Bk p.L x ∨ (w.heap.size ≤ x ∧ x < w'.heap.size ∧ ¬ Bk A' x)) (hg : g < w.heap.size) : Pages P w' g A' c' (ps ++ [p]) := by
  obtain ⟨h1, h2, h3, h4⟩ := h
  have hsz := hk.size
  have hone : ∀ (i : Nat) (q : Pg), (ps ++ [p])[i]? = some q → (ps[i]? = some q ∧ i < ps.length) ∨ (i = ps.length ∧ q = p) := by
    intro i q hq
    by_cases hi : i < ps.length
    · rw [List.getElem?_append_left hi] at hq
      exact .inl ⟨hq, hi⟩
    · rw [List.getElem?_append_right (by omega)] at hq
      by_cases hz : i - ps.length = 0
      · rw [hz] at hq
        simp only [List.getElem?_cons_zero, Option.some.injEq] at hq
        exact .inr ⟨by omega, hq.symm⟩
      · rw [List.getElem?_eq_none (by simp; omega)] at hq
        cases hq
  have hsep : ∀ (i : Nat) (q : Pg), ps[i]? = some q → ∀ x, q.Fp x → ¬ p.Fp x := by
    intro i q hq x hx hpx
    rcases hnew x hpx with hb | hb
    · exact (hL x hb).2.2.2 q (List.mem_of_getElem? hq) hx
    · have := ((h3 i q hq).2.2 x hx).1
      omega
  refine ⟨?_, fun hb => (hA' g hb).elim h2 (fun h => by omega), fun i q hq => ?_, fun i j q r hq hr hij x hx hy => ?_⟩
  · rw [List.length_append, List.flatMap_append]
    simpa using hown
  · rcases hone i q hq with ⟨hq', _⟩ | ⟨rfl, rfl⟩
    · obtain ⟨k1, k2, k3⟩ := h3 i q hq'
      refine ⟨hP i k1 hk (fun x hx hb => ?_), k2, fun x hx => ⟨Nat.lt_of_lt_of_le (k3 x hx).1 hsz, fun hb => ?_⟩⟩
      · rcases hb with rfl | hb | hb
        · exact k2 hx
        · exact (k3 x hx).2 hb
        · exact (hL x hb).2.2.2 q (List.mem_of_getElem? hq') hx
      · rcases hA' x hb with hb | hb
        · exact (k3 x hx).2 hb
        · have := (k3 x hx).1
          omega
    · refine ⟨hp, fun hb => ?_, fun x hx => ⟨?_, fun hb => ?_⟩⟩
      · rcases hnew g hb with hb | hb
        · exact (hL g hb).2.1 rfl
        · omega
      · rcases hnew x hx with hb | hb
        · exact Nat.lt_of_lt_of_le (hL x hb).1 hsz
        · exact hb.2.1
      · rcases hnew x hx with hb' | hb'
        · rcases hA' x hb with hb | hb
          · exact (hL x hb').2.2.1 hb
          · have := (hL x hb').1
            omega
        · exact hb'.2.2 hb
  · rcases hone i q hq with ⟨hq', hi⟩ | ⟨rfl, rfl⟩
    · rcases hone j r hr with ⟨hr', hj⟩ | ⟨rfl, rfl⟩
      · exact h4 i j q r hq' hr' hij x hx hy
      · exact hsep i q hq' x hx hy
    · rcases hone j r hr with ⟨hr', hj⟩ | ⟨rfl, rfl⟩
      · exact hsep j r hr' x hy hx
      · exact hij rfl

/-- What a list put into the book leaves: the book with one page more; the list's block alone may have been written beside the book's own. -/
def PutPage (P : Nat → World → Pg → Prop) (w : World) (g next : Nat) (cur : Array Value) (A : Option Addr) (ps : List Pg) (L : Option Addr) (w' : World) : Prop :=
  ∃ A' c' p, BookB P w' g ((cur.setIfInBounds 0 (.int .i64 ((next + 1 : Nat) : Int))).setIfInBounds 1 (.slice A' (ps.length + 1) c')) A' c' (ps ++ [p]) ∧ Kp (fun x => x = g ∨ Bk A x ∨ Bk L x) w w' ∧ (∀ x, Bk A' x → Bk A x ∨ w.heap.size ≤ x) ∧ ∀ x, p.Fp x → Bk L x ∨ w.heap.size ≤ x

set_option maxHeartbeats 1000000 in
theorem KeepB_calls (w : World) (g next : Nat) (cur : Array Value) (A L : Option Addr) (c n cL : Nat) (ps : List Pg) (l : List UInt8) (hB : BookB Look w g cur A c ps) (h0 : cur[0]? = some (.int .i64 (next : Int))) (hn : next ≤ 700000) (hps : ps.length < 96)
    (hL : Own w 5 1 L cL n (bcs l)) (hl : n = l.length) (hn2' : n ≤ 1099511627776) (hLs : ∀ x, Bk L x → x ≠ g ∧ ¬ Bk A x ∧ ∀ q ∈ ps, ¬ q.Fp x) :
    Calls Tryz.prog 11 #[.pointer (some ⟨g, 0, none⟩), .slice L n cL] w fun e w' => e = .returned (.tuple #[]) ∧ PutPage Look w g next cur A ps L w' := by
  subst hl
  have hlt : (ps.length : Int) < 96 := by omega
  have f1 : w.cell? ⟨g, 1, none⟩ = some (.slice A ps.length c) := (cell_of_block hB.1).trans hB.2.1
  have hgl := (Array.getElem?_eq_some_iff.1 hB.1).1
  have H := Lib.hid (And.intro hB (And.intro h0 (And.intro hL hLs)))
  have hmo : Tryz.prog.follows Departure.mixedOrders = true := by kernel_rfl
  clear hB h0 hL hLs
  go_enter Tryz.func11, Tryz.ntmps11
  go_wp2
  refine wp_region_line (fun w' => w'.cell? ⟨g, 1, none⟩ = some (.slice A ps.length c)) (pl := [(0, true), (1, true), (2, true), (3, true), (4, true), (5, true), (7, true), (9, true), (6, false), (8, false), (10, false), (11, true), (12, false), (13, false), (14, true), (15, true), (16, false)]) hmo (by kernel_rfl) (by simpa using f1) ?_
  iterate 8 (refine line_get rfl rfl (fun K hK => ?_); apply Exists.intro; refine ⟨fun w hS => ?_, ?_⟩; (first | (have hS' := hS rfl; go_simp; with_reducible rfl) | (go_simp; with_reducible rfl)); (go_simp; refine hK _ ?_; clear hK K))
  (refine line_do rfl rfl (fun K hK => ?_); go_simp)
  have hn1 : New w (w.alloc (.cells #[] 5)).drew := (Kp.alloc _ _ _).trans (Kp.drew _ _) (fun _ _ h => h) (fun _ _ h => h)
  refine hK _ _ (fun _ => New.cell hn1 f1) ?_
  clear hK K
  refine line_do rfl rfl (fun K hK => ?_)
  refine wp_append_end _ (.tmp 16) (.tmp 17) 22 22 rfl 5 (.int .u8 0) 1 1 Tryz.underlying22 Tryz.info_u8 rfl (some ⟨w.heap.size, 0, none⟩) 0 0 [] rfl ((Own.bare w _ _).new (Kp.drew _ _)) _ rfl l.length (bcs l) (Src.ofRdB _ Tryz.underlying22 cL (H.out.2.2.1.rd.new hn1)) (by omega) (by omega) ?_
  intro U cU w2 hU hend
  have hn2 : New w w2 := hn1.trans hend.kp (fun _ _ h => h) (fun x hx h => by have := Bk.some_.1 h; simp at this; omega)
  have hUn : ∀ x, Bk U x → w.heap.size ≤ x := fun x hx => (hend.bk x hx).elim (fun h => by have := Bk.some_.1 h; simp at this; omega) (fun h => by simp at h; omega)
  refine hK _ _ (fun _ => New.cell hn2 f1) ?_
  clear hK K
  have h2g : w2.heap[g]? = some (.cells cur 50 (0, 0)) := (hn2.block g hgl id).trans H.out.1.1
  have h1s := (Array.getElem?_eq_some_iff.1 H.out.1.2.1).1
  have hE := Lib.hid (And.intro hU hend)
  clear hU hend
  (refine line_do rfl rfl (fun K hK => ?_); go_simp)
  refine (id_calls w2 g next cur h2g H.out.2.1 hn).mono ?_
  rintro e w3 ⟨rfl, hw3⟩
  have h3g : w3.heap[g]? = some (.cells (cur.setIfInBounds 0 (.int .i64 ((next + 1 : Nat) : Int))) 50 (0, 0)) := hw3 ▸ heap_setCell_row h2g _
  have k3 : Kp (fun x => x = g) w2 w3 := hw3 ▸ Kp.setCell _ _ _ rfl
  have c3 : w3.cell? ⟨g, 1, none⟩ = some (.slice A ps.length c) := (cell_of_block h3g).trans ((setIf_ne _ (by omega)).trans H.out.1.2.1)
  clear hw3
  refine hK _ _ (fun _ => c3) ?_
  clear hK K
  (refine line_get rfl rfl (fun K hK => ?_); apply Exists.intro; refine ⟨fun w hS => ?_, ?_⟩; (first | (have hS' := hS rfl; go_simp; with_reducible rfl) | (go_simp; with_reducible rfl)); (go_simp; refine hK _ ?_; clear hK K))
  (refine line_do rfl rfl (fun K hK => ?_); go_simp)
  have n34 : New w3 (w3.alloc (.cells #[.slice L l.length cL, .slice none 0 0, .slice U l.length cU, .int .i64 ((next : Int) + 1), .bool false] 93)) := Kp.alloc _ _ _
  refine hK _ _ (fun _ => New.cell n34 c3) ?_
  clear hK K
  have hAg : ¬ Bk A g := H.out.1.2.2.2.1
  have hO4 := (((H.out.1.2.2.1.new hn2).kp k3 (fun x hx e => hAg (e ▸ hx))).new n34)
  have h34 := heap_alloc_new w3 (.cells #[.slice L l.length cL, .slice none 0 0, .slice U l.length cU, .int .i64 ((next : Int) + 1), .bool false] 93)
  have h4g := (n34.block g (Array.getElem?_eq_some_iff.1 h3g).1 id).trans h3g
  have hz2 := hn2.size
  have hz3 := k3.size
  have hz4 : (w3.alloc (.cells #[.slice L l.length cL, .slice none 0 0, .slice U l.length cU, .int .i64 ((next : Int) + 1), .bool false] 93)).heap.size = w3.heap.size + 1 := by simp
  generalize (w3.alloc (.cells #[.slice L l.length cL, .slice none 0 0, .slice U l.length cU, .int .i64 ((next : Int) + 1), .bool false] 93)) = w4 at n34 hO4 h34 h4g hz4
  refine line_do rfl rfl (fun K hK => ?_)
  refine wp_append_end _ (.tmp 14) (.tmp 22) 29 29 rfl 93 _ 5 88 Tryz.underlying29 Tryz.info_page rfl A c ps.length _ rfl hO4 _ rfl 1 _ (Src.ofRow (w := w4) Tryz.underlying29 h34 5 1 1 rfl (by simp [Value.oneCell'])) (by omega) (by omega) ?_
  intro A5 c5 w5 hO5 hend5
  have h5g := (hend5.kp.block g (Array.getElem?_eq_some_iff.1 h4g).1 hAg).trans h4g
  have g1 : w5.cell? ⟨g, 1, none⟩ = some (.slice A ps.length c) := (cell_of_block h5g).trans ((setIf_ne _ (by omega)).trans H.out.1.2.1)
  have gz : w5.frozen? ⟨g, 1, none⟩ = false := by simp [World.frozen?, h5g]
  have hz5 := hend5.kp.size
  refine hK _ _ (fun _ => g1) ?_
  clear hK K
  iterate 2 (refine line_get rfl rfl (fun K hK => ?_); apply Exists.intro; refine ⟨fun w hS => ?_, ?_⟩; (first | (have hS' := hS rfl; go_simp; with_reducible rfl) | (go_simp; with_reducible rfl)); (go_simp; refine hK _ ?_; clear hK K))
  (refine line_do rfl rfl (fun K hK => ?_); go_simp)
  refine hK _ _ (no_need (by kernel_rfl)) ?_
  clear hK K
  refine line_nil ?_
  go_wp2
  go_end0
  refine ⟨rfl, ?_⟩
  have hAl := H.out.1.2.2.1.lt
  have hUl := hE.out.1.lt
  obtain ⟨w6, hw6⟩ : ∃ w6, w5.setCell ⟨g, 1, none⟩ (.slice A5 (ps.length + 1) c5) = w6 := ⟨_, rfl⟩
  have k6 : Kp (fun x => x = g) w5 w6 := hw6 ▸ Kp.setCell _ _ _ rfl
  have h6g := hw6 ▸ heap_setCell_row h5g (.slice A5 (ps.length + 1) c5)
  rw [hw6]
  clear hw6
  have hz6 := k6.size
  have kall : Kp (fun x => x = g ∨ Bk A x ∨ Bk L x) w w6 :=
    have q3 : Kp (fun x => x = g) w w3 := hn2.trans k3 (fun _ _ h => h.elim) (fun _ _ h => h)
    have q4 : Kp (fun x => x = g) w w4 := q3.trans n34 (fun _ _ h => h) (fun _ _ h => h.elim)
    have q5 : Kp (fun x => x = g ∨ Bk A x ∨ Bk L x) w w5 := q4.trans hend5.kp (fun _ _ h => Or.inl h) (fun _ _ h => Or.inr (Or.inl h))
    q5.trans k6 (fun _ _ h => h) (fun _ _ h => Or.inl h)
  have hOL : Own w6 5 1 L cL l.length (bcs l) :=
    ((((H.out.2.2.1.new hn2).kp k3 (fun x hx e => (H.out.2.2.2 x hx).1 e)).new n34).kp hend5.kp (fun x hx => (H.out.2.2.2 x hx).2.1)).kp k6 (fun x hx e => (H.out.2.2.2 x hx).1 e)
  have hRU : RdB w6 U l := by
    have h2 : RdB w2 U l := hE.out.1.rd2
    exact (((h2.kp k3 (fun x hx e => by have := hUn x hx; omega)).new n34).kp hend5.kp (fun x hx hb => by have := hUn x hx; have := hAl x hb; omega)).kp k6 (fun x hx e => by have := hUn x hx; omega)
  refine ⟨A5, c5, ⟨L, l.length, cL, none, 0, 0, U, l.length, cU, next + 1, false⟩, ⟨h6g, ?_, ?_⟩, kall, fun x hx => (hend5.bk x hx).imp id (fun e => by omega), fun x hx => ?_⟩
  · rw [List.length_append]
    exact setIf_get _ (by rw [Array.size_setIfInBounds]; exact h1s)
  · refine H.out.1.2.2.push Look.stable (hO5.kp k6 (fun x hx e => (hend5.bk x hx).elim (fun h => hAg (e ▸ h)) (fun h => by omega))) kall (fun x hx => (hend5.bk x hx).imp id (fun e => by omega)) (.inl ⟨rfl, rfl, rfl, rfl, by simp only; omega, hn2', l, rfl, rfl, hOL, hRU⟩) (fun x hx => ⟨H.out.2.2.1.lt x hx, H.out.2.2.2 x hx⟩) (fun x hx => ?_) hgl
    rcases hx with hx | hx | hx
    · exact .inl hx
    · exact absurd hx Bk.none_
    · refine .inr ⟨hUn x hx, Nat.lt_of_lt_of_le (hUl x hx) (by omega), fun hb => ?_⟩
      rcases hend5.bk x hb with hb | e
      · have := hAl x hb
        have := hUn x hx
        omega
      · have := hUl x hx
        omega
  · rcases hx with hx | hx | hx
    · exact .inl hx
    · exact absurd hx Bk.none_
    · exact .inr (hUn x hx)
end Go.Proofs.YtdgpnpagbhikoaaGreatDoor.Kit
