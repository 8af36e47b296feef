/- 4 texts in one: daybookkeep: a list put into the book, untouched.; daybookkeep: a list put into the book, written over at once.; PRINTED by gen_empty.py. daybookkeep: the steps over the pages of a type of which the book holds none.; PRINTED by gen_settle.py. daybookkeep: Intact and Settle, given what each step over one type's pages does. -/
import Derived.Test.YtekcoeonlfmebaaGreatDoorM2
import Derived.Test.YtekcoeonlfmebaaGreatDoorM0
import Derived.Test.YtekcoeonlfmebaaGreatDoorProg
import Derived.WalkKit
import Derived.Lib.Hide
namespace Go.Proofs.YtekcoeonlfmebaaGreatDoor.Kit
open Go Go.RowKit
theorem id_calls (w : World) (g next : Nat) (cur : Array Value) (hg : w.heap[g]? = some (.cells cur 53 (0, 0))) (h0 : cur[6]? = some (.int .i64 (next : Int))) (hn : next ≤ 700000) :
  Calls Tryz.prog 216 #[.pointer (some ⟨g, 6, none⟩)] w fun e w' => e = .returned (.int .i64 ((next + 1 : Nat) : Int)) ∧ w' = w.setCell ⟨g, 6, none⟩ (.int .i64 ((next + 1 : Nat) : Int)) := by
 have f0 : w.cell? ⟨g, 6, none⟩ = some (.int .i64 (next : Int)) := (cell_of_block hg).trans h0
 have fz : w.frozen? ⟨g, 6, none⟩ = false := by simp [World.frozen?, hg]
 have hsz := (Array.getElem?_eq_some_iff.1 h0).1
 have f0' : (w.setCell ⟨g, 6, none⟩ (.int .i64 ((next : Int) + 1))).cell? ⟨g, 6, none⟩ = some (.int .i64 ((next : Int) + 1)) := (cell_of_block (heap_setCell_row hg _)).trans (setIf_get _ hsz)
 clear hg h0 hsz
 go_enter Tryz.func216, Tryz.ntmps216
 go_wp2
 go_ret
 exact ⟨by go_num, by go_num⟩
theorem Tryz.info_page : (Tryz.prog.info? 116).map (fun i => (i.zero, i.size, i.bytes)) = some (some (.agg #[.slice none 0 0, .slice none 0 0, .slice none 0 0, .int .i64 0, .bool false]), 5, 88) := by kernel_rfl
theorem Pages.push {P : Nat → World → Pg → Prop} {w w' : World} {g c c' : Nat} {A A' : Option Addr} {ps : List Pg} {p : Pg} (h : Pages P w g A c ps) (hP : ∀ i, Stable (P i)) (hown : Own w' 116 5 A' c' (ps.length + 1) (ps.flatMap Pg.vals ++ p.vals))
  (hk : Kp (fun x => x = g ∨ Bk A x ∨ Bk p.L x) w w') (hA' : ∀ x, Bk A' x → Bk A x ∨ w.heap.size ≤ x) (hp : P ps.length w' p) (hL : ∀ x, Bk p.L x → x < w.heap.size ∧ x ≠ g ∧ ¬ Bk A x ∧ ∀ q ∈ ps, ¬ q.Fp x)
  (hnew : ∀ x, p.Fp x → Bk p.L x ∨ (w.heap.size ≤ x ∧ x < w'.heap.size ∧ ¬ Bk A' x)) (hg : g < w.heap.size) : Pages P w' g A' c' (ps ++ [p]) := by
 obtain ⟨h1, h2, h3, h4⟩ := h
 have hsz := hk.size
 have hone : ∀ (i : Nat) (q : Pg), (ps ++ [p])[i]? = some q → (ps[i]? = some q ∧ i < ps.length) ∨ (i = ps.length ∧ q = p) := by
  intro i q hq
  by_cases hi : i < ps.length
  ·rw [List.getElem?_append_left hi] at hq
   exact .inl ⟨hq, hi⟩
  ·rw [List.getElem?_append_right (by omega)] at hq
   by_cases hz : i - ps.length = 0
   ·rw [hz] at hq
    simp only [List.getElem?_cons_zero, Option.some.injEq] at hq
    exact .inr ⟨by omega, hq.symm⟩
   ·rw [List.getElem?_eq_none (by simp; omega)] at hq
    cases hq
 have hsep : ∀ (i : Nat) (q : Pg), ps[i]? = some q → ∀ x, q.Fp x → ¬ p.Fp x := by
  intro i q hq x hx hpx
  rcases hnew x hpx with hb | hb
  ·exact (hL x hb).2.2.2 q (List.mem_of_getElem? hq) hx
  ·have := ((h3 i q hq).2.2 x hx).1
   omega
 refine ⟨?_, fun hb => (hA' g hb).elim h2 (fun h => by omega), fun i q hq => ?_, fun i j q r hq hr hij x hx hy => ?_⟩
 ·rw [List.length_append, List.flatMap_append]
  simpa using hown
 ·rcases hone i q hq with ⟨hq', _⟩ | ⟨rfl, rfl⟩
  ·obtain ⟨k1, k2, k3⟩ := h3 i q hq'
   refine ⟨hP i k1 hk (fun x hx hb => ?_), k2, fun x hx => ⟨Nat.lt_of_lt_of_le (k3 x hx).1 hsz, fun hb => ?_⟩⟩
   ·rcases hb with rfl | hb | hb
    ·exact k2 hx
    ·exact (k3 x hx).2 hb
    ·exact (hL x hb).2.2.2 q (List.mem_of_getElem? hq') hx
   ·rcases hA' x hb with hb | hb
    ·exact (k3 x hx).2 hb
    ·have := (k3 x hx).1
     omega
  ·refine ⟨hp, fun hb => ?_, fun x hx => ⟨?_, fun hb => ?_⟩⟩
   ·rcases hnew g hb with hb | hb
    ·exact (hL g hb).2.1 rfl
    ·omega
   ·rcases hnew x hx with hb | hb
    ·exact Nat.lt_of_lt_of_le (hL x hb).1 hsz
    ·exact hb.2.1
   ·rcases hnew x hx with hb' | hb'
    ·rcases hA' x hb with hb | hb
     ·exact (hL x hb').2.2.1 hb
     ·have := (hL x hb').1
      omega
    ·exact hb'.2.2 hb
 ·rcases hone i q hq with ⟨hq', hi⟩ | ⟨rfl, rfl⟩
  ·rcases hone j r hr with ⟨hr', hj⟩ | ⟨rfl, rfl⟩
   ·exact h4 i j q r hq' hr' hij x hx hy
   ·exact hsep i q hq' x hx hy
  ·rcases hone j r hr with ⟨hr', hj⟩ | ⟨rfl, rfl⟩
   ·exact hsep j r hr' x hy hx
   ·exact hij rfl
def PutPage (P : Nat → World → Pg → Prop) (w : World) (g next : Nat) (cur : Array Value) (A : Option Addr) (ps : List Pg) (L : Option Addr) (w' : World) : Prop :=
 ∃ A' c' p, BookB P w' g ((cur.setIfInBounds 6 (.int .i64 ((next + 1 : Nat) : Int))).setIfInBounds 7 (.slice A' (ps.length + 1) c')) A' c' (ps ++ [p]) ∧ Kp (fun x => x = g ∨ Bk A x ∨ Bk L x) w w' ∧ (∀ x, Bk A' x → Bk A x ∨ w.heap.size ≤ x) ∧ ∀ x, p.Fp x → Bk L x ∨ w.heap.size ≤ x
set_option maxHeartbeats 1000000 in
theorem KeepB_calls (w : World) (g next : Nat) (cur : Array Value) (A L : Option Addr) (c n cL : Nat) (ps : List Pg) (l : List UInt8) (hB : BookB Look w g cur A c ps) (h0 : cur[6]? = some (.int .i64 (next : Int))) (hn : next ≤ 700000) (hps : ps.length < 96)
  (hL : Own w 5 1 L cL n (bcs l)) (hl : n = l.length) (hn2' : n ≤ 1099511627776) (hLs : ∀ x, Bk L x → x ≠ g ∧ ¬ Bk A x ∧ ∀ q ∈ ps, ¬ q.Fp x) :
  Calls Tryz.prog 114 #[.pointer (some ⟨g, 6, none⟩), .slice L n cL] w fun e w' => e = .returned (.tuple #[]) ∧ PutPage Look w g next cur A ps L w' := by
 subst hl
 have hlt : (ps.length : Int) < 96 := by omega
 have f1 : w.cell? ⟨g, 7, none⟩ = some (.slice A ps.length c) := (cell_of_block hB.1).trans hB.2.1
 have hgl := (Array.getElem?_eq_some_iff.1 hB.1).1
 have H := Lib.hid (And.intro hB (And.intro h0 (And.intro hL hLs)))
 have hmo : Tryz.prog.follows Departure.mixedOrders = true := by kernel_rfl
 clear hB h0 hL hLs
 go_enter Tryz.func114, Tryz.ntmps114
 go_wp2
 refine wp_region_line (fun w' => w'.cell? ⟨g, 7, none⟩ = some (.slice A ps.length c)) (pl := [(0, true), (1, true), (2, true), (3, true), (4, true), (5, true), (7, true), (9, true), (6, false), (8, false), (10, false), (11, true), (12, false), (13, false), (14, true), (15, true), (16, false)]) hmo (by kernel_rfl) (by simpa using f1) ?_
 iterate 8 (refine line_get rfl rfl (fun K hK => ?_); apply Exists.intro; refine ⟨fun w s => ?_, ?_⟩; (first | (have q := s rfl; go_simp; with_reducible rfl) | (go_simp; with_reducible rfl)); (go_simp; refine hK _ ?_; clear hK K))
 (refine line_do rfl rfl (fun K hK => ?_); go_simp)
 have hn1 : New w (w.alloc (.cells #[] 5)).drew := (Kp.alloc _ _ _).trans (Kp.drew _ _) fid fid
 refine hK _ _ (fun _ => New.cell hn1 f1) ?_
 clear hK K
 refine line_do rfl rfl (fun K hK => ?_)
 refine wp_append_end _ (.tmp 16) (.tmp 17) 55 55 rfl 5 (.int .u8 0) 1 1 Tryz.underlying55 Tryz.info_u8 rfl (some ⟨w.heap.size, 0, none⟩) 0 0 [] rfl ((Own.bare w _ _).new (Kp.drew _ _)) _ rfl l.length (bcs l) (Src.ofRdB _ Tryz.underlying55 cL (H.out.2.2.1.rd.new hn1)) (by omega) (by omega) ?_
 intro U cU w2 hU hend
 have hn2 : New w w2 := hn1.trans hend.kp fid (fun x hx h => by have := Bk.some_.1 h; simp at this; omega)
 have hUn : ∀ x, Bk U x → w.heap.size ≤ x := fun x hx => (hend.bk x hx).elim (fun h => by have := Bk.some_.1 h; simp at this; omega) (fun h => by simp at h; omega)
 refine hK _ _ (fun _ => New.cell hn2 f1) ?_
 clear hK K
 have h2g : w2.heap[g]? = some (.cells cur 53 (0, 0)) := (hn2.block g hgl id).trans H.out.1.1
 have h1s := (Array.getElem?_eq_some_iff.1 H.out.1.2.1).1
 have hE := Lib.hid (And.intro hU hend)
 clear hU hend
 (refine line_do rfl rfl (fun K hK => ?_); go_simp)
 refine (id_calls w2 g next cur h2g H.out.2.1 hn).mono ?_
 rintro e w3 ⟨rfl, hw3⟩
 have h3g : w3.heap[g]? = some (.cells (cur.setIfInBounds 6 (.int .i64 ((next + 1 : Nat) : Int))) 53 (0, 0)) := hw3 ▸ heap_setCell_row h2g _
 have k3 : Kp (fun x => x = g) w2 w3 := hw3 ▸ Kp.setCell _ _ _ rfl
 have c3 : w3.cell? ⟨g, 7, none⟩ = some (.slice A ps.length c) := (cell_of_block h3g).trans ((setIf_ne _ (by omega)).trans H.out.1.2.1)
 clear hw3
 refine hK _ _ (fun _ => c3) ?_
 clear hK K
 (refine line_get rfl rfl (fun K hK => ?_); apply Exists.intro; refine ⟨fun w s => ?_, ?_⟩; (first | (have q := s rfl; go_simp; with_reducible rfl) | (go_simp; with_reducible rfl)); (go_simp; refine hK _ ?_; clear hK K))
 (refine line_do rfl rfl (fun K hK => ?_); go_simp)
 have n34 : New w3 (w3.alloc (.cells #[.slice L l.length cL, .slice none 0 0, .slice U l.length cU, .int .i64 ((next : Int) + 1), .bool false] 116)) := Kp.alloc _ _ _
 refine hK _ _ (fun _ => New.cell n34 c3) ?_
 clear hK K
 have hAg : ¬ Bk A g := H.out.1.2.2.2.1
 have hO4 := (((H.out.1.2.2.1.new hn2).kp k3 (fun x hx e => hAg (e ▸ hx))).new n34)
 have h34 := heap_alloc_new w3 (.cells #[.slice L l.length cL, .slice none 0 0, .slice U l.length cU, .int .i64 ((next : Int) + 1), .bool false] 116)
 have h4g := (n34.block g (Array.getElem?_eq_some_iff.1 h3g).1 id).trans h3g
 have hz2 := hn2.size
 have hz3 := k3.size
 have hz4 : (w3.alloc (.cells #[.slice L l.length cL, .slice none 0 0, .slice U l.length cU, .int .i64 ((next : Int) + 1), .bool false] 116)).heap.size = w3.heap.size + 1 := by simp
 generalize (w3.alloc (.cells #[.slice L l.length cL, .slice none 0 0, .slice U l.length cU, .int .i64 ((next : Int) + 1), .bool false] 116)) = w4 at n34 hO4 h34 h4g hz4
 refine line_do rfl rfl (fun K hK => ?_)
 refine wp_append_end _ (.tmp 14) (.tmp 22) 30 30 rfl 116 _ 5 88 Tryz.underlying30 Tryz.info_page rfl A c ps.length _ rfl hO4 _ rfl 1 _ (Src.ofRow (w := w4) Tryz.underlying30 h34 5 1 1 rfl (by simp [Value.oneCell'])) (by omega) (by omega) ?_
 intro A5 c5 w5 hO5 hend5
 have h5g := (hend5.kp.block g (Array.getElem?_eq_some_iff.1 h4g).1 hAg).trans h4g
 have g1 : w5.cell? ⟨g, 7, none⟩ = some (.slice A ps.length c) := (cell_of_block h5g).trans ((setIf_ne _ (by omega)).trans H.out.1.2.1)
 have gz : w5.frozen? ⟨g, 7, none⟩ = false := by simp [World.frozen?, h5g]
 have hz5 := hend5.kp.size
 refine hK _ _ (fun _ => g1) ?_
 clear hK K
 iterate 2 (refine line_get rfl rfl (fun K hK => ?_); apply Exists.intro; refine ⟨fun w s => ?_, ?_⟩; (first | (have q := s rfl; go_simp; with_reducible rfl) | (go_simp; with_reducible rfl)); (go_simp; refine hK _ ?_; clear hK K))
 (refine line_do rfl rfl (fun K hK => ?_); go_simp)
 refine hK _ _ (no_need (by kernel_rfl)) ?_
 clear hK K
 refine line_nil ?_
 go_wp2
 go_end0
 refine ⟨rfl, ?_⟩
 have hAl := H.out.1.2.2.1.lt
 have hUl := hE.out.1.lt
 obtain ⟨w6, hw6⟩ : ∃ w6, w5.setCell ⟨g, 7, none⟩ (.slice A5 (ps.length + 1) c5) = w6 := ⟨_, rfl⟩
 have k6 : Kp (fun x => x = g) w5 w6 := hw6 ▸ Kp.setCell _ _ _ rfl
 have h6g := hw6 ▸ heap_setCell_row h5g (.slice A5 (ps.length + 1) c5)
 rw [hw6]
 clear hw6
 have hz6 := k6.size
 have kall : Kp (fun x => x = g ∨ Bk A x ∨ Bk L x) w w6 :=
  have q3 : Kp (fun x => x = g) w w3 := hn2.trans k3 (fun _ _ h => h.elim) fid
  have q4 : Kp (fun x => x = g) w w4 := q3.trans n34 fid (fun _ _ h => h.elim)
  have q5 : Kp (fun x => x = g ∨ Bk A x ∨ Bk L x) w w5 := q4.trans hend5.kp (fun _ _ h => Or.inl h) (fun _ _ h => Or.inr (Or.inl h))
  q5.trans k6 fid (fun _ _ h => Or.inl h)
 have hOL : Own w6 5 1 L cL l.length (bcs l) :=
  ((((H.out.2.2.1.new hn2).kp k3 (fun x hx e => (H.out.2.2.2 x hx).1 e)).new n34).kp hend5.kp (fun x hx => (H.out.2.2.2 x hx).2.1)).kp k6 (fun x hx e => (H.out.2.2.2 x hx).1 e)
 have hRU : RdB w6 U l := by
  have h2 : RdB w2 U l := hE.out.1.rd2
  exact (((h2.kp k3 (fun x hx e => by have := hUn x hx; omega)).new n34).kp hend5.kp (fun x hx hb => by have := hUn x hx; have := hAl x hb; omega)).kp k6 (fun x hx e => by have := hUn x hx; omega)
 refine ⟨A5, c5, ⟨L, l.length, cL, none, 0, 0, U, l.length, cU, next + 1, false⟩, ⟨h6g, ?_, ?_⟩, kall, fun x hx => (hend5.bk x hx).imp id (fun e => by omega), fun x hx => ?_⟩
 ·rw [List.length_append]
  exact setIf_get _ (by rw [Array.size_setIfInBounds]; exact h1s)
 ·refine H.out.1.2.2.push Look.stable (hO5.kp k6 (fun x hx e => (hend5.bk x hx).elim (fun h => hAg (e ▸ h)) (fun h => by omega))) kall (fun x hx => (hend5.bk x hx).imp id (fun e => by omega)) (.inl ⟨rfl, rfl, rfl, rfl, by simp only; omega, hn2', l, rfl, rfl, hOL, hRU⟩) (fun x hx => ⟨H.out.2.2.1.lt x hx, H.out.2.2.2 x hx⟩) (fun x hx => ?_) hgl
  rcases hx with hx | hx | hx
  ·exact .inl hx
  ·exact absurd hx Bk.none_
  ·refine .inr ⟨hUn x hx, Nat.lt_of_lt_of_le (hUl x hx) (by omega), fun hb => ?_⟩
   rcases hend5.bk x hb with hb | e
   ·have := hAl x hb
    have := hUn x hx
    omega
   ·have := hUl x hx
    omega
 ·rcases hx with hx | hx | hx
  ·exact .inl hx
  ·exact absurd hx Bk.none_
  ·exact .inr (hUn x hx)
set_option maxHeartbeats 1000000 in
theorem WriteB_calls (w : World) (g next : Nat) (cur : Array Value) (A L : Option Addr) (c n cL : Nat) (ps : List Pg) (xs : List Value) (hB : BookB Look w g cur A c ps) (h0 : cur[6]? = some (.int .i64 (next : Int))) (hn : next ≤ 700000) (hps : ps.length < 96)
  (hL : Own w 5 1 L cL n xs) (hn2' : n ≤ 1099511627776) (hLs : ∀ x, Bk L x → x ≠ g ∧ ¬ Bk A x ∧ ∀ q ∈ ps, ¬ q.Fp x) :
  Calls Tryz.prog 115 #[.pointer (some ⟨g, 6, none⟩), .slice L n cL] w fun e w' => e = .returned (.tuple #[]) ∧ PutPage Look w g next cur A ps L w' := by
 have hlt : (ps.length : Int) < 96 := by omega
 have f1 : w.cell? ⟨g, 7, none⟩ = some (.slice A ps.length c) := (cell_of_block hB.1).trans hB.2.1
 have hgl := (Array.getElem?_eq_some_iff.1 hB.1).1
 have H := Lib.hid (And.intro hB (And.intro h0 (And.intro hL hLs)))
 have hmo : Tryz.prog.follows Departure.mixedOrders = true := by kernel_rfl
 clear hB h0 hL hLs
 go_enter Tryz.func115, Tryz.ntmps115
 go_wp2_with (go_at_call 216; refine (id_calls w g next cur H.out.1.1 H.out.2.1 hn).mono ?_; rintro e w1 ⟨rfl, hw1⟩; have HW1 := Lib.hid hw1; clear hw1)
 have h1s := (Array.getElem?_eq_some_iff.1 H.out.1.2.1).1
 have h1g : w1.heap[g]? = some (.cells (cur.setIfInBounds 6 (.int .i64 ((next + 1 : Nat) : Int))) 53 (0, 0)) := HW1.out ▸ heap_setCell_row H.out.1.1 _
 have k1 : Kp (fun x => x = g) w w1 := HW1.out ▸ Kp.setCell _ _ _ rfl
 have hz1 := k1.size
 have hAg : ¬ Bk A g := H.out.1.2.2.2.1
 have hAl := H.out.1.2.2.1.lt
 have hLl := H.out.2.2.1.lt
 have k2 : New w1 (w1.alloc (.cells #[.slice L n cL, .slice none 0 0, .slice none 0 0, .int .i64 ((next : Int) + 1), .bool false] 116)) := Kp.alloc _ _ _
 have hh2 := heap_alloc_new w1 (.cells #[.slice L n cL, .slice none 0 0, .slice none 0 0, .int .i64 ((next : Int) + 1), .bool false] 116)
 have hz2 : (w1.alloc (.cells #[.slice L n cL, .slice none 0 0, .slice none 0 0, .int .i64 ((next : Int) + 1), .bool false] 116)).heap.size = w1.heap.size + 1 := by simp
 generalize (w1.alloc (.cells #[.slice L n cL, .slice none 0 0, .slice none 0 0, .int .i64 ((next : Int) + 1), .bool false] 116)) = w2 at k2 hh2 hz2
 have hL2 : Own w2 5 1 L cL n xs := (H.out.2.2.1.kp k1 (fun x hx e => (H.out.2.2.2 x hx).1 e)).new k2
 have hLq : ¬ Bk L w1.heap.size := fun hb => by have := hLl _ hb; omega
 have HS := Lib.hid (And.intro h1g (And.intro k1 (And.intro k2 (And.intro hAg (And.intro hAl (And.intro hLl hLq))))))
 refine (fillB_calls w2 w1.heap.size 0 #[.slice L n cL, .slice none 0 0, .slice none 0 0, .int .i64 ((next : Int) + 1), .bool false] L cL n (next + 1) false xs hh2 rfl rfl rfl hL2 hLq (by omega) hn2').mono ?_
 clear h1g k1 k2 hAg hAl hLl hL2 hLq hh2
 rintro e w3 ⟨rfl, hL3, k3, hh3⟩
 replace hh3 : w3.heap[w1.heap.size]? = some (.cells #[.slice L n cL, .slice none 0 0, .slice none 0 0, .int .i64 ((next : Int) + 1), .bool true] 116 (0, 0)) := hh3
 have hz3 := k3.size
 have HF := Lib.hid (And.intro hL3 (And.intro k3 hh3))
 clear hL3 k3 hh3
 go_wp2_with fail
 refine (growB_calls w3 w1.heap.size 0 #[.slice L n cL, .slice none 0 0, .slice none 0 0, .int .i64 ((next : Int) + 1), .bool true] L cL n (next + 1) (.slice none 0 0) _ HF.out.2.2 rfl rfl rfl HF.out.1 HS.out.2.2.2.2.2.2 (by omega) hn2').mono ?_
 rintro e w4 ⟨rfl, G, cG, hG4, hL4, k4, hGb, hh4⟩
 replace hh4 : w4.heap[w1.heap.size]? = some (.cells #[.slice L n cL, .slice G (n + 64) cG, .slice none 0 0, .int .i64 ((next : Int) + 1), .bool true] 116 (0, 0)) := hh4
 have hz4 := k4.size
 have h4g : w4.heap[g]? = some (.cells (cur.setIfInBounds 6 (.int .i64 ((next + 1 : Nat) : Int))) 53 (0, 0)) := by
  have hgL : ¬ Bk L g := fun hb => (H.out.2.2.2 g hb).1 rfl
  rw [k4.block g (by omega) (fun h => h.elim (fun e => by omega) hgL), HF.out.2.1.block g (by omega) (fun h => h.elim (fun e => by omega) hgL), HS.out.2.2.1.block g (by omega) id]
  exact HS.out.1
 have c1 : w4.cell? ⟨g, 7, none⟩ = some (.slice A ps.length c) := (cell_of_block h4g).trans ((setIf_ne _ (by omega)).trans H.out.1.2.1)
 have d0 : w4.cell? ⟨w1.heap.size, 0, none⟩ = some (.slice L n cL) := (cell_of_block hh4).trans rfl
 have d1 : w4.cell? ⟨w1.heap.size, 1, none⟩ = some (.slice G (n + 64) cG) := (cell_of_block hh4).trans rfl
 have d2 : w4.cell? ⟨w1.heap.size, 2, none⟩ = some (.slice none 0 0) := (cell_of_block hh4).trans rfl
 have d3 : w4.cell? ⟨w1.heap.size, 3, none⟩ = some (.int .i64 ((next : Int) + 1)) := (cell_of_block hh4).trans rfl
 have d4 : w4.cell? ⟨w1.heap.size, 4, none⟩ = some (.bool true) := (cell_of_block hh4).trans rfl
 have HG := Lib.hid (And.intro hG4 (And.intro hL4 (And.intro k4 (And.intro hGb (And.intro hh4 h4g)))))
 clear hG4 hL4 k4 hGb hh4 h4g
 go_wp2_with fail
 refine wp_region_line (fun w' => w'.cell? ⟨g, 7, none⟩ = some (.slice A ps.length c) ∧ w'.cell? ⟨w1.heap.size, 0, none⟩ = some (.slice L n cL) ∧ w'.cell? ⟨w1.heap.size, 1, none⟩ = some (.slice G (n + 64) cG) ∧ w'.cell? ⟨w1.heap.size, 2, none⟩ = some (.slice none 0 0) ∧ w'.cell? ⟨w1.heap.size, 3, none⟩ = some (.int .i64 ((next : Int) + 1)) ∧ w'.cell? ⟨w1.heap.size, 4, none⟩ = some (.bool true)) (pl := [(0, true), (1, true), (2, true), (3, true), (4, true), (5, true), (6, false), (7, false), (8, true), (9, true), (10, false)]) hmo (by kernel_rfl) ⟨by simpa using c1, by simpa using d0, by simpa using d1, by simpa using d2, by simpa using d3, by simpa using d4⟩ ?_
 iterate 6 (refine line_get rfl rfl (fun K hK => ?_); apply Exists.intro; refine ⟨fun w s => ?_, ?_⟩; (first | (have q := s rfl; go_simp; with_reducible rfl) | (go_simp; with_reducible rfl)); (go_simp; refine hK _ ?_; clear hK K))
 (refine line_do rfl rfl (fun K hK => ?_); go_simp)
 have n45 : New w4 (w4.alloc (.cells #[.slice L n cL, .slice G (n + 64) cG, .slice none 0 0, .int .i64 ((next : Int) + 1), .bool true] 116)).drew := (Kp.alloc _ _ _).trans (Kp.drew _ _) fid fid
 refine hK _ _ (fun _ => ⟨New.cell n45 c1, New.cell n45 d0, New.cell n45 d1, New.cell n45 d2, New.cell n45 d3, New.cell n45 d4⟩) ?_
 clear hK K
 have hAg := HS.out.2.2.2.1
 have q1 : Kp (fun x => x = g) w w2 := HS.out.2.1.trans HS.out.2.2.1 fid (fun _ _ h => h.elim)
 have q2 : Kp (fun x => x = g ∨ Bk L x) w w3 := q1.trans HF.out.2.1 (fun _ _ h => Or.inl h) (fun x hx h => h.elim (fun e => by omega) Or.inr)
 have q3 : Kp (fun x => x = g ∨ Bk L x) w w4 := q2.trans HG.out.2.2.1 fid (fun x hx h => h.elim (fun e => by omega) Or.inr)
 have hO5 := (H.out.1.2.2.1.kp q3 (fun x hx e => e.elim (fun e => hAg (e ▸ hx)) (fun hb => (H.out.2.2.2 x hb).2.1 hx))).new n45
 have h45 : (w4.alloc (.cells #[.slice L n cL, .slice G (n + 64) cG, .slice none 0 0, .int .i64 ((next : Int) + 1), .bool true] 116)).drew.heap[w4.heap.size]? = _ := heap_alloc_new w4 (.cells #[.slice L n cL, .slice G (n + 64) cG, .slice none 0 0, .int .i64 ((next : Int) + 1), .bool true] 116)
 have h5g := (n45.block g (by omega) id).trans HG.out.2.2.2.2.2
 have hz5 : (w4.alloc (.cells #[.slice L n cL, .slice G (n + 64) cG, .slice none 0 0, .int .i64 ((next : Int) + 1), .bool true] 116)).drew.heap.size = w4.heap.size + 1 := by simp
 generalize (w4.alloc (.cells #[.slice L n cL, .slice G (n + 64) cG, .slice none 0 0, .int .i64 ((next : Int) + 1), .bool true] 116)).drew = w5 at n45 hO5 h45 h5g hz5
 refine line_do rfl rfl (fun K hK => ?_)
 refine wp_append_end _ (.tmp 21) (.tmp 23) 30 30 rfl 116 _ 5 88 Tryz.underlying30 Tryz.info_page rfl A c ps.length _ rfl hO5 _ rfl 1 _ (Src.ofRow (w := w5) Tryz.underlying30 h45 5 1 1 rfl (by simp [Value.oneCell'])) (by omega) (by omega) ?_
 intro A6 c6 w6 hO6 hend6
 have h6g := (hend6.kp.block g (by omega) hAg).trans h5g
 have g1 : w6.cell? ⟨g, 7, none⟩ = some (.slice A ps.length c) := (cell_of_block h6g).trans ((setIf_ne _ (by omega)).trans H.out.1.2.1)
 have gz : w6.frozen? ⟨g, 7, none⟩ = false := by simp [World.frozen?, h6g]
 have hz6 := hend6.kp.size
 refine hK _ _ (no_need (by kernel_rfl)) ?_
 clear hK K
 iterate 2 (refine line_get rfl rfl (fun K hK => ?_); apply Exists.intro; refine ⟨fun w s => ?_, ?_⟩; (first | (have q := s rfl; go_simp; with_reducible rfl) | (go_simp; with_reducible rfl)); (go_simp; refine hK _ ?_; clear hK K))
 (refine line_do rfl rfl (fun K hK => ?_); go_simp)
 refine hK _ _ (no_need (by kernel_rfl)) ?_
 clear hK K
 refine line_nil ?_
 go_wp2
 go_end0
 refine ⟨rfl, ?_⟩
 obtain ⟨w7, hw7⟩ : ∃ w7, w6.setCell ⟨g, 7, none⟩ (.slice A6 (ps.length + 1) c6) = w7 := ⟨_, rfl⟩
 have k7 : Kp (fun x => x = g) w6 w7 := hw7 ▸ Kp.setCell _ _ _ rfl
 have h7g := hw7 ▸ heap_setCell_row h6g (.slice A6 (ps.length + 1) c6)
 rw [hw7]
 clear hw7
 have hz7 := k7.size
 have hAl := HS.out.2.2.2.2.1
 have hLl := HS.out.2.2.2.2.2.1
 have kall : Kp (fun x => x = g ∨ Bk A x ∨ Bk L x) w w7 :=
  have r5 : Kp (fun x => x = g ∨ Bk A x ∨ Bk L x) w w5 := q3.trans n45 (fun _ _ h => h.imp id Or.inr) (fun _ _ h => h.elim)
  have r6 : Kp (fun x => x = g ∨ Bk A x ∨ Bk L x) w w6 := r5.trans hend6.kp fid (fun _ _ h => Or.inr (Or.inl h))
  r6.trans k7 fid (fun _ _ h => Or.inl h)
 have hGn : ∀ x, Bk G x → Bk L x ∨ w.heap.size ≤ x := fun x hx => (HG.out.2.2.2.1 x hx).imp id (fun h => by omega)
 have hGA : ∀ x, Bk G x → ¬ Bk A x ∧ x ≠ g := fun x hx => (hGn x hx).elim (fun hb => ⟨(H.out.2.2.2 x hb).2.1, (H.out.2.2.2 x hb).1⟩) (fun h => ⟨fun hb => by have := hAl x hb; omega, fun e => by omega⟩)
 have hRL : RdB w7 L (marksB (next + 1) n) := ((HG.out.2.1.rd2.new n45).kp hend6.kp (fun x hx => (H.out.2.2.2 x hx).2.1)).kp k7 (fun x hx => (H.out.2.2.2 x hx).1)
 have hRG : RdB w7 G (marksB (next + 1) n ++ marksB (next + 1 + 100000) 64) := by
  have h4 := HG.out.1
  rw [← bcs_append] at h4
  exact ((h4.rd2.new n45).kp hend6.kp (fun x hx => (hGA x hx).1)).kp k7 (fun x hx => (hGA x hx).2)
 have hGl := HG.out.1.lt
 refine ⟨A6, c6, ⟨L, n, cL, G, n + 64, cG, none, 0, 0, next + 1, true⟩, ⟨h7g, ?_, ?_⟩, kall, fun x hx => (hend6.bk x hx).imp id (fun e => by omega), fun x hx => ?_⟩
 ·rw [List.length_append]
  exact setIf_get _ (by rw [Array.size_setIfInBounds]; exact h1s)
 ·refine H.out.1.2.2.push Look.stable (hO6.kp k7 (fun x hx e => (hend6.bk x hx).elim (fun h => hAg (e ▸ h)) (fun h => by omega))) kall (fun x hx => (hend6.bk x hx).imp id (fun e => by omega)) (.inr ⟨rfl, rfl, by simp only; omega, hn2', hRL, hRG⟩) (fun x hx => ⟨hLl x hx, H.out.2.2.2 x hx⟩) (fun x hx => ?_) hgl
  rcases hx with hx | hx | hx
  ·exact .inl hx
  ·rcases hGn x hx with h | h
   ·exact .inl h
   ·refine .inr ⟨h, Nat.lt_of_lt_of_le (hGl x hx) (by omega), fun hb => ?_⟩
    rcases hend6.bk x hb with hb | e
    ·exact (hGA x hx).1 hb
    ·have := hGl x hx
     omega
  ·exact absurd hx Bk.none_
 ·rcases hx with hx | hx | hx
  ·exact .inl hx
  ·exact hGn x hx
  ·exact absurd hx Bk.none_
theorem intactBytes_none (w : World) (g : Nat) (h : w.cell? ⟨g, 7, none⟩ = some (.slice none 0 0)) :
  Calls Tryz.prog 20 #[.pointer (some ⟨g, 6, none⟩)] w fun e w' => e = .returned (.bool true) ∧ w = w' := by
 go_enter Tryz.func20, Tryz.ntmps20
 go_wp2
 go_loopw [3] (fun i wr => i = .int .i64 0 ∧ wr = w) (fun _ _ => 0)
 case atStart => exact ⟨rfl, rfl⟩
 case round =>
  obtain ⟨rfl, rfl⟩ := hrel
  go_wp2
  go_ret
  exact ⟨rfl, rfl⟩
theorem fillBytes_none (w : World) (g : Nat) (h : w.cell? ⟨g, 7, none⟩ = some (.slice none 0 0)) :
  Calls Tryz.prog 53 #[.pointer (some ⟨g, 6, none⟩)] w fun e w' => e = .returned (.tuple #[]) ∧ w = w' := by
 go_enter Tryz.func53, Tryz.ntmps53
 go_wp2
 go_loopw [2] (fun i wr => i = .int .i64 0 ∧ wr = w) (fun _ _ => 0)
 case atStart => exact ⟨rfl, rfl⟩
 case round =>
  obtain ⟨rfl, rfl⟩ := hrel
  go_wp2
  go_end0
  exact ⟨rfl, rfl⟩
theorem growBytes_none (w : World) (g : Nat) (h : w.cell? ⟨g, 7, none⟩ = some (.slice none 0 0)) :
  Calls Tryz.prog 73 #[.pointer (some ⟨g, 6, none⟩)] w fun e w' => e = .returned (.tuple #[]) ∧ w = w' := by
 go_enter Tryz.func73, Tryz.ntmps73
 go_wp2
 go_loopw [2] (fun i wr => i = .int .i64 0 ∧ wr = w) (fun _ _ => 0)
 case atStart => exact ⟨rfl, rfl⟩
 case round =>
  obtain ⟨rfl, rfl⟩ := hrel
  go_wp2
  go_end0
  exact ⟨rfl, rfl⟩
theorem intactInts_none (w : World) (g : Nat) (h : w.cell? ⟨g, 8, none⟩ = some (.slice none 0 0)) :
  Calls Tryz.prog 21 #[.pointer (some ⟨g, 6, none⟩)] w fun e w' => e = .returned (.bool true) ∧ w = w' := by
 go_enter Tryz.func21, Tryz.ntmps21
 go_wp2
 go_loopw [3] (fun i wr => i = .int .i64 0 ∧ wr = w) (fun _ _ => 0)
 case atStart => exact ⟨rfl, rfl⟩
 case round =>
  obtain ⟨rfl, rfl⟩ := hrel
  go_wp2
  go_ret
  exact ⟨rfl, rfl⟩
theorem fillInts_none (w : World) (g : Nat) (h : w.cell? ⟨g, 8, none⟩ = some (.slice none 0 0)) :
  Calls Tryz.prog 54 #[.pointer (some ⟨g, 6, none⟩)] w fun e w' => e = .returned (.tuple #[]) ∧ w = w' := by
 go_enter Tryz.func54, Tryz.ntmps54
 go_wp2
 go_loopw [2] (fun i wr => i = .int .i64 0 ∧ wr = w) (fun _ _ => 0)
 case atStart => exact ⟨rfl, rfl⟩
 case round =>
  obtain ⟨rfl, rfl⟩ := hrel
  go_wp2
  go_end0
  exact ⟨rfl, rfl⟩
theorem growInts_none (w : World) (g : Nat) (h : w.cell? ⟨g, 8, none⟩ = some (.slice none 0 0)) :
  Calls Tryz.prog 74 #[.pointer (some ⟨g, 6, none⟩)] w fun e w' => e = .returned (.tuple #[]) ∧ w = w' := by
 go_enter Tryz.func74, Tryz.ntmps74
 go_wp2
 go_loopw [2] (fun i wr => i = .int .i64 0 ∧ wr = w) (fun _ _ => 0)
 case atStart => exact ⟨rfl, rfl⟩
 case round =>
  obtain ⟨rfl, rfl⟩ := hrel
  go_wp2
  go_end0
  exact ⟨rfl, rfl⟩
theorem intactNums_none (w : World) (g : Nat) (h : w.cell? ⟨g, 9, none⟩ = some (.slice none 0 0)) :
  Calls Tryz.prog 22 #[.pointer (some ⟨g, 6, none⟩)] w fun e w' => e = .returned (.bool true) ∧ w = w' := by
 go_enter Tryz.func22, Tryz.ntmps22
 go_wp2
 go_loopw [3] (fun i wr => i = .int .i64 0 ∧ wr = w) (fun _ _ => 0)
 case atStart => exact ⟨rfl, rfl⟩
 case round =>
  obtain ⟨rfl, rfl⟩ := hrel
  go_wp2
  go_ret
  exact ⟨rfl, rfl⟩
theorem fillNums_none (w : World) (g : Nat) (h : w.cell? ⟨g, 9, none⟩ = some (.slice none 0 0)) :
  Calls Tryz.prog 55 #[.pointer (some ⟨g, 6, none⟩)] w fun e w' => e = .returned (.tuple #[]) ∧ w = w' := by
 go_enter Tryz.func55, Tryz.ntmps55
 go_wp2
 go_loopw [2] (fun i wr => i = .int .i64 0 ∧ wr = w) (fun _ _ => 0)
 case atStart => exact ⟨rfl, rfl⟩
 case round =>
  obtain ⟨rfl, rfl⟩ := hrel
  go_wp2
  go_end0
  exact ⟨rfl, rfl⟩
theorem growNums_none (w : World) (g : Nat) (h : w.cell? ⟨g, 9, none⟩ = some (.slice none 0 0)) :
  Calls Tryz.prog 75 #[.pointer (some ⟨g, 6, none⟩)] w fun e w' => e = .returned (.tuple #[]) ∧ w = w' := by
 go_enter Tryz.func75, Tryz.ntmps75
 go_wp2
 go_loopw [2] (fun i wr => i = .int .i64 0 ∧ wr = w) (fun _ _ => 0)
 case atStart => exact ⟨rfl, rfl⟩
 case round =>
  obtain ⟨rfl, rfl⟩ := hrel
  go_wp2
  go_end0
  exact ⟨rfl, rfl⟩
theorem intactTexts_none (w : World) (g : Nat) (h : w.cell? ⟨g, 10, none⟩ = some (.slice none 0 0)) :
  Calls Tryz.prog 23 #[.pointer (some ⟨g, 6, none⟩)] w fun e w' => e = .returned (.bool true) ∧ w = w' := by
 go_enter Tryz.func23, Tryz.ntmps23
 go_wp2
 go_loopw [3] (fun i wr => i = .int .i64 0 ∧ wr = w) (fun _ _ => 0)
 case atStart => exact ⟨rfl, rfl⟩
 case round =>
  obtain ⟨rfl, rfl⟩ := hrel
  go_wp2
  go_ret
  exact ⟨rfl, rfl⟩
theorem fillTexts_none (w : World) (g : Nat) (h : w.cell? ⟨g, 10, none⟩ = some (.slice none 0 0)) :
  Calls Tryz.prog 56 #[.pointer (some ⟨g, 6, none⟩)] w fun e w' => e = .returned (.tuple #[]) ∧ w = w' := by
 go_enter Tryz.func56, Tryz.ntmps56
 go_wp2
 go_loopw [2] (fun i wr => i = .int .i64 0 ∧ wr = w) (fun _ _ => 0)
 case atStart => exact ⟨rfl, rfl⟩
 case round =>
  obtain ⟨rfl, rfl⟩ := hrel
  go_wp2
  go_end0
  exact ⟨rfl, rfl⟩
theorem growTexts_none (w : World) (g : Nat) (h : w.cell? ⟨g, 10, none⟩ = some (.slice none 0 0)) :
  Calls Tryz.prog 76 #[.pointer (some ⟨g, 6, none⟩)] w fun e w' => e = .returned (.tuple #[]) ∧ w = w' := by
 go_enter Tryz.func76, Tryz.ntmps76
 go_wp2
 go_loopw [2] (fun i wr => i = .int .i64 0 ∧ wr = w) (fun _ _ => 0)
 case atStart => exact ⟨rfl, rfl⟩
 case round =>
  obtain ⟨rfl, rfl⟩ := hrel
  go_wp2
  go_end0
  exact ⟨rfl, rfl⟩
theorem intactPostings_none (w : World) (g : Nat) (h : w.cell? ⟨g, 11, none⟩ = some (.slice none 0 0)) :
  Calls Tryz.prog 24 #[.pointer (some ⟨g, 6, none⟩)] w fun e w' => e = .returned (.bool true) ∧ w = w' := by
 go_enter Tryz.func24, Tryz.ntmps24
 go_wp2
 go_loopw [3] (fun i wr => i = .int .i64 0 ∧ wr = w) (fun _ _ => 0)
 case atStart => exact ⟨rfl, rfl⟩
 case round =>
  obtain ⟨rfl, rfl⟩ := hrel
  go_wp2
  go_ret
  exact ⟨rfl, rfl⟩
theorem fillPostings_none (w : World) (g : Nat) (h : w.cell? ⟨g, 11, none⟩ = some (.slice none 0 0)) :
  Calls Tryz.prog 57 #[.pointer (some ⟨g, 6, none⟩)] w fun e w' => e = .returned (.tuple #[]) ∧ w = w' := by
 go_enter Tryz.func57, Tryz.ntmps57
 go_wp2
 go_loopw [2] (fun i wr => i = .int .i64 0 ∧ wr = w) (fun _ _ => 0)
 case atStart => exact ⟨rfl, rfl⟩
 case round =>
  obtain ⟨rfl, rfl⟩ := hrel
  go_wp2
  go_end0
  exact ⟨rfl, rfl⟩
theorem growPostings_none (w : World) (g : Nat) (h : w.cell? ⟨g, 11, none⟩ = some (.slice none 0 0)) :
  Calls Tryz.prog 77 #[.pointer (some ⟨g, 6, none⟩)] w fun e w' => e = .returned (.tuple #[]) ∧ w = w' := by
 go_enter Tryz.func77, Tryz.ntmps77
 go_wp2
 go_loopw [2] (fun i wr => i = .int .i64 0 ∧ wr = w) (fun _ _ => 0)
 case atStart => exact ⟨rfl, rfl⟩
 case round =>
  obtain ⟨rfl, rfl⟩ := hrel
  go_wp2
  go_end0
  exact ⟨rfl, rfl⟩
theorem intactClaims_none (w : World) (g : Nat) (h : w.cell? ⟨g, 12, none⟩ = some (.slice none 0 0)) :
  Calls Tryz.prog 25 #[.pointer (some ⟨g, 6, none⟩)] w fun e w' => e = .returned (.bool true) ∧ w = w' := by
 go_enter Tryz.func25, Tryz.ntmps25
 go_wp2
 go_loopw [3] (fun i wr => i = .int .i64 0 ∧ wr = w) (fun _ _ => 0)
 case atStart => exact ⟨rfl, rfl⟩
 case round =>
  obtain ⟨rfl, rfl⟩ := hrel
  go_wp2
  go_ret
  exact ⟨rfl, rfl⟩
theorem fillClaims_none (w : World) (g : Nat) (h : w.cell? ⟨g, 12, none⟩ = some (.slice none 0 0)) :
  Calls Tryz.prog 58 #[.pointer (some ⟨g, 6, none⟩)] w fun e w' => e = .returned (.tuple #[]) ∧ w = w' := by
 go_enter Tryz.func58, Tryz.ntmps58
 go_wp2
 go_loopw [2] (fun i wr => i = .int .i64 0 ∧ wr = w) (fun _ _ => 0)
 case atStart => exact ⟨rfl, rfl⟩
 case round =>
  obtain ⟨rfl, rfl⟩ := hrel
  go_wp2
  go_end0
  exact ⟨rfl, rfl⟩
theorem growClaims_none (w : World) (g : Nat) (h : w.cell? ⟨g, 12, none⟩ = some (.slice none 0 0)) :
  Calls Tryz.prog 78 #[.pointer (some ⟨g, 6, none⟩)] w fun e w' => e = .returned (.tuple #[]) ∧ w = w' := by
 go_enter Tryz.func78, Tryz.ntmps78
 go_wp2
 go_loopw [2] (fun i wr => i = .int .i64 0 ∧ wr = w) (fun _ _ => 0)
 case atStart => exact ⟨rfl, rfl⟩
 case round =>
  obtain ⟨rfl, rfl⟩ := hrel
  go_wp2
  go_end0
  exact ⟨rfl, rfl⟩
theorem intactAllots_none (w : World) (g : Nat) (h : w.cell? ⟨g, 13, none⟩ = some (.slice none 0 0)) :
  Calls Tryz.prog 26 #[.pointer (some ⟨g, 6, none⟩)] w fun e w' => e = .returned (.bool true) ∧ w = w' := by
 go_enter Tryz.func26, Tryz.ntmps26
 go_wp2
 go_loopw [3] (fun i wr => i = .int .i64 0 ∧ wr = w) (fun _ _ => 0)
 case atStart => exact ⟨rfl, rfl⟩
 case round =>
  obtain ⟨rfl, rfl⟩ := hrel
  go_wp2
  go_ret
  exact ⟨rfl, rfl⟩
theorem fillAllots_none (w : World) (g : Nat) (h : w.cell? ⟨g, 13, none⟩ = some (.slice none 0 0)) :
  Calls Tryz.prog 59 #[.pointer (some ⟨g, 6, none⟩)] w fun e w' => e = .returned (.tuple #[]) ∧ w = w' := by
 go_enter Tryz.func59, Tryz.ntmps59
 go_wp2
 go_loopw [2] (fun i wr => i = .int .i64 0 ∧ wr = w) (fun _ _ => 0)
 case atStart => exact ⟨rfl, rfl⟩
 case round =>
  obtain ⟨rfl, rfl⟩ := hrel
  go_wp2
  go_end0
  exact ⟨rfl, rfl⟩
theorem growAllots_none (w : World) (g : Nat) (h : w.cell? ⟨g, 13, none⟩ = some (.slice none 0 0)) :
  Calls Tryz.prog 79 #[.pointer (some ⟨g, 6, none⟩)] w fun e w' => e = .returned (.tuple #[]) ∧ w = w' := by
 go_enter Tryz.func79, Tryz.ntmps79
 go_wp2
 go_loopw [2] (fun i wr => i = .int .i64 0 ∧ wr = w) (fun _ _ => 0)
 case atStart => exact ⟨rfl, rfl⟩
 case round =>
  obtain ⟨rfl, rfl⟩ := hrel
  go_wp2
  go_end0
  exact ⟨rfl, rfl⟩
theorem intactAccounts_none (w : World) (g : Nat) (h : w.cell? ⟨g, 14, none⟩ = some (.slice none 0 0)) :
  Calls Tryz.prog 27 #[.pointer (some ⟨g, 6, none⟩)] w fun e w' => e = .returned (.bool true) ∧ w = w' := by
 go_enter Tryz.func27, Tryz.ntmps27
 go_wp2
 go_loopw [3] (fun i wr => i = .int .i64 0 ∧ wr = w) (fun _ _ => 0)
 case atStart => exact ⟨rfl, rfl⟩
 case round =>
  obtain ⟨rfl, rfl⟩ := hrel
  go_wp2
  go_ret
  exact ⟨rfl, rfl⟩
theorem fillAccounts_none (w : World) (g : Nat) (h : w.cell? ⟨g, 14, none⟩ = some (.slice none 0 0)) :
  Calls Tryz.prog 60 #[.pointer (some ⟨g, 6, none⟩)] w fun e w' => e = .returned (.tuple #[]) ∧ w = w' := by
 go_enter Tryz.func60, Tryz.ntmps60
 go_wp2
 go_loopw [2] (fun i wr => i = .int .i64 0 ∧ wr = w) (fun _ _ => 0)
 case atStart => exact ⟨rfl, rfl⟩
 case round =>
  obtain ⟨rfl, rfl⟩ := hrel
  go_wp2
  go_end0
  exact ⟨rfl, rfl⟩
theorem growAccounts_none (w : World) (g : Nat) (h : w.cell? ⟨g, 14, none⟩ = some (.slice none 0 0)) :
  Calls Tryz.prog 80 #[.pointer (some ⟨g, 6, none⟩)] w fun e w' => e = .returned (.tuple #[]) ∧ w = w' := by
 go_enter Tryz.func80, Tryz.ntmps80
 go_wp2
 go_loopw [2] (fun i wr => i = .int .i64 0 ∧ wr = w) (fun _ _ => 0)
 case atStart => exact ⟨rfl, rfl⟩
 case round =>
  obtain ⟨rfl, rfl⟩ := hrel
  go_wp2
  go_end0
  exact ⟨rfl, rfl⟩
theorem intactBalances_none (w : World) (g : Nat) (h : w.cell? ⟨g, 15, none⟩ = some (.slice none 0 0)) :
  Calls Tryz.prog 28 #[.pointer (some ⟨g, 6, none⟩)] w fun e w' => e = .returned (.bool true) ∧ w = w' := by
 go_enter Tryz.func28, Tryz.ntmps28
 go_wp2
 go_loopw [3] (fun i wr => i = .int .i64 0 ∧ wr = w) (fun _ _ => 0)
 case atStart => exact ⟨rfl, rfl⟩
 case round =>
  obtain ⟨rfl, rfl⟩ := hrel
  go_wp2
  go_ret
  exact ⟨rfl, rfl⟩
theorem fillBalances_none (w : World) (g : Nat) (h : w.cell? ⟨g, 15, none⟩ = some (.slice none 0 0)) :
  Calls Tryz.prog 61 #[.pointer (some ⟨g, 6, none⟩)] w fun e w' => e = .returned (.tuple #[]) ∧ w = w' := by
 go_enter Tryz.func61, Tryz.ntmps61
 go_wp2
 go_loopw [2] (fun i wr => i = .int .i64 0 ∧ wr = w) (fun _ _ => 0)
 case atStart => exact ⟨rfl, rfl⟩
 case round =>
  obtain ⟨rfl, rfl⟩ := hrel
  go_wp2
  go_end0
  exact ⟨rfl, rfl⟩
theorem growBalances_none (w : World) (g : Nat) (h : w.cell? ⟨g, 15, none⟩ = some (.slice none 0 0)) :
  Calls Tryz.prog 81 #[.pointer (some ⟨g, 6, none⟩)] w fun e w' => e = .returned (.tuple #[]) ∧ w = w' := by
 go_enter Tryz.func81, Tryz.ntmps81
 go_wp2
 go_loopw [2] (fun i wr => i = .int .i64 0 ∧ wr = w) (fun _ _ => 0)
 case atStart => exact ⟨rfl, rfl⟩
 case round =>
  obtain ⟨rfl, rfl⟩ := hrel
  go_wp2
  go_end0
  exact ⟨rfl, rfl⟩
theorem intactColumns_none (w : World) (g : Nat) (h : w.cell? ⟨g, 16, none⟩ = some (.slice none 0 0)) :
  Calls Tryz.prog 29 #[.pointer (some ⟨g, 6, none⟩)] w fun e w' => e = .returned (.bool true) ∧ w = w' := by
 go_enter Tryz.func29, Tryz.ntmps29
 go_wp2
 go_loopw [3] (fun i wr => i = .int .i64 0 ∧ wr = w) (fun _ _ => 0)
 case atStart => exact ⟨rfl, rfl⟩
 case round =>
  obtain ⟨rfl, rfl⟩ := hrel
  go_wp2
  go_ret
  exact ⟨rfl, rfl⟩
theorem fillColumns_none (w : World) (g : Nat) (h : w.cell? ⟨g, 16, none⟩ = some (.slice none 0 0)) :
  Calls Tryz.prog 62 #[.pointer (some ⟨g, 6, none⟩)] w fun e w' => e = .returned (.tuple #[]) ∧ w = w' := by
 go_enter Tryz.func62, Tryz.ntmps62
 go_wp2
 go_loopw [2] (fun i wr => i = .int .i64 0 ∧ wr = w) (fun _ _ => 0)
 case atStart => exact ⟨rfl, rfl⟩
 case round =>
  obtain ⟨rfl, rfl⟩ := hrel
  go_wp2
  go_end0
  exact ⟨rfl, rfl⟩
theorem growColumns_none (w : World) (g : Nat) (h : w.cell? ⟨g, 16, none⟩ = some (.slice none 0 0)) :
  Calls Tryz.prog 82 #[.pointer (some ⟨g, 6, none⟩)] w fun e w' => e = .returned (.tuple #[]) ∧ w = w' := by
 go_enter Tryz.func82, Tryz.ntmps82
 go_wp2
 go_loopw [2] (fun i wr => i = .int .i64 0 ∧ wr = w) (fun _ _ => 0)
 case atStart => exact ⟨rfl, rfl⟩
 case round =>
  obtain ⟨rfl, rfl⟩ := hrel
  go_wp2
  go_end0
  exact ⟨rfl, rfl⟩
theorem intactDays_none (w : World) (g : Nat) (h : w.cell? ⟨g, 17, none⟩ = some (.slice none 0 0)) :
  Calls Tryz.prog 30 #[.pointer (some ⟨g, 6, none⟩)] w fun e w' => e = .returned (.bool true) ∧ w = w' := by
 go_enter Tryz.func30, Tryz.ntmps30
 go_wp2
 go_loopw [3] (fun i wr => i = .int .i64 0 ∧ wr = w) (fun _ _ => 0)
 case atStart => exact ⟨rfl, rfl⟩
 case round =>
  obtain ⟨rfl, rfl⟩ := hrel
  go_wp2
  go_ret
  exact ⟨rfl, rfl⟩
theorem fillDays_none (w : World) (g : Nat) (h : w.cell? ⟨g, 17, none⟩ = some (.slice none 0 0)) :
  Calls Tryz.prog 63 #[.pointer (some ⟨g, 6, none⟩)] w fun e w' => e = .returned (.tuple #[]) ∧ w = w' := by
 go_enter Tryz.func63, Tryz.ntmps63
 go_wp2
 go_loopw [2] (fun i wr => i = .int .i64 0 ∧ wr = w) (fun _ _ => 0)
 case atStart => exact ⟨rfl, rfl⟩
 case round =>
  obtain ⟨rfl, rfl⟩ := hrel
  go_wp2
  go_end0
  exact ⟨rfl, rfl⟩
theorem growDays_none (w : World) (g : Nat) (h : w.cell? ⟨g, 17, none⟩ = some (.slice none 0 0)) :
  Calls Tryz.prog 83 #[.pointer (some ⟨g, 6, none⟩)] w fun e w' => e = .returned (.tuple #[]) ∧ w = w' := by
 go_enter Tryz.func83, Tryz.ntmps83
 go_wp2
 go_loopw [2] (fun i wr => i = .int .i64 0 ∧ wr = w) (fun _ _ => 0)
 case atStart => exact ⟨rfl, rfl⟩
 case round =>
  obtain ⟨rfl, rfl⟩ := hrel
  go_wp2
  go_end0
  exact ⟨rfl, rfl⟩
theorem intactLines_none (w : World) (g : Nat) (h : w.cell? ⟨g, 18, none⟩ = some (.slice none 0 0)) :
  Calls Tryz.prog 31 #[.pointer (some ⟨g, 6, none⟩)] w fun e w' => e = .returned (.bool true) ∧ w = w' := by
 go_enter Tryz.func31, Tryz.ntmps31
 go_wp2
 go_loopw [3] (fun i wr => i = .int .i64 0 ∧ wr = w) (fun _ _ => 0)
 case atStart => exact ⟨rfl, rfl⟩
 case round =>
  obtain ⟨rfl, rfl⟩ := hrel
  go_wp2
  go_ret
  exact ⟨rfl, rfl⟩
theorem fillLines_none (w : World) (g : Nat) (h : w.cell? ⟨g, 18, none⟩ = some (.slice none 0 0)) :
  Calls Tryz.prog 64 #[.pointer (some ⟨g, 6, none⟩)] w fun e w' => e = .returned (.tuple #[]) ∧ w = w' := by
 go_enter Tryz.func64, Tryz.ntmps64
 go_wp2
 go_loopw [2] (fun i wr => i = .int .i64 0 ∧ wr = w) (fun _ _ => 0)
 case atStart => exact ⟨rfl, rfl⟩
 case round =>
  obtain ⟨rfl, rfl⟩ := hrel
  go_wp2
  go_end0
  exact ⟨rfl, rfl⟩
theorem growLines_none (w : World) (g : Nat) (h : w.cell? ⟨g, 18, none⟩ = some (.slice none 0 0)) :
  Calls Tryz.prog 84 #[.pointer (some ⟨g, 6, none⟩)] w fun e w' => e = .returned (.tuple #[]) ∧ w = w' := by
 go_enter Tryz.func84, Tryz.ntmps84
 go_wp2
 go_loopw [2] (fun i wr => i = .int .i64 0 ∧ wr = w) (fun _ _ => 0)
 case atStart => exact ⟨rfl, rfl⟩
 case round =>
  obtain ⟨rfl, rfl⟩ := hrel
  go_wp2
  go_end0
  exact ⟨rfl, rfl⟩
theorem intactCells_none (w : World) (g : Nat) (h : w.cell? ⟨g, 19, none⟩ = some (.slice none 0 0)) :
  Calls Tryz.prog 32 #[.pointer (some ⟨g, 6, none⟩)] w fun e w' => e = .returned (.bool true) ∧ w = w' := by
 go_enter Tryz.func32, Tryz.ntmps32
 go_wp2
 go_loopw [3] (fun i wr => i = .int .i64 0 ∧ wr = w) (fun _ _ => 0)
 case atStart => exact ⟨rfl, rfl⟩
 case round =>
  obtain ⟨rfl, rfl⟩ := hrel
  go_wp2
  go_ret
  exact ⟨rfl, rfl⟩
theorem fillCells_none (w : World) (g : Nat) (h : w.cell? ⟨g, 19, none⟩ = some (.slice none 0 0)) :
  Calls Tryz.prog 65 #[.pointer (some ⟨g, 6, none⟩)] w fun e w' => e = .returned (.tuple #[]) ∧ w = w' := by
 go_enter Tryz.func65, Tryz.ntmps65
 go_wp2
 go_loopw [2] (fun i wr => i = .int .i64 0 ∧ wr = w) (fun _ _ => 0)
 case atStart => exact ⟨rfl, rfl⟩
 case round =>
  obtain ⟨rfl, rfl⟩ := hrel
  go_wp2
  go_end0
  exact ⟨rfl, rfl⟩
theorem growCells_none (w : World) (g : Nat) (h : w.cell? ⟨g, 19, none⟩ = some (.slice none 0 0)) :
  Calls Tryz.prog 85 #[.pointer (some ⟨g, 6, none⟩)] w fun e w' => e = .returned (.tuple #[]) ∧ w = w' := by
 go_enter Tryz.func85, Tryz.ntmps85
 go_wp2
 go_loopw [2] (fun i wr => i = .int .i64 0 ∧ wr = w) (fun _ _ => 0)
 case atStart => exact ⟨rfl, rfl⟩
 case round =>
  obtain ⟨rfl, rfl⟩ := hrel
  go_wp2
  go_end0
  exact ⟨rfl, rfl⟩
theorem intactSegments_none (w : World) (g : Nat) (h : w.cell? ⟨g, 20, none⟩ = some (.slice none 0 0)) :
  Calls Tryz.prog 33 #[.pointer (some ⟨g, 6, none⟩)] w fun e w' => e = .returned (.bool true) ∧ w = w' := by
 go_enter Tryz.func33, Tryz.ntmps33
 go_wp2
 go_loopw [3] (fun i wr => i = .int .i64 0 ∧ wr = w) (fun _ _ => 0)
 case atStart => exact ⟨rfl, rfl⟩
 case round =>
  obtain ⟨rfl, rfl⟩ := hrel
  go_wp2
  go_ret
  exact ⟨rfl, rfl⟩
theorem fillSegments_none (w : World) (g : Nat) (h : w.cell? ⟨g, 20, none⟩ = some (.slice none 0 0)) :
  Calls Tryz.prog 66 #[.pointer (some ⟨g, 6, none⟩)] w fun e w' => e = .returned (.tuple #[]) ∧ w = w' := by
 go_enter Tryz.func66, Tryz.ntmps66
 go_wp2
 go_loopw [2] (fun i wr => i = .int .i64 0 ∧ wr = w) (fun _ _ => 0)
 case atStart => exact ⟨rfl, rfl⟩
 case round =>
  obtain ⟨rfl, rfl⟩ := hrel
  go_wp2
  go_end0
  exact ⟨rfl, rfl⟩
theorem growSegments_none (w : World) (g : Nat) (h : w.cell? ⟨g, 20, none⟩ = some (.slice none 0 0)) :
  Calls Tryz.prog 86 #[.pointer (some ⟨g, 6, none⟩)] w fun e w' => e = .returned (.tuple #[]) ∧ w = w' := by
 go_enter Tryz.func86, Tryz.ntmps86
 go_wp2
 go_loopw [2] (fun i wr => i = .int .i64 0 ∧ wr = w) (fun _ _ => 0)
 case atStart => exact ⟨rfl, rfl⟩
 case round =>
  obtain ⟨rfl, rfl⟩ := hrel
  go_wp2
  go_end0
  exact ⟨rfl, rfl⟩
theorem intactNodes_none (w : World) (g : Nat) (h : w.cell? ⟨g, 21, none⟩ = some (.slice none 0 0)) :
  Calls Tryz.prog 34 #[.pointer (some ⟨g, 6, none⟩)] w fun e w' => e = .returned (.bool true) ∧ w = w' := by
 go_enter Tryz.func34, Tryz.ntmps34
 go_wp2
 go_loopw [3] (fun i wr => i = .int .i64 0 ∧ wr = w) (fun _ _ => 0)
 case atStart => exact ⟨rfl, rfl⟩
 case round =>
  obtain ⟨rfl, rfl⟩ := hrel
  go_wp2
  go_ret
  exact ⟨rfl, rfl⟩
theorem fillNodes_none (w : World) (g : Nat) (h : w.cell? ⟨g, 21, none⟩ = some (.slice none 0 0)) :
  Calls Tryz.prog 67 #[.pointer (some ⟨g, 6, none⟩)] w fun e w' => e = .returned (.tuple #[]) ∧ w = w' := by
 go_enter Tryz.func67, Tryz.ntmps67
 go_wp2
 go_loopw [2] (fun i wr => i = .int .i64 0 ∧ wr = w) (fun _ _ => 0)
 case atStart => exact ⟨rfl, rfl⟩
 case round =>
  obtain ⟨rfl, rfl⟩ := hrel
  go_wp2
  go_end0
  exact ⟨rfl, rfl⟩
theorem growNodes_none (w : World) (g : Nat) (h : w.cell? ⟨g, 21, none⟩ = some (.slice none 0 0)) :
  Calls Tryz.prog 87 #[.pointer (some ⟨g, 6, none⟩)] w fun e w' => e = .returned (.tuple #[]) ∧ w = w' := by
 go_enter Tryz.func87, Tryz.ntmps87
 go_wp2
 go_loopw [2] (fun i wr => i = .int .i64 0 ∧ wr = w) (fun _ _ => 0)
 case atStart => exact ⟨rfl, rfl⟩
 case round =>
  obtain ⟨rfl, rfl⟩ := hrel
  go_wp2
  go_end0
  exact ⟨rfl, rfl⟩
theorem intactEvents_none (w : World) (g : Nat) (h : w.cell? ⟨g, 22, none⟩ = some (.slice none 0 0)) :
  Calls Tryz.prog 35 #[.pointer (some ⟨g, 6, none⟩)] w fun e w' => e = .returned (.bool true) ∧ w = w' := by
 go_enter Tryz.func35, Tryz.ntmps35
 go_wp2
 go_loopw [3] (fun i wr => i = .int .i64 0 ∧ wr = w) (fun _ _ => 0)
 case atStart => exact ⟨rfl, rfl⟩
 case round =>
  obtain ⟨rfl, rfl⟩ := hrel
  go_wp2
  go_ret
  exact ⟨rfl, rfl⟩
theorem fillEvents_none (w : World) (g : Nat) (h : w.cell? ⟨g, 22, none⟩ = some (.slice none 0 0)) :
  Calls Tryz.prog 68 #[.pointer (some ⟨g, 6, none⟩)] w fun e w' => e = .returned (.tuple #[]) ∧ w = w' := by
 go_enter Tryz.func68, Tryz.ntmps68
 go_wp2
 go_loopw [2] (fun i wr => i = .int .i64 0 ∧ wr = w) (fun _ _ => 0)
 case atStart => exact ⟨rfl, rfl⟩
 case round =>
  obtain ⟨rfl, rfl⟩ := hrel
  go_wp2
  go_end0
  exact ⟨rfl, rfl⟩
theorem growEvents_none (w : World) (g : Nat) (h : w.cell? ⟨g, 22, none⟩ = some (.slice none 0 0)) :
  Calls Tryz.prog 88 #[.pointer (some ⟨g, 6, none⟩)] w fun e w' => e = .returned (.tuple #[]) ∧ w = w' := by
 go_enter Tryz.func88, Tryz.ntmps88
 go_wp2
 go_loopw [2] (fun i wr => i = .int .i64 0 ∧ wr = w) (fun _ _ => 0)
 case atStart => exact ⟨rfl, rfl⟩
 case round =>
  obtain ⟨rfl, rfl⟩ := hrel
  go_wp2
  go_end0
  exact ⟨rfl, rfl⟩
theorem intactEntries_none (w : World) (g : Nat) (h : w.cell? ⟨g, 23, none⟩ = some (.slice none 0 0)) :
  Calls Tryz.prog 36 #[.pointer (some ⟨g, 6, none⟩)] w fun e w' => e = .returned (.bool true) ∧ w = w' := by
 go_enter Tryz.func36, Tryz.ntmps36
 go_wp2
 go_loopw [3] (fun i wr => i = .int .i64 0 ∧ wr = w) (fun _ _ => 0)
 case atStart => exact ⟨rfl, rfl⟩
 case round =>
  obtain ⟨rfl, rfl⟩ := hrel
  go_wp2
  go_ret
  exact ⟨rfl, rfl⟩
theorem fillEntries_none (w : World) (g : Nat) (h : w.cell? ⟨g, 23, none⟩ = some (.slice none 0 0)) :
  Calls Tryz.prog 69 #[.pointer (some ⟨g, 6, none⟩)] w fun e w' => e = .returned (.tuple #[]) ∧ w = w' := by
 go_enter Tryz.func69, Tryz.ntmps69
 go_wp2
 go_loopw [2] (fun i wr => i = .int .i64 0 ∧ wr = w) (fun _ _ => 0)
 case atStart => exact ⟨rfl, rfl⟩
 case round =>
  obtain ⟨rfl, rfl⟩ := hrel
  go_wp2
  go_end0
  exact ⟨rfl, rfl⟩
theorem growEntries_none (w : World) (g : Nat) (h : w.cell? ⟨g, 23, none⟩ = some (.slice none 0 0)) :
  Calls Tryz.prog 89 #[.pointer (some ⟨g, 6, none⟩)] w fun e w' => e = .returned (.tuple #[]) ∧ w = w' := by
 go_enter Tryz.func89, Tryz.ntmps89
 go_wp2
 go_loopw [2] (fun i wr => i = .int .i64 0 ∧ wr = w) (fun _ _ => 0)
 case atStart => exact ⟨rfl, rfl⟩
 case round =>
  obtain ⟨rfl, rfl⟩ := hrel
  go_wp2
  go_end0
  exact ⟨rfl, rfl⟩
theorem intactFiles_none (w : World) (g : Nat) (h : w.cell? ⟨g, 24, none⟩ = some (.slice none 0 0)) :
  Calls Tryz.prog 37 #[.pointer (some ⟨g, 6, none⟩)] w fun e w' => e = .returned (.bool true) ∧ w = w' := by
 go_enter Tryz.func37, Tryz.ntmps37
 go_wp2
 go_loopw [3] (fun i wr => i = .int .i64 0 ∧ wr = w) (fun _ _ => 0)
 case atStart => exact ⟨rfl, rfl⟩
 case round =>
  obtain ⟨rfl, rfl⟩ := hrel
  go_wp2
  go_ret
  exact ⟨rfl, rfl⟩
theorem fillFiles_none (w : World) (g : Nat) (h : w.cell? ⟨g, 24, none⟩ = some (.slice none 0 0)) :
  Calls Tryz.prog 70 #[.pointer (some ⟨g, 6, none⟩)] w fun e w' => e = .returned (.tuple #[]) ∧ w = w' := by
 go_enter Tryz.func70, Tryz.ntmps70
 go_wp2
 go_loopw [2] (fun i wr => i = .int .i64 0 ∧ wr = w) (fun _ _ => 0)
 case atStart => exact ⟨rfl, rfl⟩
 case round =>
  obtain ⟨rfl, rfl⟩ := hrel
  go_wp2
  go_end0
  exact ⟨rfl, rfl⟩
theorem growFiles_none (w : World) (g : Nat) (h : w.cell? ⟨g, 24, none⟩ = some (.slice none 0 0)) :
  Calls Tryz.prog 90 #[.pointer (some ⟨g, 6, none⟩)] w fun e w' => e = .returned (.tuple #[]) ∧ w = w' := by
 go_enter Tryz.func90, Tryz.ntmps90
 go_wp2
 go_loopw [2] (fun i wr => i = .int .i64 0 ∧ wr = w) (fun _ _ => 0)
 case atStart => exact ⟨rfl, rfl⟩
 case round =>
  obtain ⟨rfl, rfl⟩ := hrel
  go_wp2
  go_end0
  exact ⟨rfl, rfl⟩
theorem intactLists_none (w : World) (g : Nat) (h : w.cell? ⟨g, 25, none⟩ = some (.slice none 0 0)) :
  Calls Tryz.prog 38 #[.pointer (some ⟨g, 6, none⟩)] w fun e w' => e = .returned (.bool true) ∧ w = w' := by
 go_enter Tryz.func38, Tryz.ntmps38
 go_wp2
 go_loopw [3] (fun i wr => i = .int .i64 0 ∧ wr = w) (fun _ _ => 0)
 case atStart => exact ⟨rfl, rfl⟩
 case round =>
  obtain ⟨rfl, rfl⟩ := hrel
  go_wp2
  go_ret
  exact ⟨rfl, rfl⟩
theorem fillLists_none (w : World) (g : Nat) (h : w.cell? ⟨g, 25, none⟩ = some (.slice none 0 0)) :
  Calls Tryz.prog 71 #[.pointer (some ⟨g, 6, none⟩)] w fun e w' => e = .returned (.tuple #[]) ∧ w = w' := by
 go_enter Tryz.func71, Tryz.ntmps71
 go_wp2
 go_loopw [2] (fun i wr => i = .int .i64 0 ∧ wr = w) (fun _ _ => 0)
 case atStart => exact ⟨rfl, rfl⟩
 case round =>
  obtain ⟨rfl, rfl⟩ := hrel
  go_wp2
  go_end0
  exact ⟨rfl, rfl⟩
theorem growLists_none (w : World) (g : Nat) (h : w.cell? ⟨g, 25, none⟩ = some (.slice none 0 0)) :
  Calls Tryz.prog 91 #[.pointer (some ⟨g, 6, none⟩)] w fun e w' => e = .returned (.tuple #[]) ∧ w = w' := by
 go_enter Tryz.func91, Tryz.ntmps91
 go_wp2
 go_loopw [2] (fun i wr => i = .int .i64 0 ∧ wr = w) (fun _ _ => 0)
 case atStart => exact ⟨rfl, rfl⟩
 case round =>
  obtain ⟨rfl, rfl⟩ := hrel
  go_wp2
  go_end0
  exact ⟨rfl, rfl⟩
theorem intactRows_none (w : World) (g : Nat) (h : w.cell? ⟨g, 26, none⟩ = some (.slice none 0 0)) :
  Calls Tryz.prog 39 #[.pointer (some ⟨g, 6, none⟩)] w fun e w' => e = .returned (.bool true) ∧ w = w' := by
 go_enter Tryz.func39, Tryz.ntmps39
 go_wp2
 go_loopw [3] (fun i wr => i = .int .i64 0 ∧ wr = w) (fun _ _ => 0)
 case atStart => exact ⟨rfl, rfl⟩
 case round =>
  obtain ⟨rfl, rfl⟩ := hrel
  go_wp2
  go_ret
  exact ⟨rfl, rfl⟩
theorem fillRows_none (w : World) (g : Nat) (h : w.cell? ⟨g, 26, none⟩ = some (.slice none 0 0)) :
  Calls Tryz.prog 72 #[.pointer (some ⟨g, 6, none⟩)] w fun e w' => e = .returned (.tuple #[]) ∧ w = w' := by
 go_enter Tryz.func72, Tryz.ntmps72
 go_wp2
 go_loopw [2] (fun i wr => i = .int .i64 0 ∧ wr = w) (fun _ _ => 0)
 case atStart => exact ⟨rfl, rfl⟩
 case round =>
  obtain ⟨rfl, rfl⟩ := hrel
  go_wp2
  go_end0
  exact ⟨rfl, rfl⟩
theorem growRows_none (w : World) (g : Nat) (h : w.cell? ⟨g, 26, none⟩ = some (.slice none 0 0)) :
  Calls Tryz.prog 92 #[.pointer (some ⟨g, 6, none⟩)] w fun e w' => e = .returned (.tuple #[]) ∧ w = w' := by
 go_enter Tryz.func92, Tryz.ntmps92
 go_wp2
 go_loopw [2] (fun i wr => i = .int .i64 0 ∧ wr = w) (fun _ _ => 0)
 case atStart => exact ⟨rfl, rfl⟩
 case round =>
  obtain ⟨rfl, rfl⟩ := hrel
  go_wp2
  go_end0
  exact ⟨rfl, rfl⟩
def StepB (f g : Nat) (R R' : World → Prop) : Prop := ∀ w, R w → Calls Tryz.prog f #[.pointer (some ⟨g, 6, none⟩)] w fun e w' => e = .returned (.tuple #[]) ∧ R' w'
def LookB (f g : Nat) (R : World → Prop) : Prop := ∀ w, R w → Calls Tryz.prog f #[.pointer (some ⟨g, 6, none⟩)] w fun e w' => e = .returned (.bool true) ∧ R w'
def LooksB (g : Nat) (R : World → Prop) : Prop := LookB 20 g R ∧ LookB 21 g R ∧ LookB 22 g R ∧ LookB 23 g R ∧ LookB 24 g R ∧ LookB 25 g R ∧ LookB 26 g R ∧ LookB 27 g R ∧ LookB 28 g R ∧ LookB 29 g R ∧ LookB 30 g R ∧ LookB 31 g R ∧ LookB 32 g R ∧ LookB 33 g R ∧ LookB 34 g R ∧ LookB 35 g R ∧ LookB 36 g R ∧ LookB 37 g R ∧ LookB 38 g R ∧ LookB 39 g R
set_option maxHeartbeats 2000000 in
theorem Intact_calls (g : Nat) (R : World → Prop) (hR : LooksB g R) : LookB 10 g R := by
 intro w h
 have HR := Lib.hid hR
 have H0 := Lib.hid h
 clear hR h
 go_enter Tryz.func10, Tryz.ntmps10
 go_wp2_with fail
 refine (HR.out.1 w H0.out).mono ?_
 rintro e w1 ⟨rfl, h⟩
 have H1 := Lib.hid h
 clear h H0
 go_wp2_with fail
 refine (HR.out.2.1 w1 H1.out).mono ?_
 rintro e w2 ⟨rfl, h⟩
 have H2 := Lib.hid h
 clear h H1
 go_wp2_with fail
 refine (HR.out.2.2.1 w2 H2.out).mono ?_
 rintro e w3 ⟨rfl, h⟩
 have H3 := Lib.hid h
 clear h H2
 go_wp2_with fail
 refine (HR.out.2.2.2.1 w3 H3.out).mono ?_
 rintro e w4 ⟨rfl, h⟩
 have H4 := Lib.hid h
 clear h H3
 go_wp2_with fail
 refine (HR.out.2.2.2.2.1 w4 H4.out).mono ?_
 rintro e w5 ⟨rfl, h⟩
 have H5 := Lib.hid h
 clear h H4
 go_wp2_with fail
 refine (HR.out.2.2.2.2.2.1 w5 H5.out).mono ?_
 rintro e w6 ⟨rfl, h⟩
 have H6 := Lib.hid h
 clear h H5
 go_wp2_with fail
 refine (HR.out.2.2.2.2.2.2.1 w6 H6.out).mono ?_
 rintro e w7 ⟨rfl, h⟩
 have H7 := Lib.hid h
 clear h H6
 go_wp2_with fail
 refine (HR.out.2.2.2.2.2.2.2.1 w7 H7.out).mono ?_
 rintro e w8 ⟨rfl, h⟩
 have H8 := Lib.hid h
 clear h H7
 go_wp2_with fail
 refine (HR.out.2.2.2.2.2.2.2.2.1 w8 H8.out).mono ?_
 rintro e w9 ⟨rfl, h⟩
 have H9 := Lib.hid h
 clear h H8
 go_wp2_with fail
 refine (HR.out.2.2.2.2.2.2.2.2.2.1 w9 H9.out).mono ?_
 rintro e w10 ⟨rfl, h⟩
 have H10 := Lib.hid h
 clear h H9
 go_wp2_with fail
 refine (HR.out.2.2.2.2.2.2.2.2.2.2.1 w10 H10.out).mono ?_
 rintro e w11 ⟨rfl, h⟩
 have H11 := Lib.hid h
 clear h H10
 go_wp2_with fail
 refine (HR.out.2.2.2.2.2.2.2.2.2.2.2.1 w11 H11.out).mono ?_
 rintro e w12 ⟨rfl, h⟩
 have H12 := Lib.hid h
 clear h H11
 go_wp2_with fail
 refine (HR.out.2.2.2.2.2.2.2.2.2.2.2.2.1 w12 H12.out).mono ?_
 rintro e w13 ⟨rfl, h⟩
 have H13 := Lib.hid h
 clear h H12
 go_wp2_with fail
 refine (HR.out.2.2.2.2.2.2.2.2.2.2.2.2.2.1 w13 H13.out).mono ?_
 rintro e w14 ⟨rfl, h⟩
 have H14 := Lib.hid h
 clear h H13
 go_wp2_with fail
 refine (HR.out.2.2.2.2.2.2.2.2.2.2.2.2.2.2.1 w14 H14.out).mono ?_
 rintro e w15 ⟨rfl, h⟩
 have H15 := Lib.hid h
 clear h H14
 go_wp2_with fail
 refine (HR.out.2.2.2.2.2.2.2.2.2.2.2.2.2.2.2.1 w15 H15.out).mono ?_
 rintro e w16 ⟨rfl, h⟩
 have H16 := Lib.hid h
 clear h H15
 go_wp2_with fail
 refine (HR.out.2.2.2.2.2.2.2.2.2.2.2.2.2.2.2.2.1 w16 H16.out).mono ?_
 rintro e w17 ⟨rfl, h⟩
 have H17 := Lib.hid h
 clear h H16
 go_wp2_with fail
 refine (HR.out.2.2.2.2.2.2.2.2.2.2.2.2.2.2.2.2.2.1 w17 H17.out).mono ?_
 rintro e w18 ⟨rfl, h⟩
 have H18 := Lib.hid h
 clear h H17
 go_wp2_with fail
 refine (HR.out.2.2.2.2.2.2.2.2.2.2.2.2.2.2.2.2.2.2.1 w18 H18.out).mono ?_
 rintro e w19 ⟨rfl, h⟩
 have H19 := Lib.hid h
 clear h H18
 go_wp2_with fail
 refine (HR.out.2.2.2.2.2.2.2.2.2.2.2.2.2.2.2.2.2.2.2 w19 H19.out).mono ?_
 rintro e w20 ⟨rfl, h⟩
 have H20 := Lib.hid h
 clear h H19
 go_wp2_with fail
 go_ret
 exact ⟨rfl, H20.out⟩
def FillsB (g : Nat) (R : Nat → World → Prop) : Prop := StepB 53 g (R 0) (R 1) ∧ StepB 54 g (R 1) (R 2) ∧ StepB 55 g (R 2) (R 3) ∧ StepB 56 g (R 3) (R 4) ∧ StepB 57 g (R 4) (R 5) ∧ StepB 58 g (R 5) (R 6) ∧ StepB 59 g (R 6) (R 7) ∧ StepB 60 g (R 7) (R 8) ∧ StepB 61 g (R 8) (R 9) ∧ StepB 62 g (R 9) (R 10) ∧ StepB 63 g (R 10) (R 11) ∧ StepB 64 g (R 11) (R 12) ∧ StepB 65 g (R 12) (R 13) ∧ StepB 66 g (R 13) (R 14) ∧ StepB 67 g (R 14) (R 15) ∧ StepB 68 g (R 15) (R 16) ∧ StepB 69 g (R 16) (R 17) ∧ StepB 70 g (R 17) (R 18) ∧ StepB 71 g (R 18) (R 19) ∧ StepB 72 g (R 19) (R 20)
def GrowsB (g : Nat) (R : Nat → World → Prop) : Prop := StepB 73 g (R 20) (R 21) ∧ StepB 74 g (R 21) (R 22) ∧ StepB 75 g (R 22) (R 23) ∧ StepB 76 g (R 23) (R 24) ∧ StepB 77 g (R 24) (R 25) ∧ StepB 78 g (R 25) (R 26) ∧ StepB 79 g (R 26) (R 27) ∧ StepB 80 g (R 27) (R 28) ∧ StepB 81 g (R 28) (R 29) ∧ StepB 82 g (R 29) (R 30) ∧ StepB 83 g (R 30) (R 31) ∧ StepB 84 g (R 31) (R 32) ∧ StepB 85 g (R 32) (R 33) ∧ StepB 86 g (R 33) (R 34) ∧ StepB 87 g (R 34) (R 35) ∧ StepB 88 g (R 35) (R 36) ∧ StepB 89 g (R 36) (R 37) ∧ StepB 90 g (R 37) (R 38) ∧ StepB 91 g (R 38) (R 39) ∧ StepB 92 g (R 39) (R 40)
set_option maxHeartbeats 4000000 in
theorem Settle_calls (g : Nat) (R : Nat → World → Prop) (h1 : LooksB g (R 0)) (h2 : FillsB g R) (h3 : GrowsB g R) (h4 : LooksB g (R 40)) (w : World) (h : R 0 w) :
  Calls Tryz.prog 16 #[.pointer (some ⟨g, 6, none⟩)] w fun e w' => e = .returned (.bool true) ∧ R 40 w' := by
 have HR := Lib.hid (And.intro h1 (And.intro h2 (And.intro h3 h4)))
 have H := Lib.hid h
 clear h1 h2 h3 h4 h
 go_enter Tryz.func16, Tryz.ntmps16
 go_wp2_with fail
 refine (Intact_calls g (R 0) HR.out.1 w H.out).mono ?_
 rintro e w0 ⟨rfl, h⟩
 have H0 := Lib.hid h
 clear h H
 go_wp2_with fail
 refine (HR.out.2.1.1 w0 H0.out).mono ?_
 rintro e w1 ⟨rfl, h⟩
 have H1 := Lib.hid h
 clear h H0
 go_wp2_with fail
 refine (HR.out.2.1.2.1 w1 H1.out).mono ?_
 rintro e w2 ⟨rfl, h⟩
 have H2 := Lib.hid h
 clear h H1
 go_wp2_with fail
 refine (HR.out.2.1.2.2.1 w2 H2.out).mono ?_
 rintro e w3 ⟨rfl, h⟩
 have H3 := Lib.hid h
 clear h H2
 go_wp2_with fail
 refine (HR.out.2.1.2.2.2.1 w3 H3.out).mono ?_
 rintro e w4 ⟨rfl, h⟩
 have H4 := Lib.hid h
 clear h H3
 go_wp2_with fail
 refine (HR.out.2.1.2.2.2.2.1 w4 H4.out).mono ?_
 rintro e w5 ⟨rfl, h⟩
 have H5 := Lib.hid h
 clear h H4
 go_wp2_with fail
 refine (HR.out.2.1.2.2.2.2.2.1 w5 H5.out).mono ?_
 rintro e w6 ⟨rfl, h⟩
 have H6 := Lib.hid h
 clear h H5
 go_wp2_with fail
 refine (HR.out.2.1.2.2.2.2.2.2.1 w6 H6.out).mono ?_
 rintro e w7 ⟨rfl, h⟩
 have H7 := Lib.hid h
 clear h H6
 go_wp2_with fail
 refine (HR.out.2.1.2.2.2.2.2.2.2.1 w7 H7.out).mono ?_
 rintro e w8 ⟨rfl, h⟩
 have H8 := Lib.hid h
 clear h H7
 go_wp2_with fail
 refine (HR.out.2.1.2.2.2.2.2.2.2.2.1 w8 H8.out).mono ?_
 rintro e w9 ⟨rfl, h⟩
 have H9 := Lib.hid h
 clear h H8
 go_wp2_with fail
 refine (HR.out.2.1.2.2.2.2.2.2.2.2.2.1 w9 H9.out).mono ?_
 rintro e w10 ⟨rfl, h⟩
 have H10 := Lib.hid h
 clear h H9
 go_wp2_with fail
 refine (HR.out.2.1.2.2.2.2.2.2.2.2.2.2.1 w10 H10.out).mono ?_
 rintro e w11 ⟨rfl, h⟩
 have H11 := Lib.hid h
 clear h H10
 go_wp2_with fail
 refine (HR.out.2.1.2.2.2.2.2.2.2.2.2.2.2.1 w11 H11.out).mono ?_
 rintro e w12 ⟨rfl, h⟩
 have H12 := Lib.hid h
 clear h H11
 go_wp2_with fail
 refine (HR.out.2.1.2.2.2.2.2.2.2.2.2.2.2.2.1 w12 H12.out).mono ?_
 rintro e w13 ⟨rfl, h⟩
 have H13 := Lib.hid h
 clear h H12
 go_wp2_with fail
 refine (HR.out.2.1.2.2.2.2.2.2.2.2.2.2.2.2.2.1 w13 H13.out).mono ?_
 rintro e w14 ⟨rfl, h⟩
 have H14 := Lib.hid h
 clear h H13
 go_wp2_with fail
 refine (HR.out.2.1.2.2.2.2.2.2.2.2.2.2.2.2.2.2.1 w14 H14.out).mono ?_
 rintro e w15 ⟨rfl, h⟩
 have H15 := Lib.hid h
 clear h H14
 go_wp2_with fail
 refine (HR.out.2.1.2.2.2.2.2.2.2.2.2.2.2.2.2.2.2.1 w15 H15.out).mono ?_
 rintro e w16 ⟨rfl, h⟩
 have H16 := Lib.hid h
 clear h H15
 go_wp2_with fail
 refine (HR.out.2.1.2.2.2.2.2.2.2.2.2.2.2.2.2.2.2.2.1 w16 H16.out).mono ?_
 rintro e w17 ⟨rfl, h⟩
 have H17 := Lib.hid h
 clear h H16
 go_wp2_with fail
 refine (HR.out.2.1.2.2.2.2.2.2.2.2.2.2.2.2.2.2.2.2.2.1 w17 H17.out).mono ?_
 rintro e w18 ⟨rfl, h⟩
 have H18 := Lib.hid h
 clear h H17
 go_wp2_with fail
 refine (HR.out.2.1.2.2.2.2.2.2.2.2.2.2.2.2.2.2.2.2.2.2.1 w18 H18.out).mono ?_
 rintro e w19 ⟨rfl, h⟩
 have H19 := Lib.hid h
 clear h H18
 go_wp2_with fail
 refine (HR.out.2.1.2.2.2.2.2.2.2.2.2.2.2.2.2.2.2.2.2.2.2 w19 H19.out).mono ?_
 rintro e w20 ⟨rfl, h⟩
 have H20 := Lib.hid h
 clear h H19
 go_wp2_with fail
 refine (HR.out.2.2.1.1 w20 H20.out).mono ?_
 rintro e w21 ⟨rfl, h⟩
 have H21 := Lib.hid h
 clear h H20
 go_wp2_with fail
 refine (HR.out.2.2.1.2.1 w21 H21.out).mono ?_
 rintro e w22 ⟨rfl, h⟩
 have H22 := Lib.hid h
 clear h H21
 go_wp2_with fail
 refine (HR.out.2.2.1.2.2.1 w22 H22.out).mono ?_
 rintro e w23 ⟨rfl, h⟩
 have H23 := Lib.hid h
 clear h H22
 go_wp2_with fail
 refine (HR.out.2.2.1.2.2.2.1 w23 H23.out).mono ?_
 rintro e w24 ⟨rfl, h⟩
 have H24 := Lib.hid h
 clear h H23
 go_wp2_with fail
 refine (HR.out.2.2.1.2.2.2.2.1 w24 H24.out).mono ?_
 rintro e w25 ⟨rfl, h⟩
 have H25 := Lib.hid h
 clear h H24
 go_wp2_with fail
 refine (HR.out.2.2.1.2.2.2.2.2.1 w25 H25.out).mono ?_
 rintro e w26 ⟨rfl, h⟩
 have H26 := Lib.hid h
 clear h H25
 go_wp2_with fail
 refine (HR.out.2.2.1.2.2.2.2.2.2.1 w26 H26.out).mono ?_
 rintro e w27 ⟨rfl, h⟩
 have H27 := Lib.hid h
 clear h H26
 go_wp2_with fail
 refine (HR.out.2.2.1.2.2.2.2.2.2.2.1 w27 H27.out).mono ?_
 rintro e w28 ⟨rfl, h⟩
 have H28 := Lib.hid h
 clear h H27
 go_wp2_with fail
 refine (HR.out.2.2.1.2.2.2.2.2.2.2.2.1 w28 H28.out).mono ?_
 rintro e w29 ⟨rfl, h⟩
 have H29 := Lib.hid h
 clear h H28
 go_wp2_with fail
 refine (HR.out.2.2.1.2.2.2.2.2.2.2.2.2.1 w29 H29.out).mono ?_
 rintro e w30 ⟨rfl, h⟩
 have H30 := Lib.hid h
 clear h H29
 go_wp2_with fail
 refine (HR.out.2.2.1.2.2.2.2.2.2.2.2.2.2.1 w30 H30.out).mono ?_
 rintro e w31 ⟨rfl, h⟩
 have H31 := Lib.hid h
 clear h H30
 go_wp2_with fail
 refine (HR.out.2.2.1.2.2.2.2.2.2.2.2.2.2.2.1 w31 H31.out).mono ?_
 rintro e w32 ⟨rfl, h⟩
 have H32 := Lib.hid h
 clear h H31
 go_wp2_with fail
 refine (HR.out.2.2.1.2.2.2.2.2.2.2.2.2.2.2.2.1 w32 H32.out).mono ?_
 rintro e w33 ⟨rfl, h⟩
 have H33 := Lib.hid h
 clear h H32
 go_wp2_with fail
 refine (HR.out.2.2.1.2.2.2.2.2.2.2.2.2.2.2.2.2.1 w33 H33.out).mono ?_
 rintro e w34 ⟨rfl, h⟩
 have H34 := Lib.hid h
 clear h H33
 go_wp2_with fail
 refine (HR.out.2.2.1.2.2.2.2.2.2.2.2.2.2.2.2.2.2.1 w34 H34.out).mono ?_
 rintro e w35 ⟨rfl, h⟩
 have H35 := Lib.hid h
 clear h H34
 go_wp2_with fail
 refine (HR.out.2.2.1.2.2.2.2.2.2.2.2.2.2.2.2.2.2.2.1 w35 H35.out).mono ?_
 rintro e w36 ⟨rfl, h⟩
 have H36 := Lib.hid h
 clear h H35
 go_wp2_with fail
 refine (HR.out.2.2.1.2.2.2.2.2.2.2.2.2.2.2.2.2.2.2.2.1 w36 H36.out).mono ?_
 rintro e w37 ⟨rfl, h⟩
 have H37 := Lib.hid h
 clear h H36
 go_wp2_with fail
 refine (HR.out.2.2.1.2.2.2.2.2.2.2.2.2.2.2.2.2.2.2.2.2.1 w37 H37.out).mono ?_
 rintro e w38 ⟨rfl, h⟩
 have H38 := Lib.hid h
 clear h H37
 go_wp2_with fail
 refine (HR.out.2.2.1.2.2.2.2.2.2.2.2.2.2.2.2.2.2.2.2.2.2.1 w38 H38.out).mono ?_
 rintro e w39 ⟨rfl, h⟩
 have H39 := Lib.hid h
 clear h H38
 go_wp2_with fail
 refine (HR.out.2.2.1.2.2.2.2.2.2.2.2.2.2.2.2.2.2.2.2.2.2.2 w39 H39.out).mono ?_
 rintro e w40 ⟨rfl, h⟩
 have H40 := Lib.hid h
 clear h H39
 go_wp2_with fail
 refine (Intact_calls g (R 40) HR.out.2.2.2 w40 H40.out).mono ?_
 rintro e w41 ⟨rfl, h⟩
 have H41 := Lib.hid h
 clear h H40
 go_wp2_with fail
 go_ret
 exact ⟨rfl, H41.out⟩
end Go.Proofs.YtekcoeonlfmebaaGreatDoor.Kit
