/- daily: the searches for a day. -/
import Derived.Test.YtejmndfdmikfaaaDoorSearch
import Derived.Test.YtejmndfdmikfaaaDoorSlices
import Derived.Test.YtejmndfdmikfaaaDoorDailyN
import Derived.Test.YtejmndfdmikfaaaDoorLine
namespace Go.Proofs.YtejmndfdmikfaaaDoor.Kit
open Go Go.RowKit Go.Sort

theorem Kp.of_below {w w' : World} (h : Below w.heap.size w w') : New w w' := ⟨h.os, h.tape, h.output, h.size, fun k hk _ => h.block k hk⟩
/-- An entry of amounts: a day and a slice. -/
def gcells (x : Int × Sl Int) : List Value := [.int .i64 x.1, x.2.val]
/-- An entry of sums: a day, a change, a balance. -/
def dcells (x : Int × Int × Int) : List Value := [.int .i64 x.1, .int .i64 x.2.1, .int .i64 x.2.2]
theorem gcells_len (x : Int × Sl Int) : (gcells x).length = 2 := rfl
theorem dcells_len (x : Int × Int × Int) : (dcells x).length = 3 := rfl
theorem gcells_one (xs : List (Int × Sl Int)) : ∀ u ∈ xs.flatMap gcells, u.oneCell' = true := by
  intro u hu
  obtain ⟨p, _, hp⟩ := List.mem_flatMap.1 hu
  simp only [gcells, Sl.val, List.mem_cons, List.not_mem_nil, or_false] at hp
  rcases hp with h | h <;> subst h <;> rfl
theorem dcells_one (xs : List (Int × Int × Int)) : ∀ u ∈ xs.flatMap dcells, u.oneCell' = true := by
  intro u hu
  obtain ⟨p, _, hp⟩ := List.mem_flatMap.1 hu
  simp only [dcells, List.mem_cons, List.not_mem_nil, or_false] at hp
  rcases hp with h | h | h <;> subst h <;> rfl
theorem count_range {α : Type} (xs : List α) (day : α → Int) (q : Int → Bool) (n : Nat) (hn : n = xs.length) (P : Nat → Bool) (hP : ∀ i x, xs[i]? = some x → P i = q (day x)) : (List.range n).countP (fun i => !P i) = xs.countP fun x => !q (day x) := by
  subst hn
  have h : xs.map day = (List.range xs.length).map fun i => (xs.map day).getD i 0 := by
    apply List.ext_getElem
    · simp
    · intro i h1 h2
      simp only [List.length_map] at h1
      simp [h1]
  have e1 : xs.countP (fun x => !q (day x)) = (xs.map day).countP fun y => !q y := by rw [List.countP_map]; rfl
  rw [e1, h, List.countP_map]
  refine List.countP_congr fun i hi => ?_
  have hlt := List.mem_range.1 hi
  have := hP i _ (List.getElem?_eq_getElem hlt)
  simp [this, hlt]
set_option maxHeartbeats 1000000 in
theorem placeG_calls (W : World) (b1 b2 g off n c i : Nat) (x d : Int) (hi : i < n) (h1 : W.cell? ⟨b1, 0, none⟩ = some (.slice (some ⟨g, off, none⟩) n c)) (h2 : W.cell? ⟨b2, 0, none⟩ = some (.int .i64 d)) (h3 : W.cell? ⟨g, off + i * 2, none⟩ = some (.int .i64 x)) :
    Calls Tryd.prog 87 (#[.int .i64 i] ++ #[.pointer (some ⟨b1, 0, none⟩), .pointer (some ⟨b2, 0, none⟩)]) W fun e w' => e = .returned (.bool (decide (d ≤ x))) ∧ ∃ q, w' = W.drewN q := by
  have hmo : Tryd.prog.follows Departure.mixedOrders = true := by kernel_rfl
  have hki : (i : Int) < (n : Int) := by omega
  have hk0 : (0 : Int) ≤ i := by omega
  go_enter Tryd.func87, Tryd.ntmps87
  go_wp2_with fail
  refine wp_region_line (fun w' => w'.cell? ⟨b1, 0, none⟩ = some (.slice (some ⟨g, off, none⟩) n c) ∧ w'.cell? ⟨b2, 0, none⟩ = some (.int .i64 d) ∧ w'.cell? ⟨g, off + i * 2, none⟩ = some (.int .i64 x)) (pl := [(0, true), (1, true), (2, true), (3, true), (4, true), (5, true), (6, true), (7, true)]) hmo (by kernel_rfl) ⟨by simpa using h1, by simpa using h2, by simpa using h3⟩ ?_
  iterate 8 (refine line_get rfl rfl (fun K hK => ?_); apply Exists.intro; refine ⟨fun w hS => ?_, ?_⟩; (first | (have hS' := hS rfl; go_simp; with_reducible rfl) | (go_simp; with_reducible rfl)); (go_simp; refine hK _ ?_; clear hK K))
  refine line_nil ?_
  go_wp2_with fail
  go_ret
  exact ⟨rfl, 1, rfl⟩
set_option maxHeartbeats 1000000 in
theorem placeD_calls (W : World) (b1 b2 g off n c i : Nat) (x d : Int) (hi : i < n) (h1 : W.cell? ⟨b1, 0, none⟩ = some (.slice (some ⟨g, off, none⟩) n c)) (h2 : W.cell? ⟨b2, 0, none⟩ = some (.int .i64 d)) (h3 : W.cell? ⟨g, off + i * 3, none⟩ = some (.int .i64 x)) :
    Calls Tryd.prog 63 (#[.int .i64 i] ++ #[.pointer (some ⟨b1, 0, none⟩), .pointer (some ⟨b2, 0, none⟩)]) W fun e w' => e = .returned (.bool (decide (d ≤ x))) ∧ ∃ q, w' = W.drewN q := by
  have hmo : Tryd.prog.follows Departure.mixedOrders = true := by kernel_rfl
  have hki : (i : Int) < (n : Int) := by omega
  have hk0 : (0 : Int) ≤ i := by omega
  go_enter Tryd.func63, Tryd.ntmps63
  go_wp2_with fail
  refine wp_region_line (fun w' => w'.cell? ⟨b1, 0, none⟩ = some (.slice (some ⟨g, off, none⟩) n c) ∧ w'.cell? ⟨b2, 0, none⟩ = some (.int .i64 d) ∧ w'.cell? ⟨g, off + i * 3, none⟩ = some (.int .i64 x)) (pl := [(0, true), (1, true), (2, true), (3, true), (4, true), (5, true), (6, true), (7, true)]) hmo (by kernel_rfl) ⟨by simpa using h1, by simpa using h2, by simpa using h3⟩ ?_
  iterate 8 (refine line_get rfl rfl (fun K hK => ?_); apply Exists.intro; refine ⟨fun w hS => ?_, ?_⟩; (first | (have hS' := hS rfl; go_simp; with_reducible rfl) | (go_simp; with_reducible rfl)); (go_simp; refine hK _ ?_; clear hK K))
  refine line_nil ?_
  go_wp2_with fail
  go_ret
  exact ⟨rfl, 1, rfl⟩
set_option maxHeartbeats 1000000 in
theorem atC_calls (W : World) (b1 b2 g off n c i : Nat) (x d : Int) (hi : i < n) (h1 : W.cell? ⟨b1, 0, none⟩ = some (.slice (some ⟨g, off, none⟩) n c)) (h2 : W.cell? ⟨b2, 0, none⟩ = some (.int .i64 d)) (h3 : W.cell? ⟨g, off + i * 3, none⟩ = some (.int .i64 x)) :
    Calls Tryd.prog 46 (#[.int .i64 i] ++ #[.pointer (some ⟨b1, 0, none⟩), .pointer (some ⟨b2, 0, none⟩)]) W fun e w' => e = .returned (.bool (decide (d < x))) ∧ ∃ q, w' = W.drewN q := by
  have hmo : Tryd.prog.follows Departure.mixedOrders = true := by kernel_rfl
  have hki : (i : Int) < (n : Int) := by omega
  have hk0 : (0 : Int) ≤ i := by omega
  go_enter Tryd.func46, Tryd.ntmps46
  go_wp2_with fail
  refine wp_region_line (fun w' => w'.cell? ⟨b1, 0, none⟩ = some (.slice (some ⟨g, off, none⟩) n c) ∧ w'.cell? ⟨b2, 0, none⟩ = some (.int .i64 d) ∧ w'.cell? ⟨g, off + i * 3, none⟩ = some (.int .i64 x)) (pl := [(0, true), (1, true), (2, true), (3, true), (4, true), (5, true), (6, true), (7, true)]) hmo (by kernel_rfl) ⟨by simpa using h1, by simpa using h2, by simpa using h3⟩ ?_
  iterate 8 (refine line_get rfl rfl (fun K hK => ?_); apply Exists.intro; refine ⟨fun w hS => ?_, ?_⟩; (first | (have hS' := hS rfl; go_simp; with_reducible rfl) | (go_simp; with_reducible rfl)); (go_simp; refine hK _ ?_; clear hK K))
  refine line_nil ?_
  go_wp2_with fail
  go_ret
  exact ⟨rfl, 1, rfl⟩
set_option maxHeartbeats 1000000 in
theorem betC_calls (W : World) (b1 b2 g off n c i : Nat) (x d : Int) (hi : i < n) (h1 : W.cell? ⟨b1, 0, none⟩ = some (.slice (some ⟨g, off, none⟩) n c)) (h2 : W.cell? ⟨b2, 0, none⟩ = some (.int .i64 d)) (h3 : W.cell? ⟨g, off + i * 3, none⟩ = some (.int .i64 x)) :
    Calls Tryd.prog 48 (#[.int .i64 i] ++ #[.pointer (some ⟨b1, 0, none⟩), .pointer (some ⟨b2, 0, none⟩)]) W fun e w' => e = .returned (.bool (decide (d < x))) ∧ ∃ q, w' = W.drewN q := by
  have hmo : Tryd.prog.follows Departure.mixedOrders = true := by kernel_rfl
  have hki : (i : Int) < (n : Int) := by omega
  have hk0 : (0 : Int) ≤ i := by omega
  go_enter Tryd.func48, Tryd.ntmps48
  go_wp2_with fail
  refine wp_region_line (fun w' => w'.cell? ⟨b1, 0, none⟩ = some (.slice (some ⟨g, off, none⟩) n c) ∧ w'.cell? ⟨b2, 0, none⟩ = some (.int .i64 d) ∧ w'.cell? ⟨g, off + i * 3, none⟩ = some (.int .i64 x)) (pl := [(0, true), (1, true), (2, true), (3, true), (4, true), (5, true), (6, true), (7, true)]) hmo (by kernel_rfl) ⟨by simpa using h1, by simpa using h2, by simpa using h3⟩ ?_
  iterate 8 (refine line_get rfl rfl (fun K hK => ?_); apply Exists.intro; refine ⟨fun w hS => ?_, ?_⟩; (first | (have hS' := hS rfl; go_simp; with_reducible rfl) | (go_simp; with_reducible rfl)); (go_simp; refine hK _ ?_; clear hK K))
  refine line_nil ?_
  go_wp2_with fail
  go_ret
  exact ⟨rfl, 1, rfl⟩
theorem rise_get {α : Type} {xs : List α} {day : α → Int} (h : xs.Pairwise fun a b => day a < day b) {i j : Nat} {x y : α} (hi : xs[i]? = some x) (hj : xs[j]? = some y) (hij : i ≤ j) : day x ≤ day y := by
  rcases Nat.lt_or_eq_of_le hij with h1 | rfl
  · obtain ⟨hi1, rfl⟩ := List.getElem?_eq_some_iff.1 hi
    obtain ⟨hj1, rfl⟩ := List.getElem?_eq_some_iff.1 hj
    exact Int.le_of_lt (List.pairwise_iff_getElem.1 h i j hi1 hj1 h1)
  · rw [hi] at hj
    cases hj
    exact Int.le_refl _
theorem searchG_calls (W : World) (b1 b2 n c : Nat) (A : Option Addr) (xs : List (Int × Sl Int)) (d : Int) (h1 : W.cell? ⟨b1, 0, none⟩ = some (.slice A n c)) (h2 : W.cell? ⟨b2, 0, none⟩ = some (.int .i64 d)) (h3 : RdC W A (xs.flatMap gcells)) (hn : n = xs.length) (hr : xs.Pairwise fun a b => a.1 < b.1) (hb : n ≤ 1099511627776) :
    Calls Tryd.prog 45 #[.int .i64 n, .func (.func 87) #[] #[.pointer (some ⟨b1, 0, none⟩), .pointer (some ⟨b2, 0, none⟩)]] W fun e w' => e = .returned (.int .i64 ((xs.countP fun x => !decide (d ≤ x.1) : Nat))) ∧ New W w' := by
  have key : ∀ i, i < n → ∃ x b off, xs[i]? = some x ∧ A = some ⟨b, off, none⟩ ∧ W.cell? ⟨b, off + i * 2, none⟩ = some (.int .i64 x.1) := fun i hi => by
    obtain ⟨x, hx⟩ : ∃ x, xs[i]? = some x := ⟨_, List.getElem?_eq_getElem (by omega)⟩
    obtain ⟨b, off, e, hc⟩ := RdC.elem gcells_len h3 (by decide) hx
    exact ⟨x, b, off, hx, e, hc 0 _ rfl⟩
  have hS := Any.sort_Search Tryd.laysSlso16 87 #[.pointer (some ⟨b1, 0, none⟩), .pointer (some ⟨b2, 0, none⟩)] n (fun i => decide (d ≤ ((xs.map (·.1)).getD i 0))) W (enters_of Tryd.func87 (by kernel_rfl) rfl) (by omega)
    (fun m os i hi => by
      obtain ⟨x, b, off, hx, rfl, hc⟩ := key i hi
      have hg : ((xs.map (·.1)).getD i 0) = x.1 := by rw [List.getD_eq_getElem?_getD, List.getElem?_map, hx]; rfl
      rw [hg]
      refine (placeG_calls (grow (W.drewN m) os) b1 b2 b off n c i x.1 d hi (cell_grown (World.block_lt_of_cell? _ _ h1) h1 m os) (cell_grown (World.block_lt_of_cell? _ _ h2) h2 m os) (cell_grown (World.block_lt_of_cell? _ _ hc) hc m os)).mono ?_
      rintro e w' ⟨he, q, hq⟩
      exact ⟨he, q, #[], by rw [hq, grow_empty]⟩)
    (fun i j hij hj hp => by
      obtain ⟨x, _, _, hx, _⟩ := key i (by omega)
      obtain ⟨y, _, _, hy, _⟩ := key j hj
      have hxy := rise_get (day := fun x : Int × Sl Int => x.1) hr hx hy hij
      rw [List.getD_eq_getElem?_getD, List.getElem?_map, hx] at hp
      rw [List.getD_eq_getElem?_getD, List.getElem?_map, hy]
      simp only [Option.map_some, Option.getD_some, decide_eq_true_eq] at hp ⊢
      omega)
  rw [count_range xs (fun x => x.1) (fun y => decide (d ≤ y)) n hn _ (fun i x hx => by rw [List.getD_eq_getElem?_getD, List.getElem?_map, hx]; rfl)] at hS
  refine hS.mono ?_
  rintro e w' ⟨rfl, q, os, rfl⟩
  exact ⟨rfl, Kp.of_below (below_grown_sl W.heap.size W q os (Nat.le_refl _))⟩
theorem searchD_calls (W : World) (b1 b2 n c : Nat) (A : Option Addr) (xs : List (Int × Int × Int)) (d : Int) (h1 : W.cell? ⟨b1, 0, none⟩ = some (.slice A n c)) (h2 : W.cell? ⟨b2, 0, none⟩ = some (.int .i64 d)) (h3 : RdC W A (xs.flatMap dcells)) (hn : n = xs.length) (hr : xs.Pairwise fun a b => a.1 < b.1) (hb : n ≤ 1099511627776) :
    Calls Tryd.prog 45 #[.int .i64 n, .func (.func 63) #[] #[.pointer (some ⟨b1, 0, none⟩), .pointer (some ⟨b2, 0, none⟩)]] W fun e w' => e = .returned (.int .i64 ((xs.countP fun x => !decide (d ≤ x.1) : Nat))) ∧ New W w' := by
  have key : ∀ i, i < n → ∃ x b off, xs[i]? = some x ∧ A = some ⟨b, off, none⟩ ∧ W.cell? ⟨b, off + i * 3, none⟩ = some (.int .i64 x.1) := fun i hi => by
    obtain ⟨x, hx⟩ : ∃ x, xs[i]? = some x := ⟨_, List.getElem?_eq_getElem (by omega)⟩
    obtain ⟨b, off, e, hc⟩ := RdC.elem dcells_len h3 (by decide) hx
    exact ⟨x, b, off, hx, e, hc 0 _ rfl⟩
  have hS := Any.sort_Search Tryd.laysSlso16 63 #[.pointer (some ⟨b1, 0, none⟩), .pointer (some ⟨b2, 0, none⟩)] n (fun i => decide (d ≤ ((xs.map (·.1)).getD i 0))) W (enters_of Tryd.func63 (by kernel_rfl) rfl) (by omega)
    (fun m os i hi => by
      obtain ⟨x, b, off, hx, rfl, hc⟩ := key i hi
      have hg : ((xs.map (·.1)).getD i 0) = x.1 := by rw [List.getD_eq_getElem?_getD, List.getElem?_map, hx]; rfl
      rw [hg]
      refine (placeD_calls (grow (W.drewN m) os) b1 b2 b off n c i x.1 d hi (cell_grown (World.block_lt_of_cell? _ _ h1) h1 m os) (cell_grown (World.block_lt_of_cell? _ _ h2) h2 m os) (cell_grown (World.block_lt_of_cell? _ _ hc) hc m os)).mono ?_
      rintro e w' ⟨he, q, hq⟩
      exact ⟨he, q, #[], by rw [hq, grow_empty]⟩)
    (fun i j hij hj hp => by
      obtain ⟨x, _, _, hx, _⟩ := key i (by omega)
      obtain ⟨y, _, _, hy, _⟩ := key j hj
      have hxy := rise_get (day := fun x : Int × Int × Int => x.1) hr hx hy hij
      rw [List.getD_eq_getElem?_getD, List.getElem?_map, hx] at hp
      rw [List.getD_eq_getElem?_getD, List.getElem?_map, hy]
      simp only [Option.map_some, Option.getD_some, decide_eq_true_eq] at hp ⊢
      omega)
  rw [count_range xs (fun x => x.1) (fun y => decide (d ≤ y)) n hn _ (fun i x hx => by rw [List.getD_eq_getElem?_getD, List.getElem?_map, hx]; rfl)] at hS
  refine hS.mono ?_
  rintro e w' ⟨rfl, q, os, rfl⟩
  exact ⟨rfl, Kp.of_below (below_grown_sl W.heap.size W q os (Nat.le_refl _))⟩
theorem searchA_calls (W : World) (b1 b2 n c : Nat) (A : Option Addr) (xs : List (Int × Int × Int)) (d : Int) (h1 : W.cell? ⟨b1, 0, none⟩ = some (.slice A n c)) (h2 : W.cell? ⟨b2, 0, none⟩ = some (.int .i64 d)) (h3 : RdC W A (xs.flatMap dcells)) (hn : n = xs.length) (hr : xs.Pairwise fun a b => a.1 < b.1) (hb : n ≤ 1099511627776) :
    Calls Tryd.prog 45 #[.int .i64 n, .func (.func 46) #[] #[.pointer (some ⟨b1, 0, none⟩), .pointer (some ⟨b2, 0, none⟩)]] W fun e w' => e = .returned (.int .i64 ((xs.countP fun x => !decide (d < x.1) : Nat))) ∧ New W w' := by
  have key : ∀ i, i < n → ∃ x b off, xs[i]? = some x ∧ A = some ⟨b, off, none⟩ ∧ W.cell? ⟨b, off + i * 3, none⟩ = some (.int .i64 x.1) := fun i hi => by
    obtain ⟨x, hx⟩ : ∃ x, xs[i]? = some x := ⟨_, List.getElem?_eq_getElem (by omega)⟩
    obtain ⟨b, off, e, hc⟩ := RdC.elem dcells_len h3 (by decide) hx
    exact ⟨x, b, off, hx, e, hc 0 _ rfl⟩
  have hS := Any.sort_Search Tryd.laysSlso16 46 #[.pointer (some ⟨b1, 0, none⟩), .pointer (some ⟨b2, 0, none⟩)] n (fun i => decide (d < ((xs.map (·.1)).getD i 0))) W (enters_of Tryd.func46 (by kernel_rfl) rfl) (by omega)
    (fun m os i hi => by
      obtain ⟨x, b, off, hx, rfl, hc⟩ := key i hi
      have hg : ((xs.map (·.1)).getD i 0) = x.1 := by rw [List.getD_eq_getElem?_getD, List.getElem?_map, hx]; rfl
      rw [hg]
      refine (atC_calls (grow (W.drewN m) os) b1 b2 b off n c i x.1 d hi (cell_grown (World.block_lt_of_cell? _ _ h1) h1 m os) (cell_grown (World.block_lt_of_cell? _ _ h2) h2 m os) (cell_grown (World.block_lt_of_cell? _ _ hc) hc m os)).mono ?_
      rintro e w' ⟨he, q, hq⟩
      exact ⟨he, q, #[], by rw [hq, grow_empty]⟩)
    (fun i j hij hj hp => by
      obtain ⟨x, _, _, hx, _⟩ := key i (by omega)
      obtain ⟨y, _, _, hy, _⟩ := key j hj
      have hxy := rise_get (day := fun x : Int × Int × Int => x.1) hr hx hy hij
      rw [List.getD_eq_getElem?_getD, List.getElem?_map, hx] at hp
      rw [List.getD_eq_getElem?_getD, List.getElem?_map, hy]
      simp only [Option.map_some, Option.getD_some, decide_eq_true_eq] at hp ⊢
      omega)
  rw [count_range xs (fun x => x.1) (fun y => decide (d < y)) n hn _ (fun i x hx => by rw [List.getD_eq_getElem?_getD, List.getElem?_map, hx]; rfl)] at hS
  refine hS.mono ?_
  rintro e w' ⟨rfl, q, os, rfl⟩
  exact ⟨rfl, Kp.of_below (below_grown_sl W.heap.size W q os (Nat.le_refl _))⟩
theorem searchB_calls (W : World) (b1 b2 n c : Nat) (A : Option Addr) (xs : List (Int × Int × Int)) (d : Int) (h1 : W.cell? ⟨b1, 0, none⟩ = some (.slice A n c)) (h2 : W.cell? ⟨b2, 0, none⟩ = some (.int .i64 d)) (h3 : RdC W A (xs.flatMap dcells)) (hn : n = xs.length) (hr : xs.Pairwise fun a b => a.1 < b.1) (hb : n ≤ 1099511627776) :
    Calls Tryd.prog 45 #[.int .i64 n, .func (.func 48) #[] #[.pointer (some ⟨b1, 0, none⟩), .pointer (some ⟨b2, 0, none⟩)]] W fun e w' => e = .returned (.int .i64 ((xs.countP fun x => !decide (d < x.1) : Nat))) ∧ New W w' := by
  have key : ∀ i, i < n → ∃ x b off, xs[i]? = some x ∧ A = some ⟨b, off, none⟩ ∧ W.cell? ⟨b, off + i * 3, none⟩ = some (.int .i64 x.1) := fun i hi => by
    obtain ⟨x, hx⟩ : ∃ x, xs[i]? = some x := ⟨_, List.getElem?_eq_getElem (by omega)⟩
    obtain ⟨b, off, e, hc⟩ := RdC.elem dcells_len h3 (by decide) hx
    exact ⟨x, b, off, hx, e, hc 0 _ rfl⟩
  have hS := Any.sort_Search Tryd.laysSlso16 48 #[.pointer (some ⟨b1, 0, none⟩), .pointer (some ⟨b2, 0, none⟩)] n (fun i => decide (d < ((xs.map (·.1)).getD i 0))) W (enters_of Tryd.func48 (by kernel_rfl) rfl) (by omega)
    (fun m os i hi => by
      obtain ⟨x, b, off, hx, rfl, hc⟩ := key i hi
      have hg : ((xs.map (·.1)).getD i 0) = x.1 := by rw [List.getD_eq_getElem?_getD, List.getElem?_map, hx]; rfl
      rw [hg]
      refine (betC_calls (grow (W.drewN m) os) b1 b2 b off n c i x.1 d hi (cell_grown (World.block_lt_of_cell? _ _ h1) h1 m os) (cell_grown (World.block_lt_of_cell? _ _ h2) h2 m os) (cell_grown (World.block_lt_of_cell? _ _ hc) hc m os)).mono ?_
      rintro e w' ⟨he, q, hq⟩
      exact ⟨he, q, #[], by rw [hq, grow_empty]⟩)
    (fun i j hij hj hp => by
      obtain ⟨x, _, _, hx, _⟩ := key i (by omega)
      obtain ⟨y, _, _, hy, _⟩ := key j hj
      have hxy := rise_get (day := fun x : Int × Int × Int => x.1) hr hx hy hij
      rw [List.getD_eq_getElem?_getD, List.getElem?_map, hx] at hp
      rw [List.getD_eq_getElem?_getD, List.getElem?_map, hy]
      simp only [Option.map_some, Option.getD_some, decide_eq_true_eq] at hp ⊢
      omega)
  rw [count_range xs (fun x => x.1) (fun y => decide (d < y)) n hn _ (fun i x hx => by rw [List.getD_eq_getElem?_getD, List.getElem?_map, hx]; rfl)] at hS
  refine hS.mono ?_
  rintro e w' ⟨rfl, q, os, rfl⟩
  exact ⟨rfl, Kp.of_below (below_grown_sl W.heap.size W q os (Nat.le_refl _))⟩
set_option maxHeartbeats 1000000 in
theorem placeOfG_calls (w : World) (A : Option Addr) (n c : Nat) (xs : List (Int × Sl Int)) (d : Int) (h3 : RdC w A (xs.flatMap gcells)) (hn : n = xs.length) (hr : xs.Pairwise fun a b => a.1 < b.1) (hb : n ≤ 1099511627776) :
    Calls Tryd.prog 69 #[.slice A n c, .int .i64 d] w fun e w' => e = .returned (.int .i64 (place xs d : Nat)) ∧ New w w' := by
  obtain ⟨W0, hW0⟩ : ∃ W0, (w.alloc (.cells #[.slice A n c] 120)).alloc (.cells #[.int .i64 d] 3) = W0 := ⟨_, rfl⟩
  have n0 : New w W0 := hW0 ▸ (Kp.alloc _ _ _).trans (Kp.alloc _ _ _) (fun _ _ h => h) (fun _ _ h => h)
  have b1 : W0.cell? ⟨w.heap.size, 0, none⟩ = some (.slice A n c) := by
    rw [← hW0]
    exact New.cell (Kp.alloc _ _ _) ((cell_of_block (heap_alloc_new w _)).trans rfl)
  have b2 : W0.cell? ⟨w.heap.size + 1, 0, none⟩ = some (.int .i64 d) := by
    rw [← hW0]
    have := heap_alloc_new (w.alloc (.cells #[.slice A n c] 120)) (.cells #[.int .i64 d] 3)
    rw [World.size_alloc] at this
    exact (cell_of_block this).trans rfl
  have hS := searchG_calls W0 w.heap.size (w.heap.size + 1) n c A xs d b1 b2 (h3.new n0) hn hr hb
  have hp : place xs d = xs.countP fun x => !decide (d ≤ x.1) := by
    unfold place
    refine List.countP_congr fun x _ => ?_
    simp only [Bool.not_eq_true', decide_eq_true_eq, decide_eq_false_iff_not]
    omega
  rw [hp]
  have HN := Lib.hid n0
  have HW := Lib.hid hW0
  clear n0 b1 b2 hp h3 hr hn hW0
  go_enter Tryd.func69, Tryd.ntmps69
  go_wp2_with fail
  rw [HW.out]
  refine hS.mono ?_
  rintro e w' ⟨rfl, hn2⟩
  have HM := Lib.hid (HN.out.trans hn2 (fun _ _ h => h) (fun _ _ h => h))
  clear hn2
  go_wp2_with fail
  go_ret
  exact ⟨rfl, HM.out⟩
set_option maxHeartbeats 1000000 in
theorem placeOfD_calls (w : World) (A : Option Addr) (n c : Nat) (xs : List (Int × Int × Int)) (d : Int) (h3 : RdC w A (xs.flatMap dcells)) (hn : n = xs.length) (hr : xs.Pairwise fun a b => a.1 < b.1) (hb : n ≤ 1099511627776) :
    Calls Tryd.prog 47 #[.slice A n c, .int .i64 d] w fun e w' => e = .returned (.int .i64 (place xs d : Nat)) ∧ New w w' := by
  obtain ⟨W0, hW0⟩ : ∃ W0, (w.alloc (.cells #[.slice A n c] 98)).alloc (.cells #[.int .i64 d] 3) = W0 := ⟨_, rfl⟩
  have n0 : New w W0 := hW0 ▸ (Kp.alloc _ _ _).trans (Kp.alloc _ _ _) (fun _ _ h => h) (fun _ _ h => h)
  have b1 : W0.cell? ⟨w.heap.size, 0, none⟩ = some (.slice A n c) := by
    rw [← hW0]
    exact New.cell (Kp.alloc _ _ _) ((cell_of_block (heap_alloc_new w _)).trans rfl)
  have b2 : W0.cell? ⟨w.heap.size + 1, 0, none⟩ = some (.int .i64 d) := by
    rw [← hW0]
    have := heap_alloc_new (w.alloc (.cells #[.slice A n c] 98)) (.cells #[.int .i64 d] 3)
    rw [World.size_alloc] at this
    exact (cell_of_block this).trans rfl
  have hS := searchD_calls W0 w.heap.size (w.heap.size + 1) n c A xs d b1 b2 (h3.new n0) hn hr hb
  have hp : place xs d = xs.countP fun x => !decide (d ≤ x.1) := by
    unfold place
    refine List.countP_congr fun x _ => ?_
    simp only [Bool.not_eq_true', decide_eq_true_eq, decide_eq_false_iff_not]
    omega
  rw [hp]
  have HN := Lib.hid n0
  have HW := Lib.hid hW0
  clear n0 b1 b2 hp h3 hr hn hW0
  go_enter Tryd.func47, Tryd.ntmps47
  go_wp2_with fail
  rw [HW.out]
  refine hS.mono ?_
  rintro e w' ⟨rfl, hn2⟩
  have HM := Lib.hid (HN.out.trans hn2 (fun _ _ h => h) (fun _ _ h => h))
  clear hn2
  go_wp2_with fail
  go_ret
  exact ⟨rfl, HM.out⟩
end Go.Proofs.YtejmndfdmikfaaaDoor.Kit
