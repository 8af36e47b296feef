/- Sums.set: one balance set; the sums at and above the name, and how many stand there. -/
import Derived.Test.YtejmndfdmikfaaaDoorUp
import Derived.Test.YtejmndfdmikfaaaDoorTallyW
import Derived.Test.YtejmndfdmikfaaaDoorLine
namespace Go.Proofs.YtejmndfdmikfaaaDoor.Kit
open Go Go.RowKit Go.Shelf
attribute [local go_sem] Oper.semAt_some

/-- A view in memory, in the middle of an Apply: sums may have left the numbers. -/
structure VS (w : World) (v : Nat) (K : List (List UInt8)) (O : List UInt8 → Int) (a b c : Nat) : Prop where
  blk : w.heap[v]? = some (.cells #[.map (some a), .map (some b), .map (some c)] 73 (0, 0))
  own : ∃ l, SMap w a l ∧ IsT l O
  all : ∃ l, SMap w b l ∧ IsT l (fun n => wr (rollup K O n))
  many : ∃ l, SMap w c l ∧ IsT l (fun n => count K O n)
  cov : Covers K O
  good : ∀ k, O k ≠ 0 → goodA k = true
  ap : a ≠ b ∧ a ≠ c ∧ b ≠ c
section
variable {w w' : World} {v : Nat} {K : List (List UInt8)} {O : List UInt8 → Int} {a b c : Nat} {S : Nat → Prop}
theorem VS.kp (h : VS w v K O a b c) (hk : Kp S w w') (hS : ¬ S v ∧ ¬ S a ∧ ¬ S b ∧ ¬ S c) : VS w' v K O a b c := by
  obtain ⟨l1, m1, t1⟩ := h.own
  obtain ⟨l2, m2, t2⟩ := h.all
  obtain ⟨l3, m3, t3⟩ := h.many
  exact ⟨(hk.block v (Array.getElem?_eq_some_iff.1 h.blk).1 hS.1).trans h.blk, ⟨l1, m1.keep (hk.block a m1.lt hS.2.1), t1⟩, ⟨l2, m2.keep (hk.block b m2.lt hS.2.2.1), t2⟩, ⟨l3, m3.keep (hk.block c m3.lt hS.2.2.2), t3⟩, h.cov, h.good, h.ap⟩
theorem VS.new (h : VS w v K O a b c) (hk : New w w') : VS w' v K O a b c := h.kp hk ⟨id, id, id, id⟩
theorem VS.lt (h : VS w v K O a b c) : v < w.heap.size ∧ a < w.heap.size ∧ b < w.heap.size ∧ c < w.heap.size := by
  obtain ⟨l1, m1, _⟩ := h.own
  obtain ⟨l2, m2, _⟩ := h.all
  obtain ⟨l3, m3, _⟩ := h.many
  exact ⟨(Array.getElem?_eq_some_iff.1 h.blk).1, m1.lt, m2.lt, m3.lt⟩
theorem SMap.not_cells {w : World} {b v : Nat} {l : Prs} {cs : Array Value} {e : TypeId} {fr : Nat × Nat} (h : SMap w b l) (hv : w.heap[v]? = some (.cells cs e fr)) : v ≠ b := by
  rintro rfl
  obtain ⟨es, clock, h1, _⟩ := h
  rw [hv] at h1
  cases h1
theorem VS.ne (h : VS w v K O a b c) : v ≠ a ∧ v ≠ b ∧ v ≠ c := by
  obtain ⟨l1, m1, _⟩ := h.own
  obtain ⟨l2, m2, _⟩ := h.all
  obtain ⟨l3, m3, _⟩ := h.many
  exact ⟨m1.not_cells h.blk, m2.not_cells h.blk, m3.not_cells h.blk⟩
end

/-- What the loop of set holds between two rounds. -/
def SetI (w : World) (v a b c : Nat) (K : List (List UInt8)) (O : List UInt8 → Int) (n : List UInt8) (x : Int) (pre : List (List UInt8)) (W : World) : Prop :=
  (∃ l, SMap W a l ∧ IsT l (setO O n x)) ∧ (∃ l, SMap W b l ∧ IsT l (allF K O (x - O n) pre)) ∧ (∃ l, SMap W c l ∧ IsT l (manyF K O (stepOf (O n) x) pre)) ∧
  W.heap[v]? = some (.cells #[.map (some a), .map (some b), .map (some c)] 73 (0, 0)) ∧ Boxed W w.heap.size 27 (.pointer (some ⟨v, 0, none⟩)) ∧ Boxed W (w.heap.size + 1) 2 (.int .i64 x) ∧ Boxed W (w.heap.size + 2) 2 (.int .i64 (O n)) ∧ Boxed W (w.heap.size + 3) 3 (.int .i64 (stepOf (O n) x)) ∧
  Kp (fun k => k = a ∨ k = b ∨ k = c) w W

set_option maxRecDepth 100000 in
set_option maxHeartbeats 4000000 in
theorem set_calls (w : World) (v a b c : Nat) (M : List (List UInt8)) (O : List UInt8 → Int) (n : List UInt8) (x : Int) (hV : VS w v M O a b c) (hg : goodA n = true) (hL : Covers M (setO O n x)) (hlen : M.length ≤ 9223372036854775807) (hx : -9223372036854775808 ≤ x ∧ x ≤ 9223372036854775807) :
    Calls Tryd.prog 36 #[.pointer (some ⟨v, 0, none⟩), .string (bstr n), .int .i64 x] w fun e w' => e = .returned (.tuple #[]) ∧ VS w' v M (setO O n x) a b c ∧ Kp (fun k => k = a ∨ k = b ∨ k = c) w w' := by
  refine (callsIn_wide (n := 2)).1 ?_
  refine callsIn_of_wp_marks Tryd.func36 rfl trivial ?_ rfl
  simp only [Tryd.ntmps36, List.size_toArray, List.length_cons, List.length_nil, Nat.reduceAdd, Nat.reduceSub, Array.replicate_succ, Array.replicate_zero, List.push_toArray, List.append_toArray, List.nil_append, List.cons_append]
  have hmo : Tryd.prog.follows Departure.mixedOrders = true := by kernel_rfl
  have ht := Tryd.underlying69
  have hk := Tryd.underlying9
  have c0 : w.cell? ⟨v, 0, none⟩ = some (.map (some a)) := (cell_of_block hV.blk).trans rfl
  obtain ⟨lo, ml, tl⟩ := hV.own
  have hvl := hV.lt
  have hll : (Instr.lookup 69 (.map (some a)) (.string (bstr n)) false).run Tryd.prog ((w.alloc (.cells #[.pointer (some ⟨v, 0, none⟩)] 27)).alloc (.cells #[.int .i64 x] 2)) = .ok (.int .i64 (O n)) ((w.alloc (.cells #[.pointer (some ⟨v, 0, none⟩)] 27)).alloc (.cells #[.int .i64 x] 2)) :=
    look_num ht hk Tryd.zero_i64 ((ml.keep (Below.heap_alloc _ _ _ ml.lt)).keep (Below.heap_alloc _ _ _ (by simp; omega))) tl n
  obtain ⟨old, hold⟩ : ∃ old, O n = old := ⟨_, rfl⟩
  have HV := Lib.hid (And.intro hV (And.intro hg (And.intro hL (And.intro hlen (And.intro hold hx)))))
  rw [hold] at hll
  clear hV hg hL hold ml tl ht hk hx
  have hcase : ((old == 0) = true ∧ (old != 0) = false ∧ (x == 0) = true ∧ (x != 0) = false ∧ stepOf old x = 0) ∨ ((old == 0) = true ∧ (old != 0) = false ∧ (x == 0) = false ∧ (x != 0) = true ∧ stepOf old x = 1) ∨ ((old == 0) = false ∧ (old != 0) = true ∧ (x == 0) = true ∧ (x != 0) = false ∧ stepOf old x = -1) ∨ ((old == 0) = false ∧ (old != 0) = true ∧ (x == 0) = false ∧ (x != 0) = true ∧ stepOf old x = 0) := by
    unfold stepOf
    by_cases h1 : old = 0 <;> by_cases h2 : x = 0 <;> simp [h1, h2]
  rcases hcase with ⟨q1, q2, q3, q4, q5⟩ | ⟨q1, q2, q3, q4, q5⟩ | ⟨q1, q2, q3, q4, q5⟩ | ⟨q1, q2, q3, q4, q5⟩
  all_goals
    have HQ := Lib.hid q5
    clear q5
    gi_wp2
    obtain ⟨W7, hW7⟩ : ∃ W7, ((((w.alloc (.cells #[.pointer (some ⟨v, 0, none⟩)] 27)).alloc (.cells #[.int .i64 x] 2)).alloc (.cells #[.int .i64 old] 2)).alloc (.cells #[.int .i64 (stepOf old x)] 3)) = W7 := ⟨_, rfl⟩
    have HW := Lib.hid hW7
    rw [HQ.out] at hW7
    rw [hW7]
    clear hW7 hll c0 q1 q2 q3 q4
  all_goals
    have nW : New w W7 := HW.out ▸ (((Kp.alloc _ w _).trans (Kp.alloc _ _ _) (fun _ _ h => h) (fun _ _ h => h)).trans (Kp.alloc _ _ _) (fun _ _ h => h) (fun _ _ h => h)).trans (Kp.alloc _ _ _) (fun _ _ h => h) (fun _ _ h => h)
    have b3 : Boxed W7 w.heap.size 27 (.pointer (some ⟨v, 0, none⟩)) := HW.out ▸ (((Boxed.new w _ _).alloc _).alloc _).alloc _
    have b5 : Boxed W7 (w.heap.size + 1) 2 (.int .i64 x) := HW.out ▸ (by have := ((Boxed.new (w.alloc (.cells #[.pointer (some ⟨v, 0, none⟩)] 27)) 2 (.int .i64 x)).alloc (.cells #[.int .i64 old] 2)).alloc (.cells #[.int .i64 (stepOf old x)] 3); rwa [World.size_alloc] at this)
    have b6 : Boxed W7 (w.heap.size + 2) 2 (.int .i64 old) := HW.out ▸ (by have := (Boxed.new ((w.alloc (.cells #[.pointer (some ⟨v, 0, none⟩)] 27)).alloc (.cells #[.int .i64 x] 2)) 2 (.int .i64 old)).alloc (.cells #[.int .i64 (stepOf old x)] 3); rwa [World.size_alloc, World.size_alloc] at this)
    have b7 : Boxed W7 (w.heap.size + 3) 3 (.int .i64 (stepOf old x)) := HW.out ▸ (by have := Boxed.new (((w.alloc (.cells #[.pointer (some ⟨v, 0, none⟩)] 27)).alloc (.cells #[.int .i64 x] 2)).alloc (.cells #[.int .i64 old] 2)) 3 (.int .i64 (stepOf old x)); rwa [World.size_alloc, World.size_alloc, World.size_alloc] at this)
    have z7 : W7.heap.size = w.heap.size + 4 := by rw [← HW.out]; simp
    have c3 := b3.cell
    have c5 := b5.cell
    have c6 := b6.cell
    have v7 := HV.out.1.new nW
    have cv : W7.cell? ⟨v, 0, none⟩ = some (.map (some a)) := (cell_of_block v7.blk).trans rfl
    have H7 := Lib.hid (And.intro v7 (And.intro nW (And.intro b3 (And.intro b5 (And.intro b6 (And.intro b7 z7))))))
    clear v7 nW b3 b5 b6 b7 z7
    refine wpIn_region_lineW (fun w' => w'.cell? ⟨w.heap.size, 0, none⟩ = some (.pointer (some ⟨v, 0, none⟩)) ∧ w'.cell? ⟨v, 0, none⟩ = some (.map (some a)) ∧ w'.cell? ⟨w.heap.size + 1, 0, none⟩ = some (.int .i64 x) ∧ w'.cell? ⟨w.heap.size + 1 + 1, 0, none⟩ = some (.int .i64 old)) (pl := [(0, true), (1, true), (2, true), (3, true), (4, true), (5, true), (6, true), (7, true), (8, false)]) hmo (by kernel_rfl) ⟨by simpa using c3, by simpa using cv, by simpa using c5, by simpa using c6⟩ ?_
    iterate 8 (refine line_get rfl rfl (fun K hK => ?_); apply Exists.intro; refine ⟨fun w hS => ?_, ?_⟩; (first | (have hS' := hS rfl; go_simp; with_reducible rfl) | (go_simp; with_reducible rfl)); (go_simp; refine hK _ ?_; clear hK K))
    (refine line_doIn rfl rfl (fun K hK => ?_); go_simp)
    obtain ⟨lo7, ml7, tl7⟩ := H7.out.1.own
    refine ⟨trivial, ?_⟩
    refine (callsIn_wide.2 (add64_calls W7.drew a lo7 O n _ (ml7.keep rfl) tl7)).mono ?_
    rintro e W8 ⟨rfl, hl8, hk8⟩
    refine hK _ _ (no_need (by kernel_rfl)) ?_
    clear hK K ml7 tl7
    refine line_nil ?_
    go_simp
    have hset : setO O n (wr (O n + wr (x - old))) = setO O n x := by
      have e := HV.out.2.2.2.2
      rw [← e.1, wr_sub, wr_id e.2]
    rw [hset] at hl8
    clear hset
    have k78 : Kp (fun k => k = a) W7 W8 := (Kp.drew (fun _ => False) W7).trans hk8 (fun _ _ h => h.elim) (fun _ _ h => h)
    have H8 := Lib.hid (And.intro hl8 k78)
    clear hl8 hk8 k78 c3 c5 c6 cv
    gi_wp2_with (refine ⟨trivial, ?_⟩; gi_at_call 57; refine (callsIn_wide.2 (up_calls _ n)).mono ?_; rintro e w' ⟨rfl, rfl⟩)
    obtain ⟨W9, hW9⟩ : ∃ W9, W8.alloc (.cells #[.string (bstr n)] 9) = W9 := ⟨_, rfl⟩
    rw [hW9]
    have b9 : Boxed W9 W8.heap.size 9 (.string (bstr n)) := hW9 ▸ Boxed.new _ _ _
    have z9 : W9.heap.size = W8.heap.size + 1 := by rw [← hW9]; simp
    have k79 : Kp (fun k => k = a) W7 W9 := hW9 ▸ H8.out.2.trans (Kp.alloc (fun _ => False) _ _) (fun _ _ h => h) (fun _ _ h => h.elim)
    have z78 := H8.out.2.size
    have z7 := H7.out.2.2.2.2.2.2
    have hll9 : ∃ l', SMap W9 a l' ∧ IsT l' (setO O n x) := by
      obtain ⟨l', m', t'⟩ := H8.out.1
      exact ⟨l', m'.keep (hW9 ▸ Below.heap_alloc _ _ _ m'.lt), t'⟩
    have hne := HV.out.1.ne
    have hap := HV.out.1.ap
    have hI0 : SetI w v a b c M O n x [] W9 := by
      obtain ⟨l2, m2, t2⟩ := H7.out.1.all
      obtain ⟨l3, m3, t3⟩ := H7.out.1.many
      have e6 := H7.out.2.2.2.2.1
      rw [← HV.out.2.2.2.2.1] at e6
      have e7 := H7.out.2.2.2.2.2.1
      rw [← HV.out.2.2.2.2.1] at e7
      refine ⟨hll9, ⟨l2, m2.keep (k79.block b m2.lt (fun e => hap.1 e.symm)), by rw [allF_nil]; exact t2⟩, ⟨l3, m3.keep (k79.block c m3.lt (fun e => hap.2.1 e.symm)), by rw [manyF_nil]; exact t3⟩, (k79.block v (by omega) hne.1).trans H7.out.1.blk,
        Boxed.kp H7.out.2.2.1 k79 (by omega), Boxed.kp H7.out.2.2.2.1 k79 (by omega), Boxed.kp e6 k79 (by omega), Boxed.kp e7 k79 (by omega), H7.out.2.1.trans k79 (fun _ _ h => h.elim) (fun _ _ h => .inl h)⟩
    have H9 := Lib.hid (And.intro hI0 (And.intro b9 (And.intro z9 (And.intro k79 (And.intro z78 (And.intro z7 hne))))))
    have HAP := Lib.hid hap
    clear hI0 b9 k79 hll9 hW9 hne hap
    refine wpIn_range_state (F := Fence.wide) (n := 2) rfl (by omega) (gf := 67) (lb := #[.pointer (some ⟨W8.heap.size, 0, none⟩)]) rfl trivial (enters_of Tryd.func67 (by kernel_rfl) rfl)
      (encs := fun x : List UInt8 => #[.string (bstr x)]) (fun _ => rfl) (C := fun k => k = W8.heap.size) (T := fun k => k = b ∨ k = c) (fun k h => by omega) (fun k h => by omega) (S := fun xs => xs = ups n)
      (up_seq W9 W8.heap.size n HV.out.2.1 H9.out.2.1 (fun k => k = b ∨ k = c) (fun h => by omega))
      (SetI w v a b c M O n x) ?_ H9.out.1 ?_ ?_ ?_ ?_
    rotate_left 2
    · intro L y W K hK
      gi_wp2
      exact hK
    · intro L pre y rest W hS hi hz
      obtain ⟨h1, ⟨l2, m2, t2⟩, ⟨l3, m3, t3⟩, h4, h5, h6, h7, h8, h9⟩ := hi
      have c3 := h5.cell
      have c5 := h6.cell
      have c6 := h7.cell
      have c7 := h8.cell
      have cv1 : W.cell? ⟨v, 1, none⟩ = some (.map (some b)) := (cell_of_block h4).trans rfl
      have cv2 : W.cell? ⟨v, 2, none⟩ = some (.map (some c)) := (cell_of_block h4).trans rfl
      have HI := Lib.hid (And.intro hS (And.intro h1 (And.intro m2 (And.intro t2 (And.intro m3 (And.intro t3 (And.intro h4 (And.intro h5 (And.intro h6 (And.intro h7 (And.intro h8 h9)))))))))))
      rw [HV.out.2.2.2.2.1] at c6 c7
      clear hS h1 m2 t2 m3 t3 h4 h5 h6 h7 h8 h9
      gi_wp2
      refine wpIn_region_line (fun w' => w'.cell? ⟨w.heap.size, 0, none⟩ = some (.pointer (some ⟨v, 0, none⟩)) ∧ w'.cell? ⟨v, 1, none⟩ = some (.map (some b)) ∧ w'.cell? ⟨w.heap.size + 1, 0, none⟩ = some (.int .i64 x) ∧ w'.cell? ⟨w.heap.size + 1 + 1, 0, none⟩ = some (.int .i64 old)) (pl := [(0, true), (1, true), (2, true), (3, true), (4, true), (5, true), (6, true), (7, true), (8, false)]) hmo (by kernel_rfl) (by kernel_rfl) ⟨by simpa using c3, by simpa using cv1, by simpa using c5, by simpa using c6⟩ ?_
      iterate 8 (refine line_get rfl rfl (fun K hK => ?_); apply Exists.intro; refine ⟨fun w hS => ?_, ?_⟩; (first | (have hS' := hS rfl; go_simp; with_reducible rfl) | (go_simp; with_reducible rfl)); (go_simp; refine hK _ ?_; clear hK K))
      (refine line_do rfl rfl (fun K hK => ?_); go_simp)
      refine (add64_calls W.drew b l2 (allF M O (x - O n) pre) y _ (HI.out.2.2.1.keep rfl) HI.out.2.2.2.1).mono ?_
      rintro e W1 ⟨rfl, hl1, hk1⟩
      refine hK _ _ (no_need (by kernel_rfl)) ?_
      clear hK K
      refine line_nil ?_
      go_simp
      have k1 : Kp (fun k => k = b) W W1 := (Kp.drew (fun _ => False) W).trans hk1 (fun _ _ h => h.elim) (fun _ _ h => h)
      have d3 := (Boxed.kp HI.out.2.2.2.2.2.2.2.1 k1 (by omega)).cell
      have d7 := (Boxed.kp HI.out.2.2.2.2.2.2.2.2.2.2.1 k1 (by omega)).cell
      rw [HV.out.2.2.2.2.1] at d7
      have dv2 : W1.cell? ⟨v, 2, none⟩ = some (.map (some c)) := k1.cell_of cv2 (by show ¬ v = b; have := H9.out.2.2.2.2.2.2; omega)
      have H1 := Lib.hid (And.intro hl1 k1)
      clear hl1 hk1 k1 c3 c5 c6 c7 cv1 cv2
      gi_wp2
      refine wpIn_region_line (fun w' => w'.cell? ⟨w.heap.size, 0, none⟩ = some (.pointer (some ⟨v, 0, none⟩)) ∧ w'.cell? ⟨v, 2, none⟩ = some (.map (some c)) ∧ w'.cell? ⟨w.heap.size + 1 + 1 + 1, 0, none⟩ = some (.int .i64 (stepOf old x))) (pl := [(0, true), (1, true), (2, true), (3, true), (4, true), (5, true), (6, false)]) hmo (by kernel_rfl) (by kernel_rfl) ⟨by simpa using d3, by simpa using dv2, by simpa using d7⟩ ?_
      iterate 6 (refine line_get rfl rfl (fun K hK => ?_); apply Exists.intro; refine ⟨fun w hS => ?_, ?_⟩; (first | (have hS' := hS rfl; go_simp; with_reducible rfl) | (go_simp; with_reducible rfl)); (go_simp; refine hK _ ?_; clear hK K))
      (refine line_do rfl rfl (fun K hK => ?_); go_simp)
      refine (add_calls W1.drew c l3 (manyF M O (stepOf (O n) x) pre) y _ (HI.out.2.2.2.2.1.keep (H1.out.2.block c HI.out.2.2.2.2.1.lt (fun e => HAP.out.2.2 e.symm))) HI.out.2.2.2.2.2.1).mono ?_
      rintro e W2 ⟨rfl, hl2, hk2⟩
      refine hK _ _ (no_need (by kernel_rfl)) ?_
      clear hK K
      refine line_nil ?_
      go_simp
      have k2 : Kp (fun k => k = c) W1 W2 := (Kp.drew (fun _ => False) W1).trans hk2 (fun _ _ h => h.elim) (fun _ _ h => h)
      have k12 : Kp (fun k => k = b ∨ k = c) W W2 := H1.out.2.trans k2 (fun _ _ h => .inl h) (fun _ _ h => .inr h)
      have hmem : y ∈ ups n := by rw [← HI.out.1]; simp
      have hnot : y ∉ pre := by
        have := ups_nodup n.length n (Nat.le_refl _)
        rw [← HI.out.1, List.nodup_append] at this
        exact fun hm => this.2.2 y hm y (List.mem_cons_self ..) rfl
      have hb := many_bound HV.out.1.cov HV.out.2.2.1 HV.out.2.2.2.1 hmem
      have e := HV.out.2.2.2.2.1
      obtain ⟨l1, m1, t1⟩ := HI.out.2.1
      obtain ⟨l2', m2', t2'⟩ := H1.out.1
      obtain ⟨l3', m3', t3'⟩ := hl2
      rw [← e] at t2' t3'
      rw [allF_step _ _ _ hnot] at t2'
      rw [manyF_step _ _ _ hnot hb] at t3'
      have hne := H9.out.2.2.2.2.2.2
      have hap := HAP.out
      refine ⟨k12, ⟨l1, m1.keep (k12.block a m1.lt (by omega)), t1⟩, ⟨l2', m2'.keep (k2.block b m2'.lt (by omega)), t2'⟩, ⟨l3', m3', t3'⟩, (k12.block v (Array.getElem?_eq_some_iff.1 HI.out.2.2.2.2.2.2.1).1 (by omega)).trans HI.out.2.2.2.2.2.2.1,
        Boxed.kp HI.out.2.2.2.2.2.2.2.1 k12 (by omega), Boxed.kp HI.out.2.2.2.2.2.2.2.2.1 k12 (by omega), Boxed.kp HI.out.2.2.2.2.2.2.2.2.2.1 k12 (by omega), Boxed.kp HI.out.2.2.2.2.2.2.2.2.2.2.1 k12 (by omega), HI.out.2.2.2.2.2.2.2.2.2.2.2.trans k12 (fun _ _ h => h) (fun _ _ h => .inr h)⟩
    · intro xs W hS hi hz hd
      gi_wp2
      subst hS
      obtain ⟨⟨l1, m1, t1⟩, ⟨l2, m2, t2⟩, ⟨l3, m3, t3⟩, h4, h5, h6, h7, h8, h9⟩ := hi
      rw [allF_ups HV.out.1.cov HV.out.2.2.1] at t2
      rw [manyF_ups HV.out.1.cov HV.out.2.2.1] at t3
      have hgood : ∀ k, setO O n x k ≠ 0 → goodA k = true := by
        intro k hk
        by_cases e : k = n
        · subst e; exact HV.out.2.1
        · rw [setO_ne x e] at hk
          exact HV.out.1.good k hk
      have kd : Kp (fun k => k = W9.heap.size) W (W.putObj W9.heap.size (.deferred none)) := Kp.putObj _ _ _
      have vd : VS W v M (setO O n x) a b c := ⟨h4, ⟨l1, m1, t1⟩, ⟨l2, m2, t2⟩, ⟨l3, m3, t3⟩, HV.out.2.2.1, hgood, HV.out.1.ap⟩
      refine ⟨by simp, .inl ⟨_, _, rfl, run_takeDeferred hd, ?_⟩⟩
      exact ⟨_, results_none rfl _ _ _, rfl, vd.kp kd (by omega), h9.trans kd (fun _ _ h => h) (fun k hk h => by omega)⟩
    · rintro pre W W' ⟨⟨l1, m1, t1⟩, ⟨l2, m2, t2⟩, ⟨l3, m3, t3⟩, h4, h5, h6, h7, h8, h9⟩ hk
      exact ⟨⟨l1, m1.keep (hk.block _ m1.lt (by omega)), t1⟩, ⟨l2, m2.keep (hk.block _ m2.lt (by omega)), t2⟩, ⟨l3, m3.keep (hk.block _ m3.lt (by omega)), t3⟩, (hk.block v (Array.getElem?_eq_some_iff.1 h4).1 (by omega)).trans h4, Boxed.kp h5 hk (by omega), Boxed.kp h6 hk (by omega), Boxed.kp h7 hk (by omega), Boxed.kp h8 hk (by omega), h9.trans hk (fun _ _ h => h) (fun _ _ h => by omega)⟩
end Go.Proofs.YtejmndfdmikfaaaDoor.Kit
