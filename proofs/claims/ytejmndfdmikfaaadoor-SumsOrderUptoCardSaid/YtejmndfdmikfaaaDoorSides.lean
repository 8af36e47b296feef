/- sums.sides: debits and credits of balances, whatever their order. -/
import Derived.Test.YtejmndfdmikfaaaDoorEach
import Derived.Test.YtejmndfdmikfaaaDoorMoney
import Derived.Test.YtejmndfdmikfaaaDoorLine
import Derived.RangeFuncFrom
namespace Go.Proofs.YtejmndfdmikfaaaDoor.Kit
open Go Go.RowKit Go.Shelf
attribute [local go_sem] Oper.semAt_some

theorem results_cell3 {P : Program} {fn : Func} {p q r : Tmp} {t1 t2 t3 : TypeId} (h : fn.results = #[.cell p t1, .cell q t2, .cell r t3]) (tmps : Array Value) (w : World) {A B C : Addr} {x y z : Value}
    (hp : tmps.getD p undef = .pointer (some A)) (hq : tmps.getD q undef = .pointer (some B)) (hr : tmps.getD r undef = .pointer (some C))
    (h1 : (loadVar t1 A).run P w = .ok x w) (h2 : (loadVar t2 B).run P w = .ok y w) (h3 : (loadVar t3 C).run P w = .ok z w) :
    (results fn tmps).run P w = .ok (.tuple #[x, y, z]) w := by
  have hp' : tmps[p]?.getD undef = .pointer (some A) := by simpa using hp
  have hq' : tmps[q]?.getD undef = .pointer (some B) := by simpa using hq
  have hr' : tmps[r]?.getD undef = .pointer (some C) := by simpa using hr
  simp [results, h, hp', hq', hr', asAddr, h1, h2, h3]
theorem loadVar_box {P : Program} {t : TypeId} (ha : ∀ w, (isAgg t).run P w = .ok false w) {w : World} {A : Addr} {v : Value} (hc : w.cell? A = some v) : (loadVar t A).run P w = .ok v w := by
  simp [loadVar, ha, hc]
/-- What the loop holds: the two sides so far. -/
def SidesI (w : World) (pre : List Amt) (W : World) : Prop :=
  Boxed W (w.heap.size + 3) 2 (.int .i64 (dS (pre.map Subtype.val))) ∧ Boxed W (w.heap.size + 4) 2 (.int .i64 (cS (pre.map Subtype.val))) ∧ dS (pre.map Subtype.val) ≤ top ∧ cS (pre.map Subtype.val) ≤ top ∧
  Boxed W w.heap.size 2 (.int .i64 0) ∧ Boxed W (w.heap.size + 1) 2 (.int .i64 0) ∧ Boxed W (w.heap.size + 2) 4 (.bool false) ∧ New w W
/-- What it leaves where a side does not fit. -/
def SidesX (w : World) (c : Code) (pre : List Amt) (W : World) : Prop :=
  c = .ret ∧ ¬ (dS (pre.map Subtype.val) ≤ top ∧ cS (pre.map Subtype.val) ≤ top) ∧ Boxed W w.heap.size 2 (.int .i64 0) ∧ Boxed W (w.heap.size + 1) 2 (.int .i64 0) ∧ Boxed W (w.heap.size + 2) 4 (.bool false) ∧ New w W
theorem Boxed.far {B : Nat} {W W' : World} {row : Option Nat} {b : Nat} {t : TypeId} {v : Value} (h : Boxed W b t v) (hg : W.grownBy W' row) (hr : ∀ r, row = some r → B ≤ r ∧ ∃ o : Obj, W.heap[r]? = some o ∧ o.isCells = false) : Boxed W' b t v := by
  refine h.kept hg fun e => ?_
  obtain ⟨_, o, ho, hc⟩ := hr b e.symm
  rw [show W.heap[b]? = _ from h] at ho
  cases ho
  cases hc
theorem New.far {w : World} {B : Nat} {W W' : World} {row : Option Nat} (hw : w.heap.size ≤ B) (h : New w W) (hg : W.grownBy W' row) (hr : ∀ r, row = some r → B ≤ r ∧ ∃ o : Obj, W.heap[r]? = some o ∧ o.isCells = false) : New w W' :=
  h.trans (Kp.of_grown hg) (fun _ _ h => h) (fun k hk e => by have := (hr k e).1; omega)
theorem SidesI.kept {w : World} {B : Nat} (hw : w.heap.size ≤ B) : OwnFrom B (SidesI w) := by
  rintro s W W' row ⟨h1, h2, h3, h4, h5, h6, h7, h8⟩ hg hr
  exact ⟨Boxed.far h1 hg hr, Boxed.far h2 hg hr, h3, h4, Boxed.far h5 hg hr, Boxed.far h6 hg hr, Boxed.far h7 hg hr, New.far hw h8 hg hr⟩
theorem SidesX.kept {w : World} {B : Nat} (hw : w.heap.size ≤ B) (c : Code) : OwnFrom B (SidesX w c) := by
  rintro s W W' row ⟨h1, h2, h5, h6, h7, h8⟩ hg hr
  exact ⟨h1, h2, Boxed.far h5 hg hr, Boxed.far h6 hg hr, Boxed.far h7 hg hr, New.far hw h8 hg hr⟩
theorem amts_perm {xs : List Amt} {ys : List Int} {rest : List Value} (h : (xs.map amtV ++ rest).Perm (ys.map fun y => Value.int .i64 y)) : ∃ zs, (xs.map Subtype.val ++ zs).Perm ys := by
  have h1 := h.map intOf
  rw [List.map_append, List.map_map, List.map_map] at h1
  have e1 : xs.map (intOf ∘ amtV) = xs.map Subtype.val := List.map_congr_left fun x _ => rfl
  have e2 : ys.map (intOf ∘ fun y => Value.int .i64 y) = ys := (List.map_congr_left (g := id) fun x _ => rfl).trans (List.map_id ys)
  rw [e1, e2] at h1
  exact ⟨_, h1⟩
theorem sidesA_false {pre zs ys : List Int} (h : (pre ++ zs).Perm ys) (hn : ¬ (dS pre ≤ top ∧ cS pre ≤ top)) : sidesA ys = (0, 0, false) := by
  unfold sidesA
  rw [← dS_perm h, ← cS_perm h, dS_app, cS_app, if_neg]
  have h1 := dS_nonneg zs
  have h2 := cS_nonneg zs
  omega
theorem Boxed.other {W : World} {b B : Nat} {t : TypeId} {v u : Value} (h : Boxed W b t v) (hne : b ≠ B) : Boxed (W.setCell ⟨B, 0, none⟩ u) b t v := h.kept (grownBy_setCell' _ _ _) (by simpa using hne)
theorem New.set {w W : World} {B : Nat} (h : New w W) (hB : w.heap.size ≤ B) (u : Value) : New w (W.setCell ⟨B, 0, none⟩ u) :=
  h.trans (Kp.setCell (S := fun k => k = B) W ⟨B, 0, none⟩ u rfl) (fun _ _ h => h) (fun k hk e => by omega)
/-- One side goes on. -/
theorem SidesI.step {w W : World} {pre : List Amt} {x : Amt} {d c d' c' : Int} (hD : dS (pre.map Subtype.val) = d) (hC : cS (pre.map Subtype.val) = c) (hD' : dS ((pre ++ [x]).map Subtype.val) = d') (hC' : cS ((pre ++ [x]).map Subtype.val) = c') (h : SidesI w pre W) (hd : d' ≤ top) (hc : c' ≤ top) :
    (c' = c → SidesI w (pre ++ [x]) (W.setCell ⟨w.heap.size + 1 + 1 + 1, 0, none⟩ (.int .i64 d'))) ∧ (d' = d → SidesI w (pre ++ [x]) (W.setCell ⟨w.heap.size + 1 + 1 + 1 + 1, 0, none⟩ (.int .i64 c'))) := by
  obtain ⟨h5, h6, h7, h8, r0, r1, r2, hn⟩ := h
  rw [hD] at h5
  rw [hC] at h6
  constructor
  · intro e
    subst e
    refine ⟨?_, ?_, by rw [hD']; exact hd, by rw [hC']; exact hc, Boxed.other r0 (by omega), Boxed.other r1 (by omega), Boxed.other r2 (by omega), New.set hn (by omega) _⟩
    · rw [hD']; exact Boxed.set _ h5
    · rw [hC']; exact Boxed.other h6 (by omega)
  · intro e
    subst e
    refine ⟨?_, ?_, by rw [hD']; exact hd, by rw [hC']; exact hc, Boxed.other r0 (by omega), Boxed.other r1 (by omega), Boxed.other r2 (by omega), New.set hn (by omega) _⟩
    · rw [hD']; exact Boxed.other h5 (by omega)
    · rw [hC']; exact Boxed.set _ h6
def failW (w W : World) (B : Nat) : World := (((W.setCell ⟨B, 0, none⟩ (.int .i64 0)).setCell ⟨w.heap.size, 0, none⟩ (.int .i64 0)).setCell ⟨w.heap.size + 1, 0, none⟩ (.int .i64 0)).setCell ⟨w.heap.size + 1 + 1, 0, none⟩ (.bool false)
theorem SidesX.left {w W : World} {pre : List Amt} {x : Amt} {B : Nat} (h : SidesI w pre W) (hB : w.heap.size + 3 ≤ B) (hno : ¬ (dS ((pre ++ [x]).map Subtype.val) ≤ top ∧ cS ((pre ++ [x]).map Subtype.val) ≤ top)) :
    KeepsOthers W (failW w W B) ∧ SidesX w .ret (pre ++ [x]) (failW w W B) := by
  obtain ⟨h5, h6, h7, h8, r0, r1, r2, hn⟩ := h
  refine ⟨(((KeepsOthers.setCell _ _ _).trans (KeepsOthers.setCell _ _ _)).trans (KeepsOthers.setCell _ _ _)).trans (KeepsOthers.setCell _ _ _), rfl, hno, ?_, ?_, ?_, ?_⟩
  · exact Boxed.other (Boxed.other (Boxed.set _ (Boxed.other r0 (by omega))) (by omega)) (by omega)
  · exact Boxed.other (Boxed.set _ (Boxed.other (Boxed.other r1 (by omega)) (by omega))) (by omega)
  · exact Boxed.set _ (Boxed.other (Boxed.other (Boxed.other r2 (by omega)) (by omega)) (by omega))
  · exact New.set (New.set (New.set (New.set hn (by omega) _) (by omega) _) (by omega) _) (by omega) _
def sidesV (ys : List Int) : Value := .tuple #[.int .i64 (sidesA ys).1, .int .i64 (sidesA ys).2.1, .bool (sidesA ys).2.2]

set_option maxRecDepth 100000 in
set_option maxHeartbeats 4000000 in
theorem sides_calls (w : World) (Bb b : Nat) (l : Prs) (ys : List Int) (hB : Boxed w Bb 68 (.map (some b))) (hm : SMap w b l) (hl : l.map (·.2) = ys.map fun y => Value.int .i64 y) (hr : ∀ y ∈ ys, -top ≤ y ∧ y ≤ top) :
    Calls Tryd.prog 34 #[.func (.func 55) #[] #[.pointer (some ⟨Bb, 0, none⟩)]] w fun e w' => e = .returned (sidesV ys) ∧ New w w' := by
  refine (callsIn_wide (n := 2)).1 ?_
  refine callsIn_of_wp_marks Tryd.func34 rfl trivial ?_ rfl
  simp only [Tryd.ntmps34, List.size_toArray, List.length_cons, List.length_nil, Nat.reduceAdd, Nat.reduceSub, Array.replicate_succ, Array.replicate_zero, List.push_toArray, List.append_toArray, List.nil_append, List.cons_append]
  have hmo : Tryd.prog.follows Departure.mixedOrders = true := by kernel_rfl
  have hamt : ∀ x ∈ l, ∃ y : Amt, x.2 = amtV y := by
    intro x hx
    have : x.2 ∈ ys.map fun y => Value.int .i64 y := by rw [← hl]; exact List.mem_map_of_mem hx
    obtain ⟨y, hy, e⟩ := List.mem_map.1 this
    have := hr y hy
    unfold top at this
    exact ⟨⟨y, by omega⟩, e.symm⟩
  have HH := Lib.hid (And.intro hl hamt)
  have HB := Lib.hid (And.intro hB hm)
  clear hl hr hamt hB hm
  gi_wp2
  obtain ⟨W0, hW0⟩ : ∃ W0, ((((w.alloc (.cells #[.int .i64 0] 2)).alloc (.cells #[.int .i64 0] 2)).alloc (.cells #[.bool false] 4)).alloc (.cells #[.int .i64 0] 2)).alloc (.cells #[.int .i64 0] 2) = W0 := ⟨_, rfl⟩
  rw [hW0]
  have nW : New w W0 := hW0 ▸ ((((Kp.alloc _ w _).trans (Kp.alloc _ _ _) (fun _ _ h => h) (fun _ _ h => h)).trans (Kp.alloc _ _ _) (fun _ _ h => h) (fun _ _ h => h)).trans (Kp.alloc _ _ _) (fun _ _ h => h) (fun _ _ h => h)).trans (Kp.alloc _ _ _) (fun _ _ h => h) (fun _ _ h => h)
  have hz0 : W0.heap.size = w.heap.size + 5 := by rw [← hW0]; simp
  have hI0 : SidesI w [] W0 := by
    refine ⟨?_, ?_, by decide, by decide, ?_, ?_, ?_, nW⟩ <;> rw [← hW0]
    · have := (Boxed.new (((w.alloc (.cells #[.int .i64 0] 2)).alloc (.cells #[.int .i64 0] 2)).alloc (.cells #[.bool false] 4)) 2 (.int .i64 0)).alloc (.cells #[.int .i64 0] 2)
      rwa [World.size_alloc, World.size_alloc, World.size_alloc] at this
    · have := Boxed.new ((((w.alloc (.cells #[.int .i64 0] 2)).alloc (.cells #[.int .i64 0] 2)).alloc (.cells #[.bool false] 4)).alloc (.cells #[.int .i64 0] 2)) 2 (.int .i64 0)
      rwa [World.size_alloc, World.size_alloc, World.size_alloc, World.size_alloc] at this
    · exact ((((Boxed.new w 2 (.int .i64 0)).alloc _).alloc _).alloc _).alloc _
    · have := (((Boxed.new (w.alloc (.cells #[.int .i64 0] 2)) 2 (.int .i64 0)).alloc (.cells #[.bool false] 4)).alloc (.cells #[.int .i64 0] 2)).alloc (.cells #[.int .i64 0] 2)
      rwa [World.size_alloc] at this
    · have := ((Boxed.new ((w.alloc (.cells #[.int .i64 0] 2)).alloc (.cells #[.int .i64 0] 2)) 4 (.bool false)).alloc (.cells #[.int .i64 0] 2)).alloc (.cells #[.int .i64 0] 2)
      rwa [World.size_alloc, World.size_alloc] at this
  clear hW0
  refine wpIn_rangeFunc_ownF (F := Fence.wide) rfl (by omega) (gf := 55) (lb := #[.pointer (some ⟨Bb, 0, none⟩)]) rfl trivial (enters_of Tryd.func55 (by kernel_rfl) rfl)
    (each_stops W0 Bb b l (Boxed.kp HB.out.1 nW id) (HB.out.2.keep (nW.block b HB.out.2.lt id)) HH.out.2) walksK_t walksK_b (Below.refl _ _) (fun _ => rfl)
    (SidesI w) (SidesX w) (SidesI.kept (by omega)) (fun c => SidesX.kept (by omega) c) hI0 ?a1 ?assign ?body ?done ?stop
  case assign =>
    intro L x W K hK
    simp only [amtV]
    gi_wp2
    exact hK
  case body =>
    rintro L pre ⟨y, hy⟩ W hi hlen
    obtain ⟨h5, h6, hd, hc, r0, r1, r2, hn⟩ := id hi
    have c5 := h5.cell
    have c6 := h6.cell
    have f5 := h5.frozen
    have f6 := h6.frozen
    have e0 := r0.cell
    have e1 := r1.cell
    have e2 := r2.cell
    have g0 := r0.frozen
    have g1 := r1.frozen
    have g2 := r2.frozen
    have hd0 := dS_nonneg (pre.map Subtype.val)
    have hc0 := cS_nonneg (pre.map Subtype.val)
    have eD : dS ((pre ++ [(⟨y, hy⟩ : Amt)]).map Subtype.val) = dS (pre.map Subtype.val) + if 0 < y then y else 0 := by
      rw [List.map_append, dS_app, List.map_singleton, dS_one]
    have eC : cS ((pre ++ [(⟨y, hy⟩ : Amt)]).map Subtype.val) = cS (pre.map Subtype.val) + if 0 < y then 0 else -y := by
      rw [List.map_append, cS_app, List.map_singleton, cS_one]
    unfold top at hd hc
    generalize hD : dS (pre.map Subtype.val) = d at c5 hd hd0 eD
    generalize hC : cS (pre.map Subtype.val) = cc at c6 hc hc0 eC
    have HI := Lib.hid (And.intro h5 (And.intro h6 (And.intro r0 (And.intro r1 (And.intro r2 (And.intro hn (And.intro hD hC)))))))
    have HE := Lib.hid (And.intro eD (And.intro eC (show SidesI w pre W from hi)))
    clear h5 h6 r0 r1 r2 hn hD hC eD eC hi
    by_cases hp : 0 < y
    · have hA := Add_calls W d y (by omega) (by omega)
      have q0 : decide (0 < y) = true := decide_eq_true hp
      unfold addE at hA
      by_cases hf : d + y ≤ 9223372036854775807
      · rw [if_pos hf] at hA
        gi_wp2_with (refine ⟨trivial, rfl, ?_⟩; gi_at_call 49; refine (CallsIn.inRound L (callsIn_wide.2 hA)).mono ?_; rintro e w' ⟨rfl, rfl⟩)
        have e1 := HE.out.1
        have e2 := HE.out.2.1
        rw [if_pos hp] at e1 e2
        exact ⟨KeepsOthers.setCell _ _ _, KeepsWalks.setCell _ _ _, (SidesI.step HI.out.2.2.2.2.2.2.1 HI.out.2.2.2.2.2.2.2 e1 e2 HE.out.2.2 (by unfold top; omega) (by unfold top; omega)).1 (by omega)⟩
      · rw [if_neg hf] at hA
        gi_wp2_with (refine ⟨trivial, rfl, ?_⟩; gi_at_call 49; refine (CallsIn.inRound L (callsIn_wide.2 hA)).mono ?_; rintro e w' ⟨rfl, rfl⟩)
        refine SidesX.left HE.out.2.2 (by omega) ?_
        rw [HE.out.1, HE.out.2.1, if_pos hp, if_pos hp]
        unfold top
        omega
    · have hA := Sub_calls W cc y (by omega) (by omega)
      have q0 : decide (0 < y) = false := decide_eq_false hp
      unfold addE at hA
      by_cases hf : cc + -y ≤ 9223372036854775807
      · rw [if_pos hf] at hA
        gi_wp2_with (refine ⟨trivial, rfl, ?_⟩; gi_at_call 54; refine (CallsIn.inRound L (callsIn_wide.2 hA)).mono ?_; rintro e w' ⟨rfl, rfl⟩)
        have e1 := HE.out.1
        have e2 := HE.out.2.1
        rw [if_neg (by omega)] at e1 e2
        exact ⟨KeepsOthers.setCell _ _ _, KeepsWalks.setCell _ _ _, (SidesI.step HI.out.2.2.2.2.2.2.1 HI.out.2.2.2.2.2.2.2 e1 e2 HE.out.2.2 (by unfold top; omega) (by unfold top; omega)).2 (by omega)⟩
      · rw [if_neg hf] at hA
        gi_wp2_with (refine ⟨trivial, rfl, ?_⟩; gi_at_call 54; refine (CallsIn.inRound L (callsIn_wide.2 hA)).mono ?_; rintro e w' ⟨rfl, rfl⟩)
        refine SidesX.left HE.out.2.2 (by omega) ?_
        rw [HE.out.1, HE.out.2.1, if_neg (by omega), if_neg (by omega)]
        unfold top
        omega
  case done =>
    rintro D xs W hD hS ⟨h5, h6, hd, hc, r0, r1, r2, hn⟩ hK
    have hP : (xs.map Subtype.val).Perm ys := by
      rw [HH.out.1] at hS
      have h0 : (xs.map amtV ++ []).Perm (ys.map fun y => Value.int .i64 y) := by rw [List.append_nil]; exact hS
      have h1 := h0.map intOf
      rw [List.append_nil, List.map_map, List.map_map] at h1
      have e1 : xs.map (intOf ∘ amtV) = xs.map Subtype.val := List.map_congr_left fun x _ => rfl
      have e2 : ys.map (intOf ∘ fun y => Value.int .i64 y) = ys := (List.map_congr_left (g := id) fun x _ => rfl).trans (List.map_id ys)
      rwa [e1, e2] at h1
    have hA : sidesA ys = (dS (xs.map Subtype.val), cS (xs.map Subtype.val), true) := by
      rw [← sidesA_perm hP]
      unfold sidesA
      rw [if_pos ⟨hd, hc⟩]
    have c5 := h5.cell
    have c6 := h6.cell
    have e0 := r0.cell
    have e1 := r1.cell
    have e2 := r2.cell
    have g0 := r0.frozen
    have g1 := r1.frozen
    have g2 := r2.frozen
    generalize dS (xs.map Subtype.val) = d at c5 hA h5
    generalize cS (xs.map Subtype.val) = cc at c6 hA h6
    have HR := Lib.hid (And.intro hA (And.intro r0 (And.intro r1 (And.intro r2 (And.intro hn hD)))))
    have H56 := Lib.hid (And.intro h5 h6)
    clear hS hP hA r0 r1 r2 hn hd hc h5 h6
    gi_wp2
    refine wpIn_region_lineW (fun w' => w'.cell? ⟨w.heap.size + 1 + 1 + 1, 0, none⟩ = some (.int .i64 d) ∧ w'.cell? ⟨w.heap.size + 1 + 1 + 1 + 1, 0, none⟩ = some (.int .i64 cc)) (pl := [(0, true), (1, true), (2, false), (3, false), (4, false)]) hmo (by kernel_rfl) ⟨by simpa using c5, by simpa using c6⟩ ?_
    iterate 2 (refine line_get rfl rfl (fun K hK => ?_); apply Exists.intro; refine ⟨fun w hS => ?_, ?_⟩; (first | (have hS' := hS rfl; go_simp; with_reducible rfl) | (go_simp; with_reducible rfl)); (go_simp; refine hK _ ?_; clear hK K))
    (refine line_doIn rfl rfl (fun K hK => ?_); go_simp)
    refine hK _ _ (fun _ => ⟨(Boxed.other (show Boxed W.drew _ _ _ from H56.out.1) (by omega)).cell, (Boxed.other (show Boxed W.drew _ _ _ from H56.out.2) (by omega)).cell⟩) ?_
    clear hK K
    iterate 2 ((refine line_doIn rfl rfl (fun K hK => ?_); go_simp); refine hK _ _ (no_need (by kernel_rfl)) ?_; clear hK K)
    refine line_nil ?_
    go_simp
    gi_wp2
    obtain ⟨W4, hW4⟩ : ∃ W4, ((W.setCell ⟨w.heap.size, 0, none⟩ (.int .i64 d)).setCell ⟨w.heap.size + 1, 0, none⟩ (.int .i64 cc)).setCell ⟨w.heap.size + 1 + 1, 0, none⟩ (.bool true) = W4 := ⟨_, rfl⟩
    rw [hW4]
    have b0 : Boxed W4 w.heap.size 2 (.int .i64 d) := hW4 ▸ Boxed.other (Boxed.other (Boxed.set _ HR.out.2.1) (by omega)) (by omega)
    have b1 : Boxed W4 (w.heap.size + 1) 2 (.int .i64 cc) := hW4 ▸ Boxed.other (Boxed.set _ (Boxed.other HR.out.2.2.1 (by omega))) (by omega)
    have b2 : Boxed W4 (w.heap.size + 2) 4 (.bool true) := hW4 ▸ Boxed.set _ (Boxed.other (Boxed.other HR.out.2.2.2.1 (by omega)) (by omega))
    have n4 : New w W4 := hW4 ▸ New.set (New.set (New.set HR.out.2.2.2.2.1 (by omega) _) (by omega) _) (by omega) _
    have hK4 : W4.heap[D]? = some (.deferred (some [])) := by
      have hk : Kp (fun k => k = w.heap.size ∨ k = w.heap.size + 1 ∨ k = w.heap.size + 2) W W4 := hW4 ▸ ((((Kp.setCell (S := fun k => k = w.heap.size) _ _ _ rfl).mono fun _ _ h => .inl h)).trans (Kp.setCell (S := fun k => k = w.heap.size + 1) _ _ _ rfl) (fun _ _ h => h) (fun _ _ h => .inr (.inl h))).trans (Kp.setCell (S := fun k => k = w.heap.size + 1 + 1) _ _ _ rfl) (fun _ _ h => h) (fun _ _ h => .inr (.inr h))
      have := HR.out.2.2.2.2.2
      exact (hk.block D (Array.getElem?_eq_some_iff.1 hK).1 (by omega)).trans hK
    clear hW4
    have hK5 : W4.drew.heap[D]? = some (.deferred (some [])) := hK4
    refine ⟨by simp, .inl ⟨_, _, rfl, run_takeDeferred hK5, ?_⟩⟩
    have kd : Kp (fun k => k = D) W4 (W4.drew.putObj D (.deferred none)) := (Kp.drew _ _).trans (Kp.putObj _ _ _) (fun _ _ h => h) (fun _ _ h => h)
    have hDz := HR.out.2.2.2.2.2
    refine ⟨_, results_cell3 rfl _ _ rfl rfl rfl (loadVar_box Tryd.isAgg2 (Boxed.kp b0 kd (by omega)).cell) (loadVar_box Tryd.isAgg2 (Boxed.kp b1 kd (by omega)).cell) (loadVar_box Tryd.isAgg4 (Boxed.kp b2 kd (by omega)).cell), ?_, n4.trans kd (fun _ _ h => h) (fun k hk e => by omega)⟩
    unfold sidesV
    rw [HR.out.1]
  case stop =>
    rintro D c pre W hD hS ⟨rfl, hX, r0, r1, r2, hn⟩ hK
    obtain ⟨rest, hS⟩ := hS
    rw [HH.out.1] at hS
    obtain ⟨zs, hz⟩ := amts_perm hS
    have hA := sidesA_false hz hX
    have HR := Lib.hid (And.intro hA (And.intro r0 (And.intro r1 (And.intro r2 (And.intro hn hD)))))
    clear hz hX hS hA r0 r1 r2 hn
    gi_wp2
    refine ⟨by simp, .inl ⟨_, _, rfl, run_takeDeferred hK, ?_⟩⟩
    have kd : Kp (fun k => k = D) W (W.putObj D (.deferred none)) := Kp.putObj _ _ _
    refine ⟨_, results_cell3 rfl _ _ rfl rfl rfl (loadVar_box Tryd.isAgg2 (Boxed.kp HR.out.2.1 kd (by omega)).cell) (loadVar_box Tryd.isAgg2 (Boxed.kp HR.out.2.2.1 kd (by omega)).cell) (loadVar_box Tryd.isAgg4 (Boxed.kp HR.out.2.2.2.1 kd (by omega)).cell), ?_, HR.out.2.2.2.2.1.trans kd (fun _ _ h => h) (fun k hk e => by omega)⟩
    unfold sidesV
    rw [HR.out.1]
end Go.Proofs.YtejmndfdmikfaaaDoor.Kit
