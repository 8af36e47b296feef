/- Sums.Apply: all rows or none. -/
import Derived.Test.YtejmndfdmikfaaaDoorViewR
import Derived.Test.YtejmndfdmikfaaaDoorWide
import Derived.Test.YtejmndfdmikfaaaDoorFlat
import Derived.Test.YtejmndfdmikfaaaDoorMapOps
namespace Go.Proofs.YtejmndfdmikfaaaDoor.Kit
open Go Go.RowKit

theorem Tryd.zero_wide (w : World) : (zeroValue 78).run Tryd.prog w = .ok (.agg #[.int .i64 0, .int .u64 0]) w := by
  have := Tryd.zeroValue78
  simp [this]
theorem wideV_zero : wideV 0 = .agg #[.int .i64 0, .int .u64 0] := rfl
/-- What a lookup of what is added up gives. -/
theorem look_wide {w : World} {b : Nat} {l : Prs} (h : SMap w b l) (k : List UInt8) :
    (Instr.lookup 74 (.map (some b)) (.string (bstr k)) true).run Tryd.prog w = .ok (.tuple #[(at? l k).getD (.agg #[.int .i64 0, .int .u64 0]), .bool (at? l k).isSome]) w := by
  have := run_look (P := Tryd.prog) Tryd.underlying74 Tryd.underlying9 (Tryd.zero_wide w) h k true
  rw [this, if_pos rfl]
def ApplyPost (w : World) (v : Nat) (K : List (List UInt8)) (O : List UInt8 → Int) (F : List Nat) (R : List (List UInt8 × Int)) (e : Ending) (w' : World) : Prop :=
  (okE K O R ∧ e = .returned (.int .i64 0) ∧ ViewAt w' v (names2 K (rowNames R)) (plusO O (rowsAt R)) F ∧ Kp (· ∈ F) w w') ∨ (¬ okE K O R ∧ ∃ z, z ≠ 0 ∧ e = .returned (.int .i64 z) ∧ New w w')
theorem ApplyPost.bad {w w' : World} {v : Nat} {K : List (List UInt8)} {O : List UInt8 → Int} {F : List Nat} {R : List (List UInt8 × Int)} {z : Int} (h : ¬ okE K O R) (hz : z ≠ 0) (hn : New w w') : ApplyPost w v K O F R (.returned (.int .i64 z)) w' := .inr ⟨h, z, hz, rfl, hn⟩

theorem VS.any {w : World} {v : Nat} {K L : List (List UInt8)} {O : List UInt8 → Int} {a b c : Nat} (h : VS w v K O a b c) (hL : Covers L O) : VS w v L O a b c := by
  obtain ⟨l2, m2, t2⟩ := h.all
  obtain ⟨l3, m3, t3⟩ := h.many
  refine ⟨h.blk, h.own, ⟨l2, m2, t2.congr ?_⟩, ⟨l3, m3, t3.congr ?_⟩, hL, h.good, h.ap⟩
  · funext n
    rw [rollup_any h.cov hL]
  · funext n
    rw [count_any h.cov hL]
theorem covers_mid {M : List (List UInt8)} {O : List UInt8 → Int} (h : Covers M O) (R : List (List UInt8 × Int)) (P : List (List UInt8)) : Covers (names2 M (rowNames R)) (midO O (plusO O (rowsAt R)) P) := by
  refine ⟨(h.plus R).1, fun k hk => ?_⟩
  unfold midO at hk
  split at hk
  · exact (h.plus R).2 k hk
  · exact mem_names2.2 (.inl (h.2 k hk))
theorem isAmt_iff {x : Int} : isAmt x = true ↔ -top ≤ x ∧ x ≤ top := by
  unfold isAmt top
  rw [decide_eq_true_eq]
/-- What the second loop holds: the copy so far. -/
def Loop2 (a bx it : Nat) (lo : Prs) (W0 wr : World) : Prop :=
  ∃ P todo, SMap wr bx P ∧ Rng wr a it todo ∧ (P ++ todo).Perm lo ∧ Kp (fun k => k = bx ∨ k = it) W0 wr
/-- The third: the new balances so far. -/
def Loop3 (bn bx it : Nat) (l : Prs) (O O' : List UInt8 → Int) (W0 wr : World) : Prop :=
  ∃ Q todo ln, SMap wr bx ln ∧ IsN ln O O' Q ∧ Rng wr bn it todo ∧ (Q ++ todo.map (·.1)).Perm (l.map (·.1)) ∧ (∀ x ∈ todo, x ∈ l) ∧ (∀ k ∈ Q, isAmt (O' k) = true) ∧ Kp (fun k => k = bx ∨ k = it) W0 wr
def Loop4 (bn it : Nat) (l : Prs) (O O' : List UInt8 → Int) (v a b cm : Nat) (K' : List (List UInt8)) (W0 wr : World) : Prop :=
  ∃ P todo, Rng wr bn it todo ∧ (P ++ todo.map (·.1)).Perm (l.map (·.1)) ∧ VS wr v K' (midO O O' P) a b cm ∧ Kp (fun k => k = a ∨ k = b ∨ k = cm ∨ k = it) W0 wr
theorem look_next {w : World} {b : Nat} {l : Prs} {O O' : List UInt8 → Int} {Q : List (List UInt8)} (h : SMap w b l) (hN : IsN l O O' Q) {n : List UInt8} (hn : n ∈ Q) :
    (Instr.lookup 68 (.map (some b)) (.string (bstr n)) false).run Tryd.prog w = .ok (.int .i64 (O' n)) w := by
  have := run_look (P := Tryd.prog) Tryd.underlying68 Tryd.underlying9 (Tryd.zero_i64 w) h n false
  rw [this, if_neg (by decide), hN.there hn]
  rfl
theorem perm_split {x : List UInt8 × Value} {t1 t2 todo : Prs} {P : List (List UInt8)} {l : Prs} (ht : todo = t1 ++ x :: t2) (h : (P ++ todo.map (·.1)).Perm (l.map (·.1))) : ((P ++ [x.1]) ++ (t1 ++ t2).map (·.1)).Perm (l.map (·.1)) := by
  rw [ht, List.map_append, List.map_cons] at h
  refine List.Perm.trans ?_ h
  rw [List.append_assoc, List.map_append]
  exact List.Perm.append_left _ (by rw [List.singleton_append]; exact List.perm_middle.symm)
/-- What the first loop holds. -/
def Loop1 (w : World) (O : List UInt8 → Int) (R : List (List UInt8 × Int)) (k : Nat) (wr : World) : Prop :=
  New w wr ∧ (∃ l, SMap wr w.heap.size l ∧ IsW l O (R.take k)) ∧ rowsOk (R.take k) = true
theorem sum_bound {O : List UInt8 → Int} {R : List (List UInt8 × Int)} (hO : ∀ k, -top ≤ O k ∧ O k ≤ top) (hR : ∀ r ∈ R, -9223372036854775808 ≤ r.2 ∧ r.2 ≤ 9223372036854775807) (hn : R.length ≤ 4294967296) (n : List UInt8) :
    -42535295865117307932921825928971026432 ≤ plusO O (rowsAt R) n ∧ plusO O (rowsAt R) n ≤ 42535295865117307932921825928971026432 := by
  have h1 := hO n
  have h2 := rowsAt_abs hR n
  unfold plusO
  unfold top at h1
  have h3 : (9223372036854775808 * (R.length : Int)) ≤ 9223372036854775808 * 4294967296 := by omega
  omega

set_option maxRecDepth 100000 in
set_option maxHeartbeats 8000000 in
theorem Apply_calls (w : World) (v : Nat) (M : List (List UInt8)) (O : List UInt8 → Int) (F : List Nat) (A : Option Addr) (c : Nat) (ps : List Pst) (h : ViewAt w v M O F) (hP : RdP w A ps) (hok : ∀ p ∈ ps, p.Ok) (hlen : M.length + ps.length ≤ 4294967296) :
    Calls Tryd.prog 12 #[.pointer (some ⟨v, 0, none⟩), .slice A ps.length c] w (ApplyPost w v M O F (ps.map Pst.row)) := by
  have hmo : Tryd.prog.follows Departure.mixedOrders = true := by kernel_rfl
  have hmm := @run_makeMap Tryd.prog
  obtain ⟨R, hR⟩ : ∃ R, ps.map Pst.row = R := ⟨_, rfl⟩
  have hRl : R.length = ps.length := by rw [← hR]; simp
  have hRr : ∀ r ∈ R, -9223372036854775808 ≤ r.2 ∧ r.2 ≤ 9223372036854775807 := by
    intro r hr
    rw [← hR] at hr
    obtain ⟨p, hp, rfl⟩ := List.mem_map.1 hr
    exact (hok p hp).2
  rw [hR]
  obtain ⟨a, b, cm, rfl, hVS, hFit⟩ := h
  have HV := Lib.hid (And.intro hVS hFit)
  have HP := Lib.hid (And.intro hP (And.intro hok (And.intro hR (And.intro hRl hRr))))
  clear hVS hFit hP hok hR hRl hRr
  go_enter Tryd.func12, Tryd.ntmps12
  go_wp2
  go_loopw [24] (fun i wr => ∃ k : Nat, i = .int .i64 (k : Int) ∧ k ≤ ps.length ∧ Hid (Loop1 w O R k wr)) (fun i _ => ps.length - (intOf i).toNat)
  case atStart =>
    exact ⟨0, rfl, Nat.zero_le _, Lib.hid ⟨Kp.alloc _ _ _, ⟨[], SMap.made w, IsW.nil O⟩, rfl⟩⟩
  case round =>
    obtain ⟨k, rfl, hk, HI⟩ := hrel
    have hk0 : (0 : Int) ≤ k := by omega
    by_cases hlt : k < ps.length
    · have hki : (k : Int) < (ps.length : Int) := by omega
      obtain ⟨p, hp⟩ : ∃ p, ps[k]? = some p := ⟨_, List.getElem?_eq_getElem hlt⟩
      obtain ⟨g, off, rfl, hat⟩ := RdP.at_ (HP.out.1.new HI.out.1) hp
      obtain ⟨c0, c1, c2, c3, c4, c5, c6, c7, c8⟩ := hat
      have hpk := HP.out.2.1 p (List.mem_of_getElem? hp)
      have HPP := Lib.hid (And.intro hp hpk)
      clear hp hpk
      have hrow : R[k]? = some (p.acct, p.amt) := by rw [← HP.out.2.2.1, List.getElem?_map, HPP.out.1]; rfl
      have hbad : (goodA p.acct = true → p.amt = -9223372036854775808) → ¬ okE M O R := by
        intro hb hE
        have h1 := rowsOk_good hE.1 (List.mem_of_getElem? hrow)
        exact h1.2 (hb h1.1)
      have HB := Lib.hid (And.intro hrow hbad)
      clear hrow hbad
      go_wp2_with fail
      refine (Good_calls _ p.acct HPP.out.2.1).mono ?_
      rintro e W2 ⟨rfl, hn2⟩
      have q5 : W2.cell? ⟨wr.heap.size, 5, none⟩ = some (.string (bstr p.acct)) := New.cell hn2 ((cell_of_block (heap_alloc_new wr _)).trans rfl)
      have q6 : W2.cell? ⟨wr.heap.size, 6, none⟩ = some (.int .i64 p.amt) := New.cell hn2 ((cell_of_block (heap_alloc_new wr _)).trans rfl)
      have nW2 : New wr W2 := (Kp.alloc _ _ _).trans hn2 (fun _ _ h => h) (fun _ _ h => h)
      have z2 : wr.heap.size + 1 ≤ W2.heap.size := by have := hn2.size; simpa using this
      have H2 := Lib.hid (And.intro nW2 z2)
      clear nW2 z2 hn2 c0 c1 c2 c3 c4 c5 c6 c7 c8
      cases hg : goodA p.acct with
      | false =>
        have HG := Lib.hid hg
        clear hg
        go_wp2_with fail
        go_ret
        exact ApplyPost.bad (HB.out.2 fun h => by rw [HG.out] at h; cases h) (by decide) (HI.out.1.trans H2.out.1 (fun _ _ h => h) (fun _ _ h => h))
      | true =>
        by_cases ham : p.amt = -9223372036854775808
        · have HG := Lib.hid (And.intro hg ham)
          have hC := Check_calls W2 p.amt
          rw [if_pos ham] at hC
          clear hg ham
          go_wp2_with fail
          refine hC.mono ?_
          rintro e w3 ⟨rfl, rfl⟩
          go_wp2_with fail
          go_ret
          exact ApplyPost.bad (HB.out.2 fun _ => HG.out.2) (by decide) (HI.out.1.trans H2.out.1 (fun _ _ h => h) (fun _ _ h => h))
        · have hrok : rowOk (p.acct, p.amt) = true := by unfold rowOk; simp [hg, ham]
          have hC := Check_calls W2 p.amt
          rw [if_neg ham] at hC
          have HG := Lib.hid (And.intro hg hrok)
          clear hg ham hrok
          obtain ⟨l, ml, tl⟩ := HI.out.2.1
          have m2 := ml.keep (H2.out.1.block _ ml.lt id)
          have hlook := look_wide m2 p.acct
          obtain ⟨x, hx⟩ : ∃ x, plusO O (rowsAt (R.take k)) p.acct = x := ⟨_, rfl⟩
          have hxb := sum_bound (R := R.take k) HV.out.2.1 (fun r hr => HP.out.2.2.2.2 r (List.mem_of_mem_take hr)) (by rw [List.length_take, HP.out.2.2.2.1]; omega) p.acct
          rw [hx] at hxb
          obtain ⟨h9, u9, hw9⟩ : ∃ h9 u9, wideV x = .agg #[.int .i64 h9, .int .u64 u9] := ⟨_, _, rfl⟩
          have HX := Lib.hid (And.intro hx (And.intro hxb hw9))
          by_cases hin : p.acct ∈ rowNames (R.take k)
          · rw [tl.there hin, hx, hw9] at hlook
            have HL := Lib.hid (And.intro m2 (And.intro tl hin))
            clear m2 tl hin ml hx hxb hw9
            go_wp2_with fail
            refine hC.mono ?_
            rintro e w3 ⟨rfl, rfl⟩
            clear hC
            go_wp2_with fail
            obtain ⟨W3, hW3⟩ : ∃ W3, W2.alloc (.cells #[.int .i64 h9, .int .u64 u9] 78) = W3 := ⟨_, rfl⟩
            rw [hW3]
            have b8 : W3.heap[W2.heap.size]? = some (.cells #[.int .i64 h9, .int .u64 u9] 78 (0, 0)) := hW3 ▸ heap_alloc_new _ _
            have n3 : New W2 W3 := hW3 ▸ Kp.alloc _ _ _
            clear hW3
            have y5 := New.cell n3 q5
            have y6 := New.cell n3 q6
            have nQ : New wr W3 := H2.out.1.trans n3 (fun _ _ h => h) (fun _ _ h => h)
            have mQ := HL.out.1.keep (n3.block _ HL.out.1.lt id)
            have HL2 := Lib.hid HL.out.2.1
            clear q5 q6 hlook n3
            have e0 : W3.cell? ⟨W2.heap.size, 0, none⟩ = some (.int .i64 h9) := (cell_of_block b8).trans rfl
            have e1 : W3.cell? ⟨W2.heap.size, 1, none⟩ = some (.int .u64 u9) := (cell_of_block b8).trans rfl
            have hpq := plus_calls W3.drew x p.amt (by have := HX.out.2.1; omega) (by have := HPP.out.2.2; omega)
            rw [HX.out.2.2] at hpq
            have HQ := Lib.hid (And.intro nQ mQ)
            clear nQ mQ b8
            refine wp_region_line (fun w' => w'.cell? ⟨wr.heap.size, 5, none⟩ = some (.string (bstr p.acct)) ∧ w'.cell? ⟨W2.heap.size, 0, none⟩ = some (.int .i64 h9) ∧ w'.cell? ⟨W2.heap.size, 1, none⟩ = some (.int .u64 u9) ∧ w'.cell? ⟨wr.heap.size, 6, none⟩ = some (.int .i64 p.amt)) (pl := [(0, true), (1, true), (2, true), (3, true), (4, true), (5, true), (6, false), (7, false)]) hmo (by kernel_rfl) ⟨by simpa using y5, by simpa using e0, by simpa using e1, by simpa using y6⟩ ?_
            iterate 6 (refine line_get rfl rfl (fun K hK => ?_); apply Exists.intro; refine ⟨fun w hS => ?_, ?_⟩; (first | (have hS' := hS rfl; go_simp; with_reducible rfl) | (go_simp; with_reducible rfl)); (go_simp; refine hK _ ?_; clear hK K))
            (refine line_do rfl rfl (fun K hK => ?_); go_simp)
            refine hpq.mono ?_
            rintro e W6 ⟨rfl, hn6⟩
            have n6 : New W3 W6 := (Kp.drew _ _).trans hn6 (fun _ _ h => h) (fun _ _ h => h)
            refine hK _ _ (fun _ => ⟨n6.cell y5, n6.cell e0, n6.cell e1, n6.cell y6⟩) ?_
            clear hK K
            refine line_do rfl rfl (fun K hK => ?_)
            refine wp_mapput 74 (.tmp 56) (.tmp 58) (.tmp 62) rfl 9 78 Tryd.underlying74 Tryd.underlying9 w.heap.size l rfl (HQ.out.2.keep (n6.block _ HQ.out.2.lt id)) p.acct rfl (wideV (x + p.amt)) rfl ?_
            intro W7 m7 k7
            refine hK _ _ (no_need (by kernel_rfl)) ?_
            have H7 := Lib.hid (And.intro m7 (And.intro k7 n6))
            clear hK K m7 k7 n6 hn6 hpq y5 y6 e0 e1
            refine line_nil ?_
            go_wp2_with fail
            refine ⟨⟨k + 1, by go_num, by omega, Lib.hid ⟨?_, ⟨_, H7.out.1, ?_⟩, ?_⟩⟩, by simp [intOf]; omega⟩
            · exact ((HI.out.1.trans HQ.out.1 (fun _ _ h => h) (fun _ _ h => h)).trans H7.out.2.2 (fun _ _ h => h) (fun _ _ h => h)).trans H7.out.2.1 (fun _ _ h => h) (fun k hk e => by omega)
            · have e : R.take (k + 1) = R.take k ++ [(p.acct, p.amt)] := by rw [List.take_add_one, HB.out.1]; rfl
              have := IsW.step HL2.out (p.acct, p.amt)
              rw [e, ← HX.out.1]
              exact this
            · have e : R.take (k + 1) = R.take k ++ [(p.acct, p.amt)] := by rw [List.take_add_one, HB.out.1]; rfl
              rw [e]
              unfold rowsOk
              rw [List.all_append]
              have := HI.out.2.2
              unfold rowsOk at this
              rw [this, List.all_cons, HG.out.2]
              rfl
          · rw [tl.not hin] at hlook
            have HL := Lib.hid (And.intro m2 (And.intro tl hin))
            have hxo := plusO_not (O := O) hin
            rw [hx] at hxo
            clear m2 tl hin ml hx hxb hw9
            have hv2 : VS W2 v M O a b cm := (HV.out.1.new HI.out.1).new H2.out.1
            obtain ⟨oa, hoa⟩ : ∃ oa, O p.acct = oa := ⟨_, rfl⟩
            have hoar := HV.out.2.1 p.acct
            rw [hoa] at hoar
            unfold top at hoar
            have hox : 0 + oa = x := by rw [← hoa, ← hxo]; omega
            have HO := Lib.hid (And.intro hv2 (And.intro hoa (And.intro hoar hox)))
            clear hv2 hoa hoar hox hxo
            go_wp2_with fail
            refine hC.mono ?_
            rintro e w3 ⟨rfl, rfl⟩
            clear hC
            go_wp2_with fail
            obtain ⟨W3, hW3⟩ : ∃ W3, W2.alloc (.cells #[.int .i64 0, .int .u64 0] 78) = W3 := ⟨_, rfl⟩
            rw [hW3]
            have b8 : W3.heap[W2.heap.size]? = some (.cells #[.int .i64 0, .int .u64 0] 78 (0, 0)) := hW3 ▸ heap_alloc_new _ _
            have n3 : New W2 W3 := hW3 ▸ Kp.alloc _ _ _
            clear hW3
            have v3 := HO.out.1.new n3
            have d0 : W3.cell? ⟨v, 0, none⟩ = some (.map (some a)) := (cell_of_block v3.blk).trans rfl
            have d5 := New.cell n3 q5
            have d6 := New.cell n3 q6
            obtain ⟨lo, mo, to⟩ := v3.own
            have hlo := look_num Tryd.underlying69 Tryd.underlying9 Tryd.zero_i64 (mo.keep (w' := W3.drew) rfl) to p.acct
            rw [HO.out.2.1] at hlo
            have hpl := plus_calls W3.drew 0 oa ⟨by decide, by decide⟩ (by have := HO.out.2.2.1; omega)
            rw [HO.out.2.2.2, HX.out.2.2, wideV_zero] at hpl
            have H3 := Lib.hid (And.intro b8 (And.intro n3 v3))
            clear b8 n3 v3 mo to q5 q6 hlook
            refine wp_region_line (fun w' => w'.cell? ⟨v, 0, none⟩ = some (.map (some a)) ∧ w'.cell? ⟨wr.heap.size, 5, none⟩ = some (.string (bstr p.acct)) ∧ (Instr.lookup 69 (.map (some a)) (.string (bstr p.acct)) false).run Tryd.prog w' = .ok (.int .i64 oa) w') (pl := [(0, true), (1, true), (2, true), (3, true), (4, true), (5, true), (6, true), (7, true), (8, false), (9, false)]) hmo (by kernel_rfl) ⟨by simpa using d0, by simpa using d5, hlo⟩ ?_
            iterate 8 (refine line_get rfl rfl (fun K hK => ?_); apply Exists.intro; refine ⟨fun w hS => ?_, ?_⟩; (first | (have hS' := hS rfl; go_simp; with_reducible rfl) | (go_simp; with_reducible rfl)); (go_simp; refine hK _ ?_; clear hK K))
            (refine line_do rfl rfl (fun K hK => ?_); go_simp)
            refine hpl.mono ?_
            rintro e W4 ⟨rfl, hn4⟩
            refine hK _ _ (no_need (by kernel_rfl)) ?_
            clear hK K
            have n34 : New W3 W4 := (Kp.drew _ _).trans hn4 (fun _ _ h => h) (fun _ _ h => h)
            have b4 : W4.heap[W2.heap.size]? = some (.cells #[.int .i64 0, .int .u64 0] 78 (0, 0)) := (n34.block _ (Array.getElem?_eq_some_iff.1 H3.out.1).1 id).trans H3.out.1
            have g0 : W4.cell? ⟨W2.heap.size, 0, none⟩ = some (.int .i64 0) := (cell_of_block b4).trans rfl
            have g1 : W4.cell? ⟨W2.heap.size, 1, none⟩ = some (.int .u64 0) := (cell_of_block b4).trans rfl
            have f0 : W4.frozen? ⟨W2.heap.size, 0, none⟩ = false := by simp [World.frozen?, b4]
            have f1 : W4.frozen? ⟨W2.heap.size, 1, none⟩ = false := by simp [World.frozen?, b4]
            have H4 := Lib.hid (And.intro b4 (And.intro n34 (And.intro (n34.cell d5) (n34.cell d6))))
            clear b4 n34 d0 d5 d6 hlo hpl hn4
            (refine line_do rfl rfl (fun K hK => ?_); go_simp)
            refine hK _ _ (no_need (by kernel_rfl)) ?_
            clear hK K
            refine line_nil ?_
            go_wp2_with fail
            obtain ⟨W5, hW5⟩ : ∃ W5, (W4.setCell ⟨W2.heap.size, 0, none⟩ (.int .i64 h9)).setCell ⟨W2.heap.size, 1, none⟩ (.int .u64 u9) = W5 := ⟨_, rfl⟩
            rw [hW5]
            have b8 : W5.heap[W2.heap.size]? = some (.cells #[.int .i64 h9, .int .u64 u9] 78 (0, 0)) := hW5 ▸ heap_setCell_row (j := 1) (heap_setCell_row (j := 0) H4.out.1 (.int .i64 h9)) (.int .u64 u9)
            have k45 : Kp (fun k => k = W2.heap.size) W4 W5 := hW5 ▸ (Kp.setCell (S := fun k => k = W2.heap.size) _ _ _ rfl).trans (Kp.setCell (S := fun k => k = W2.heap.size) _ _ _ rfl) (fun _ _ h => h) (fun _ _ h => h)
            clear hW5
            have hz2 := H2.out.2
            have y5 := k45.cell_of H4.out.2.2.1 (by show ¬ wr.heap.size = W2.heap.size; omega)
            have y6 := k45.cell_of H4.out.2.2.2 (by show ¬ wr.heap.size = W2.heap.size; omega)
            have n25 : New W2 W5 := (H3.out.2.1.trans H4.out.2.1 (fun _ _ h => h) (fun _ _ h => h)).trans k45 (fun _ _ h => h) (fun k hk e => by omega)
            have nQ : New wr W5 := H2.out.1.trans n25 (fun _ _ h => h) (fun _ _ h => h)
            have mQ := HL.out.1.keep (n25.block _ HL.out.1.lt id)
            have HL2 := Lib.hid HL.out.2.1
            clear k45 n25 hz2 g0 g1 f0 f1
            have e0 : W5.cell? ⟨W2.heap.size, 0, none⟩ = some (.int .i64 h9) := (cell_of_block b8).trans rfl
            have e1 : W5.cell? ⟨W2.heap.size, 1, none⟩ = some (.int .u64 u9) := (cell_of_block b8).trans rfl
            have hpq := plus_calls W5.drew x p.amt (by have := HX.out.2.1; omega) (by have := HPP.out.2.2; omega)
            rw [HX.out.2.2] at hpq
            have HQ := Lib.hid (And.intro nQ mQ)
            clear nQ mQ b8
            refine wp_region_line (fun w' => w'.cell? ⟨wr.heap.size, 5, none⟩ = some (.string (bstr p.acct)) ∧ w'.cell? ⟨W2.heap.size, 0, none⟩ = some (.int .i64 h9) ∧ w'.cell? ⟨W2.heap.size, 1, none⟩ = some (.int .u64 u9) ∧ w'.cell? ⟨wr.heap.size, 6, none⟩ = some (.int .i64 p.amt)) (pl := [(0, true), (1, true), (2, true), (3, true), (4, true), (5, true), (6, false), (7, false)]) hmo (by kernel_rfl) ⟨by simpa using y5, by simpa using e0, by simpa using e1, by simpa using y6⟩ ?_
            iterate 6 (refine line_get rfl rfl (fun K hK => ?_); apply Exists.intro; refine ⟨fun w hS => ?_, ?_⟩; (first | (have hS' := hS rfl; go_simp; with_reducible rfl) | (go_simp; with_reducible rfl)); (go_simp; refine hK _ ?_; clear hK K))
            (refine line_do rfl rfl (fun K hK => ?_); go_simp)
            refine hpq.mono ?_
            rintro e W6 ⟨rfl, hn6⟩
            have n6 : New W5 W6 := (Kp.drew _ _).trans hn6 (fun _ _ h => h) (fun _ _ h => h)
            refine hK _ _ (fun _ => ⟨n6.cell y5, n6.cell e0, n6.cell e1, n6.cell y6⟩) ?_
            clear hK K
            refine line_do rfl rfl (fun K hK => ?_)
            refine wp_mapput 74 (.tmp 56) (.tmp 58) (.tmp 62) rfl 9 78 Tryd.underlying74 Tryd.underlying9 w.heap.size l rfl (HQ.out.2.keep (n6.block _ HQ.out.2.lt id)) p.acct rfl (wideV (x + p.amt)) rfl ?_
            intro W7 m7 k7
            refine hK _ _ (no_need (by kernel_rfl)) ?_
            have H7 := Lib.hid (And.intro m7 (And.intro k7 n6))
            clear hK K m7 k7 n6 hn6 hpq y5 y6 e0 e1
            refine line_nil ?_
            go_wp2_with fail
            refine ⟨⟨k + 1, by go_num, by omega, Lib.hid ⟨?_, ⟨_, H7.out.1, ?_⟩, ?_⟩⟩, by simp [intOf]; omega⟩
            · exact ((HI.out.1.trans HQ.out.1 (fun _ _ h => h) (fun _ _ h => h)).trans H7.out.2.2 (fun _ _ h => h) (fun _ _ h => h)).trans H7.out.2.1 (fun _ _ h => h) (fun k hk e => by omega)
            · have e : R.take (k + 1) = R.take k ++ [(p.acct, p.amt)] := by rw [List.take_add_one, HB.out.1]; rfl
              have := IsW.step HL2.out (p.acct, p.amt)
              rw [e, ← HX.out.1]
              exact this
            · have e : R.take (k + 1) = R.take k ++ [(p.acct, p.amt)] := by rw [List.take_add_one, HB.out.1]; rfl
              rw [e]
              unfold rowsOk
              rw [List.all_append]
              have := HI.out.2.2
              unfold rowsOk at this
              rw [this, List.all_cons, HG.out.2]
              rfl
    · obtain rfl : k = ps.length := by omega
      rename World => Wa
      obtain ⟨n1, ⟨l, ml, tl⟩, hrok⟩ := HI.out
      rw [← HP.out.2.2.2.1, List.take_length] at tl hrok
      have v1 := HV.out.1.new n1
      have d0 : Wa.cell? ⟨v, 0, none⟩ = some (.map (some a)) := (cell_of_block v1.blk).trans rfl
      obtain ⟨lo, mo, to⟩ := v1.own
      have hz := HV.out.1.lt
      have hz1 := n1.size
      have hbn := ml.lt
      obtain ⟨W2, hW2⟩ : ∃ W2, Wa.alloc (.map #[] 0) = W2 := ⟨_, rfl⟩
      have n2 : New Wa W2 := hW2 ▸ Kp.alloc _ _ _
      have z2 : Wa.heap.size + 1 ≤ W2.heap.size ∧ W2.heap.size ≤ Wa.heap.size + 1 := by rw [← hW2]; simp
      have mx : SMap W2 Wa.heap.size [] := hW2 ▸ SMap.made Wa
      have d2 : W2.cell? ⟨v, 0, none⟩ = some (.map (some a)) := New.cell n2 d0
      obtain ⟨it, hr, hRg⟩ := run_range (P := Tryd.prog) Tryd.underlying69 (mo.keep (n2.block a mo.lt id))
      have hmk := hmm 68 Wa
      rw [hW2] at hmk
      have HA := Lib.hid (And.intro n1 (And.intro ml (And.intro tl (And.intro hrok (And.intro to (And.intro n2 (And.intro mx (And.intro hRg v1))))))))
      clear n1 ml tl hrok v1 mo to n2 mx hRg hmm hW2 d0
      go_wp2_with fail
      obtain ⟨W3, hW3⟩ : ∃ W3, W2.alloc it = W3 := ⟨_, rfl⟩
      rw [hW3] at HA ⊢
      have n3 : New W2 W3 := hW3 ▸ Kp.alloc _ _ _
      have z3 : Wa.heap.size + 2 ≤ W3.heap.size ∧ W3.heap.size ≤ Wa.heap.size + 2 := by rw [← hW3]; simp; omega
      have H3 := Lib.hid n3
      clear hW3 n3 hr
      go_loopw [11] (fun _ wq => Hid (Loop2 a Wa.heap.size W2.heap.size lo W3 wq)) (fun _ wq => leftN a W2.heap.size wq)
      case atStart =>
        exact Lib.hid ⟨[], lo, HA.out.2.2.2.2.2.2.1.keep (H3.out.block _ (by omega) id), HA.out.2.2.2.2.2.2.2.1, List.Perm.refl _, Kp.refl _ _⟩
      case round =>
        obtain ⟨P, todo, mP, hRg, hperm, kk⟩ := hrel.out
        have hmeas := hRg.left
        have hkz := kk.size
        rcases run_next (P := Tryd.prog) hRg (by omega) with ⟨h0, hn⟩ | ⟨t1, x, t2, w', hto, hn, hR', hk', hen⟩
        · rename World => Wb
          have hPl : P.Perm lo := by rw [h0, List.append_nil] at hperm; exact hperm
          have mnow : SMap Wb w.heap.size l := ((HA.out.2.1.keep (HA.out.2.2.2.2.2.1.block _ HA.out.2.1.lt id)).keep (H3.out.block _ (by omega) id)).keep (kk.block _ (by omega) (by omega))
          obtain ⟨it2, hr2, hRg2⟩ := run_range (P := Tryd.prog) Tryd.underlying74 mnow
          obtain ⟨W4, hW4⟩ : ∃ W4, Wb.alloc it2 = W4 := ⟨_, rfl⟩
          rw [hW4] at hRg2
          have n4 : New Wb W4 := hW4 ▸ Kp.alloc _ _ _
          have z4 : Wb.heap.size + 1 ≤ W4.heap.size ∧ W4.heap.size ≤ Wb.heap.size + 1 := by rw [← hW4]; simp
          have m4 := mnow.keep (n4.block _ mnow.lt id)
          have mx4 := mP.keep (n4.block _ mP.lt id)
          have hbx := mP.lt
          have nb : New w Wb := ((HA.out.1.trans HA.out.2.2.2.2.2.1 (fun _ _ h => h) (fun _ _ h => h)).trans H3.out (fun _ _ h => h) (fun _ _ h => h)).trans kk (fun _ _ h => h) (fun k hk e => by omega)
          have nw4 : New w W4 := nb.trans n4 (fun _ _ h => h) (fun _ _ h => h)
          have HB := Lib.hid (And.intro (HA.out.2.2.2.2.1.perm hPl) (And.intro m4 (And.intro mx4 (And.intro hRg2 nw4))))
          have HW4 := Lib.hid hW4
          clear nb nw4 h0 hperm hPl mnow hRg2 n4 m4 mx4 mP hRg hW4 kk hmeas hrel
          go_wp2_with fail
          rw [HW4.out]
          go_loopw [13] (fun _ wq => Hid (Loop3 w.heap.size Wa.heap.size Wb.heap.size l O (plusO O (rowsAt R)) W4 wq)) (fun _ wq => leftN w.heap.size Wb.heap.size wq)
          case atStart =>
            exact Lib.hid ⟨[], l, P, HB.out.2.2.1, IsN.start HB.out.1 _, HB.out.2.2.2.1, List.Perm.refl _, fun _ h => h, fun _ h => (by cases h), Kp.refl _ _⟩
          case round =>
            obtain ⟨Q, todo, ln, mN, tN, hRg, hperm, hsub, hamt, kk⟩ := hrel.out
            have hmeas := hRg.left
            have hkz := kk.size
            rcases run_next (P := Tryd.prog) hRg (by omega) with ⟨h0, hn⟩ | ⟨t1, x, t2, w', hto, hn, hR', hk', hen⟩
            · rename World => Wc
              have hQl : Q.Perm (l.map (·.1)) := by rw [h0] at hperm; simpa using hperm
              have hQn : ∀ k, k ∉ Q → plusO O (rowsAt R) k = O k := fun k hk => plusO_not fun hm => hk (hQl.mem_iff.2 (HA.out.2.2.1.key hm))
              have hrg : ∀ k, -top ≤ plusO O (rowsAt R) k ∧ plusO O (rowsAt R) k ≤ top := fun k => by
                by_cases hk : k ∈ Q
                · exact isAmt_iff.1 (hamt k hk)
                · rw [hQn k hk]
                  exact HV.out.2.1 k
              have hcv := tN.covers hQn
              have hK := HV.out.1.cov.plus R
              have hvals : ln.map (·.2) = ((ln.map (·.1)).map (plusO O (rowsAt R))).map fun y => Value.int .i64 y := by
                have e := tN.vals hQn
                conv => lhs; rw [e]
                simp only [List.map_map]
                rfl
              have hS := sides_calls (Wc.alloc (.cells #[.map (some Wa.heap.size)] 68)) Wc.heap.size Wa.heap.size ln ((ln.map (·.1)).map (plusO O (rowsAt R))) (Boxed.new _ _ _) (mN.keep (Below.heap_alloc _ _ _ mN.lt)) hvals (fun y hy => by
                obtain ⟨k, _, rfl⟩ := List.mem_map.1 hy
                exact hrg k)
              have hsA : sidesA ((ln.map (·.1)).map (plusO O (rowsAt R))) = if debits (names2 M (rowNames R)) (plusO O (rowsAt R)) ≤ top ∧ credits (names2 M (rowNames R)) (plusO O (rowsAt R)) ≤ top then (debits (names2 M (rowNames R)) (plusO O (rowsAt R)), credits (names2 M (rowNames R)) (plusO O (rowsAt R)), true) else (0, 0, false) := by
                unfold sidesA
                rw [dS_names, cS_names, debits_any hcv hK, credits_any hcv hK]
              have nwc : New w Wc := HB.out.2.2.2.2.trans kk (fun _ _ h => h) (fun k hk e => by omega)
              unfold sidesV at hS
              rw [hsA] at hS
              have HC := Lib.hid (And.intro mN (And.intro tN (And.intro hQl (And.intro hrg (And.intro hQn (And.intro hK (And.intro nwc kk)))))))
              clear mN tN hQl hrg hQn hK nwc kk hcv hvals hsA hRg hperm hsub hamt h0 hmeas hrel
              by_cases hfit : debits (names2 M (rowNames R)) (plusO O (rowsAt R)) ≤ top ∧ credits (names2 M (rowNames R)) (plusO O (rowsAt R)) ≤ top
              · rw [if_pos hfit] at hS
                have hE : okE M O R := ⟨HA.out.2.2.2.1, HC.out.2.2.2.1, hfit.1, hfit.2⟩
                have HE := Lib.hid hE
                clear hE hfit
                go_wp2_with fail
                refine (each_calls Wc Wa.heap.size).mono ?_
                rintro e w1 ⟨rfl, rfl⟩
                go_wp2_with fail
                refine hS.mono ?_
                rintro e We ⟨rfl, hne⟩
                have nce : New Wc We := (Kp.alloc _ _ _).trans hne (fun _ _ h => h) (fun _ _ h => h)
                have hcez := nce.size
                have mnow : SMap We w.heap.size l := (HB.out.2.1.keep (HC.out.2.2.2.2.2.2.2.block _ (by omega) (by omega))).keep (nce.block _ (by omega) id)
                have mx := HC.out.1.keep (nce.block _ HC.out.1.lt id)
                obtain ⟨it3, hr3, hRg3⟩ := run_range (P := Tryd.prog) Tryd.underlying74 mnow
                obtain ⟨W5, hW5⟩ : ∃ W5, We.alloc it3 = W5 := ⟨_, rfl⟩
                rw [hW5] at hRg3
                have n5 : New We W5 := hW5 ▸ Kp.alloc _ _ _
                have z5 : We.heap.size + 1 ≤ W5.heap.size ∧ W5.heap.size ≤ We.heap.size + 1 := by rw [← hW5]; simp
                have nw5 : New w W5 := (HC.out.2.2.2.2.2.2.1.trans nce (fun _ _ h => h) (fun _ _ h => h)).trans n5 (fun _ _ h => h) (fun _ _ h => h)
                have v5 : VS W5 v (names2 M (rowNames R)) (midO O (plusO O (rowsAt R)) []) a b cm := by
                  have hc := covers_mid HV.out.1.cov R []
                  rw [midO_nil] at hc ⊢
                  exact (HV.out.1.new nw5).any hc
                have hz5 := nw5.size
                have H5 := Lib.hid (And.intro hRg3 (And.intro v5 (And.intro nw5 (And.intro (mx.keep (n5.block _ mx.lt id)) hW5))))
                have hxlt := mx.lt
                clear hRg3 v5 nw5 mx hW5 n5 mnow nce hne hS
                go_wp2_with fail
                rw [H5.out.2.2.2.2]
                go_loopw [20] (fun _ wq => Hid (Loop4 w.heap.size We.heap.size l O (plusO O (rowsAt R)) v a b cm (names2 M (rowNames R)) W5 wq)) (fun _ wq => leftN w.heap.size We.heap.size wq)
                case atStart =>
                  exact Lib.hid ⟨[], l, H5.out.1, List.Perm.refl _, H5.out.2.1, Kp.refl _ _⟩
                case round =>
                  obtain ⟨P, todo, hRg, hperm, hVS, kk⟩ := hrel.out
                  have hmeas := hRg.left
                  have hkz := kk.size
                  rcases run_next (P := Tryd.prog) hRg (by omega) with ⟨h0, hn⟩ | ⟨t1, x, t2, w', hto, hn, hR', hk', hen⟩
                  · have hPl : P.Perm (l.map (·.1)) := by rw [h0] at hperm; simpa using hperm
                    have hall : midO O (plusO O (rowsAt R)) P = plusO O (rowsAt R) := midO_all fun k hk => HC.out.2.2.2.2.1 k fun hm => hk (hPl.mem_iff.2 (HC.out.2.2.1.mem_iff.1 hm))
                    rw [hall] at hVS
                    have HZ := Lib.hid (And.intro hVS kk)
                    clear hVS kk hPl hall hperm h0 hmeas hRg hrel
                    go_wp2_with fail
                    go_ret
                    refine .inl ⟨HE.out, rfl, ⟨a, b, cm, rfl, HZ.out.1, HE.out.2⟩, H5.out.2.2.1.trans HZ.out.2 (fun _ _ h => h.elim) (fun k hk h => ?_)⟩
                    simp only [List.mem_cons, List.not_mem_nil, or_false]
                    rcases h with h | h | h | h
                    · exact .inr (.inl h)
                    · exact .inr (.inr (.inl h))
                    · exact .inr (.inr (.inr h))
                    · omega
                  · have hmem : x.1 ∈ l.map (·.1) := hperm.mem_iff.1 (List.mem_append_right _ (List.mem_map_of_mem (f := (·.1)) (show x ∈ todo by rw [hto]; simp)))
                    obtain ⟨z, hz1, hz2⟩ := List.mem_map.1 hmem
                    have hrn := (HA.out.2.2.1.mem hz1).1
                    rw [hz2] at hrn
                    obtain ⟨r, hrm, hre⟩ := mem_rowNames.1 hrn
                    have hgood : goodA x.1 = true := by rw [← hre]; exact (rowsOk_good HA.out.2.2.2.1 hrm).1
                    have hkz' := hk'.size
                    have hV' := hVS.kp hk' ⟨by omega, by omega, by omega, by omega⟩
                    have mx' := (H5.out.2.2.2.1.keep (kk.block _ (by omega) (by omega))).keep (hk'.block _ (by omega) (by omega))
                    have hlk := look_next mx' HC.out.2.1 (HC.out.2.2.1.mem_iff.2 hmem)
                    have hcov : Covers (names2 M (rowNames R)) (setO (midO O (plusO O (rowsAt R)) P) x.1 (plusO O (rowsAt R) x.1)) := by
                      rw [midO_step]
                      exact covers_mid HV.out.1.cov R _
                    have hset := set_calls w' v a b cm (names2 M (rowNames R)) (midO O (plusO O (rowsAt R)) P) x.1 (plusO O (rowsAt R) x.1) hV' hgood hcov (by have h1 := names2_length M (rowNames R); have h2 := rowNames_length R; have h3 := HP.out.2.2.2.1; omega) (by have := HC.out.2.2.2.1 x.1; unfold top at this; omega)
                    rw [midO_step] at hset
                    generalize plusO O (rowsAt R) x.1 = y at hlk hset
                    have HR := Lib.hid (And.intro hR' (And.intro (perm_split hto hperm) (And.intro (kk.trans hk' (fun _ _ h => h) (fun _ _ h => .inr (.inr (.inr h)))) (And.intro hto hmeas))))
                    clear hR' hperm kk hto hmeas hRg hVS hV' mx' hcov hgood hrn hmem hz1 hz2 hrm hre hrel
                    go_wp2_with fail
                    refine hset.mono ?_
                    rintro e w2 ⟨rfl, hv2, hk2⟩
                    have H2 := Lib.hid (And.intro hv2 hk2)
                    clear hv2 hk2 hset hlk hn hen
                    go_wp2_with fail
                    have hrn : Rng w2 w.heap.size We.heap.size (t1 ++ t2) := HR.out.1.keep (H2.out.2.block _ (by omega) (by omega)) (H2.out.2.block _ (by omega) (by omega))
                    refine ⟨Lib.hid ⟨P ++ [x.1], t1 ++ t2, hrn, HR.out.2.1, H2.out.1, HR.out.2.2.1.trans H2.out.2 (fun _ _ h => h) (fun _ _ h => ?_)⟩, ?_⟩
                    · rcases h with h | h | h
                      · exact .inl h
                      · exact .inr (.inl h)
                      · exact .inr (.inr (.inl h))
                    · rw [hrn.left, HR.out.2.2.2.2, HR.out.2.2.2.1]
                      simp
              · rw [if_neg hfit] at hS
                have hE : ¬ okE M O R := fun h => hfit ⟨h.2.2.1, h.2.2.2⟩
                have HE := Lib.hid hE
                clear hE hfit
                go_wp2_with fail
                refine (each_calls Wc Wa.heap.size).mono ?_
                rintro e w1 ⟨rfl, rfl⟩
                go_wp2_with fail
                refine hS.mono ?_
                rintro e We ⟨rfl, hne⟩
                go_wp2_with fail
                go_ret
                exact ApplyPost.bad HE.out (by decide) ((HC.out.2.2.2.2.2.2.1.trans (Kp.alloc _ _ _) (fun _ _ h => h) (fun _ _ h => h)).trans hne (fun _ _ h => h) (fun _ _ h => h))
            · have hx : x ∈ l := hsub x (by rw [hto]; simp)
              obtain ⟨hxn, hxv⟩ := HA.out.2.2.1.mem hx
              obtain ⟨y, hy⟩ : ∃ y, plusO O (rowsAt R) x.1 = y := ⟨_, rfl⟩
              have hyb := sum_bound (R := R) HV.out.2.1 HP.out.2.2.2.2 (by rw [HP.out.2.2.2.1]; omega) x.1
              rw [hy] at hyb hxv
              obtain ⟨h9, u9, hw9⟩ : ∃ h9 u9, wideV y = .agg #[.int .i64 h9, .int .u64 u9] := ⟨_, _, rfl⟩
              have hA := amount_calls (w'.alloc (.cells #[.int .i64 h9, .int .u64 u9] 78)) y (by omega)
              rw [hw9] at hA hxv
              rw [hxv] at hn hen
              have hkz' := hk'.size
              have mN' := mN.keep (hk'.block _ mN.lt (by omega))
              have HR := Lib.hid (And.intro mN' (And.intro tN (And.intro hR' (And.intro (perm_split hto hperm) (And.intro (fun z hz => hsub z hz) (And.intro hamt (And.intro (kk.trans hk' (fun _ _ h => h) (fun _ _ h => .inr h)) (And.intro hy (And.intro hto hmeas)))))))))
              clear mN mN' tN hR' hperm hsub hamt kk hy hto hmeas hx hxn hxv hyb hw9 hRg hrel
              go_wp2_with fail
              refine hA.mono ?_
              rintro e w3 ⟨v3, rfl, hv3, n3⟩
              have nw3 : New w' w3 := (Kp.alloc _ _ _).trans n3 (fun _ _ h => h) (fun _ _ h => h)
              by_cases ham : isAmt y = true
              · have ev := hv3 ham
                subst ev
                rw [ham]
                have m3 := HR.out.1.keep (nw3.block _ HR.out.1.lt id)
                obtain ⟨w5, hput, m5, k5⟩ := run_put (P := Tryd.prog) Tryd.underlying68 Tryd.underlying9 m3 x.1 (.int .i64 v3)
                have hz3 := nw3.size
                have hlts := HR.out.1.lt
                have H5 := Lib.hid (And.intro m5 (And.intro k5 (And.intro nw3 ham)))
                clear m5 k5 nw3 ham m3 n3 hv3 hA hn hen
                go_wp2_with fail
                have hrn : Rng w5 w.heap.size Wb.heap.size (t1 ++ t2) := (HR.out.2.2.1.keep (H5.out.2.2.1.block _ (by omega) id) (H5.out.2.2.1.block _ (by omega) id)).keep (H5.out.2.1.block _ (by omega) (by omega)) (H5.out.2.1.block _ (by omega) (by omega))
                refine ⟨Lib.hid ⟨Q ++ [x.1], t1 ++ t2, _, H5.out.1, ?_, hrn, HR.out.2.2.2.1, fun z hz => HR.out.2.2.2.2.1 z ?_, fun k hk => ?_, ?_⟩, ?_⟩
                · have := IsN.step HR.out.2.1 x.1
                  rw [HR.out.2.2.2.2.2.2.2.1] at this
                  exact this
                · rw [HR.out.2.2.2.2.2.2.2.2.1]
                  rcases List.mem_append.1 hz with hz | hz
                  · exact List.mem_append_left _ hz
                  · exact List.mem_append_right _ (List.mem_cons_of_mem _ hz)
                · rcases List.mem_append.1 hk with hk | hk
                  · exact HR.out.2.2.2.2.2.1 k hk
                  · obtain rfl := List.mem_singleton.1 hk
                    rw [HR.out.2.2.2.2.2.2.2.1]
                    exact H5.out.2.2.2
                · exact (HR.out.2.2.2.2.2.2.1.trans H5.out.2.2.1 (fun _ _ h => h) (fun _ _ h => h.elim)).trans H5.out.2.1 (fun _ _ h => h) (fun _ _ h => .inl h)
                · rw [hrn.left, HR.out.2.2.2.2.2.2.2.2.2, HR.out.2.2.2.2.2.2.2.2.1]
                  simp
              · have hf : isAmt y = false := by simpa using ham
                rw [hf]
                have hE : ¬ okE M O R := fun h => ham (by have := isAmt_iff.2 (h.2.1 x.1); rw [HR.out.2.2.2.2.2.2.2.1] at this; exact this)
                have HE := Lib.hid (And.intro hE nw3)
                clear hE nw3 hf ham hv3
                go_wp2_with fail
                go_ret
                exact ApplyPost.bad HE.out.1 (by decide) ((HB.out.2.2.2.2.trans HR.out.2.2.2.2.2.2.1 (fun _ _ h => h) (fun k hk e => by omega)).trans HE.out.2 (fun _ _ h => h) (fun _ _ h => h))
        · have mP' := mP.keep (hk'.block _ mP.lt (by omega))
          obtain ⟨w2, hput, m2, k2⟩ := run_put (P := Tryd.prog) Tryd.underlying68 Tryd.underlying9 mP' x.1 x.2
          have hx : x ∈ lo := hperm.mem_iff.1 (by rw [hto]; simp)
          have hxv := (HA.out.2.2.2.2.1.mem hx).2
          have hnot : x.1 ∉ P.map (·.1) := by
            intro hm
            have hnd : ((P ++ todo).map (·.1)).Nodup := (hperm.map _).nodup_iff.2 HA.out.2.2.2.2.1.1
            rw [List.map_append, List.nodup_append] at hnd
            exact hnd.2.2 _ hm _ (List.mem_map_of_mem (f := (·.1)) (show x ∈ todo by rw [hto]; simp)) rfl
          rw [put_new _ hnot] at m2
          have hp2 : ((P ++ [(x.1, x.2)]) ++ (t1 ++ t2)).Perm lo := by
            refine List.Perm.trans ?_ hperm
            rw [hto, List.append_assoc]
            exact List.Perm.append_left _ (by rw [List.singleton_append]; exact List.perm_middle.symm)
          have hrn : Rng w2 a W2.heap.size (t1 ++ t2) := hR'.keep (k2.block _ (by have := hk'.size; omega) (by omega)) (k2.block _ (by have := hk'.size; omega) (by omega))
          have hkk : Kp (fun k => k = Wa.heap.size ∨ k = W2.heap.size) W3 w2 := (kk.trans hk' (fun _ _ h => h) (fun _ _ h => .inr h)).trans k2 (fun _ _ h => h) (fun _ _ h => .inl h)
          have HR := Lib.hid (And.intro m2 (And.intro hrn (And.intro hp2 (And.intro hkk (And.intro hmeas hto)))))
          rw [hxv] at hn hen hput
          clear m2 hrn hp2 hkk hmeas hto hnot hx hxv mP mP' hRg hR' hperm kk hk' k2 hrel
          go_wp2_with fail
          refine ⟨Lib.hid ⟨P ++ [(x.1, x.2)], t1 ++ t2, HR.out.1, HR.out.2.1, HR.out.2.2.1, HR.out.2.2.2.1⟩, ?_⟩
          rw [HR.out.2.1.left, HR.out.2.2.2.2.1, HR.out.2.2.2.2.2]
          simp
end Go.Proofs.YtejmndfdmikfaaaDoor.Kit
