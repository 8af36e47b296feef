/- DailyLater: one row more, and taken back. -/
import Derived.Test.YtejmndfdmikfaaaDoorDailyBack
namespace Go.Proofs.YtejmndfdmikfaaaDoor.Kit
open Go Go.RowKit

theorem box_cells {W : World} {b : Nat} {T : TypeId} {p : Pst} (h : W.heap[b]? = some (.cells p.cells.toArray T (0, 0))) :
    W.cell? ⟨b, 0, none⟩ = some (.int .i64 p.s) ∧ W.cell? ⟨b, 1, none⟩ = some (.int .i64 p.ln) ∧ W.cell? ⟨b, 2, none⟩ = some (.int .i64 p.day) ∧ W.cell? ⟨b, 3, none⟩ = some (.int .i64 p.kind) ∧ W.cell? ⟨b, 4, none⟩ = some (.string (bstr p.key)) ∧ W.cell? ⟨b, 5, none⟩ = some (.string (bstr p.acct)) ∧ W.cell? ⟨b, 6, none⟩ = some (.int .i64 p.amt) ∧ W.cell? ⟨b, 7, none⟩ = some (.string (bstr p.tag)) ∧ W.cell? ⟨b, 8, none⟩ = some (.string (bstr p.memo)) :=
  ⟨(cell_of_block h).trans rfl, (cell_of_block h).trans rfl, (cell_of_block h).trans rfl, (cell_of_block h).trans rfl, (cell_of_block h).trans rfl, (cell_of_block h).trans rfl, (cell_of_block h).trans rfl, (cell_of_block h).trans rfl, (cell_of_block h).trans rfl⟩
theorem bal_more (O : DO) (p : Pst) (d : Int) : bal (plusD O [p.dr] p.acct) d = bal (O p.acct) d + if p.day ≤ d then p.amt else 0 := by
  unfold plusD
  have : ofD [p.dr] p.acct = [(p.day, p.amt)] := by simp [ofD]
  rw [this, bal_app, bal_cons, bal_nil]
  simp
theorem plus_other {O : DO} {p : Pst} {n : List UInt8} (h : n ≠ p.acct) : plusD O [p.dr] n = O n := plusD_not (by simpa [namesD] using h)
theorem box_opp {W : World} {b : Nat} {T : TypeId} {p : Pst} (h : W.heap[b]? = some (.cells p.cells.toArray T (0, 0))) : (W.setCell ⟨b, 6, none⟩ (.int .i64 (IntKind.i64.wrap (-p.amt)))).heap[b]? = some (.cells p.opp.cells.toArray T (0, 0)) := by
  rw [heap_setCell_row h]
  rfl
set_option maxRecDepth 100000 in
set_option maxHeartbeats 8000000 in
theorem DailyLater_calls (w : World) (A : Option Addr) (c : Nat) (ps : List Pst) (p : Pst) (nm : List UInt8) (dy : Int) (hP : RdP w A ps) (okP : ∀ p ∈ ps, p.Ok9) (okp : p.Ok9) (lP : ps.length ≤ 1048576) :
    Calls Tryd.prog 6 #[.slice A ps.length c, .agg p.cells.toArray, .string (bstr nm), .int .i64 dy] w fun e w' => e = .returned (.bool true) ∧ New w w' := by
  have HP := Lib.hid (And.intro hP (And.intro okP okp))
  clear hP okP okp
  obtain ⟨W0, hW0⟩ : ∃ W0, w.alloc (.cells p.cells.toArray 35) = W0 := ⟨_, rfl⟩
  have n0 : New w W0 := hW0 ▸ Kp.alloc _ _ _
  have b0 : W0.heap[w.heap.size]? = some (.cells p.cells.toArray 35 (0, 0)) := hW0 ▸ heap_alloc_new w _
  have H0 := Lib.hid (And.intro n0 (And.intro b0 hW0))
  clear n0 b0 hW0
  go_enter Tryd.func6, Tryd.ntmps6
  go_wp2_with fail
  rw [H0.out.2.2]
  refine (first9_calls _).mono ?_
  rintro e W1 ⟨rfl, hn1⟩
  have N1 := Lib.hid (H0.out.1.trans hn1 (fun _ _ h => h) (fun _ _ h => h))
  have hb1 := Lib.hid ((hn1.block _ (Array.getElem?_eq_some_iff.1 H0.out.2.1).1 id).trans H0.out.2.1)
  clear hn1
  go_wp2_with fail
  refine (New9_calls W1).mono ?_
  rintro e W2 ⟨v, F, rfl, hV, hn, hF⟩
  have hbl1 := (Array.getElem?_eq_some_iff.1 hb1.out).1
  have H2 := Lib.hid (And.intro hV (And.intro (N1.out.trans hn (fun _ _ h => h) (fun _ _ h => h)) (And.intro hF ((hn.block _ hbl1 id).trans hb1.out))))
  have HZ12 := Lib.hid hn.size
  clear hV hn hF
  go_wp2_with (at_builtin; refine wpList_append_srcW _ rfl (.const (.slice none 0 0)) (.tmp 21) 22 22 rfl 35 _ 9 104 Tryd.underlying22 Tryd.info_post9 rfl none 0 0 [] rfl (Own.nil _ _ _) _ rfl ps.length (ps.flatMap Pst.cells) (Src.ofRdC Tryd.underlying22 9 _ _ (HP.out.1.new H2.out.2.1) (flat_length Pst.len ps) (by decide) (Pst.one ps)) (by omega) (by omega) ?_; intro A3 c3 W3 h31 h32 h33; simp only [Nat.zero_add, List.nil_append] at h31; have n23 := Kp.mono (U := fun _ => False) h32 (fun _ _ h => absurd h Bk.none_); have H3 := Lib.hid (And.intro h31 n23); clear h31 h32 h33 n23)
  refine (Apply9_calls W3 v (fun _ => []) F 0 A3 ps.length c3 ps (H2.out.1.new H3.out.2) H3.out.1.rdc rfl HP.out.2.1 (by omega)).mono ?_
  have nw3 : New w W3 := H2.out.2.1.trans H3.out.2 (fun _ _ h => h) (fun _ _ h => h)
  have NW3 := Lib.hid nw3
  clear nw3
  rintro e W4 (⟨hE, rfl, hk4, F1, hv4, hF1⟩ | ⟨hE, z, hz, rfl, hn4⟩)
  case inr =>
    have hz' : (z == (0 : Int)) = false := by simpa using hz
    have HN := Lib.hid hn4
    clear hE hz hn4
    go_wp2_with fail
    go_ret
    exact ⟨rfl, NW3.out.trans HN.out (fun _ _ h => h) (fun _ _ h => h)⟩
  obtain ⟨O1, hO1⟩ : ∃ O1, plusD (fun _ => []) (ps.map Pst.dr) = O1 := ⟨_, rfl⟩
  rw [hO1, List.length_map, Nat.zero_add] at hv4
  obtain ⟨F2, hv4, hs1, hs2⟩ := hv4.small
  have z13 : W1.heap.size ≤ W3.heap.size := Nat.le_trans HZ12.out H3.out.2.size
  have nw4 : New w W4 := NW3.out.trans hk4 (fun _ _ h => h) (fun k hk h => by have := H2.out.2.2.1 k h; have := N1.out.size; omega)
  have hF2 : ∀ k, F2 k → W1.heap.size ≤ k := fun k hk => by
    rcases hF1 k (hs1 k hk) with h | h
    · exact H2.out.2.2.1 k h
    · omega
  have hb4 : W4.heap[w.heap.size]? = some (.cells p.cells.toArray 35 (0, 0)) := (hk4.block _ (by have := NW3.out.size; omega) (fun h => by have := H2.out.2.2.1 _ h; omega)).trans ((H3.out.2.block _ (Array.getElem?_eq_some_iff.1 H2.out.2.2.2).1 id).trans H2.out.2.2.2)
  have H4 := Lib.hid (And.intro hv4 (And.intro nw4 (And.intro hF2 (And.intro hs2 hb4))))
  clear hv4 nw4 hk4 hO1 hE hF1 hs1 hs2 hF2 hb4
  go_wp2_with fail
  refine (State9_calls W4 v O1 F2 ps.length H4.out.1 (by omega)).mono ?_
  rintro e W5 ⟨A5, c5, N, hcov, rfl, hO, hn5, hb5, hl5⟩
  have H5 := Lib.hid (And.intro hcov (And.intro hO (And.intro (H4.out.2.1.trans hn5 (fun _ _ h => h) (fun _ _ h => h)) (And.intro (H4.out.1.new hn5) (And.intro hb5 ((hn5.block _ (Array.getElem?_eq_some_iff.1 H4.out.2.2.2.2).1 id).trans H4.out.2.2.2.2))))))
  have hz45 := hn5.size
  obtain ⟨ln, hln⟩ : ∃ ln, (stateD N O1).length = ln := ⟨_, rfl⟩
  have hlb : ln ≤ 1099511627776 := by omega
  rw [hln]
  have HLn := Lib.hid hln
  have hAt := At_calls W5 v O1 F2 ps.length nm dy H5.out.2.2.2.1 (by omega)
  clear hcov hO hn5 hb5 hl5 hln
  go_wp2_with fail
  refine hAt.mono ?_
  rintro e W6 ⟨rfl, hn6⟩
  have hb6 := (hn6.block _ (Array.getElem?_eq_some_iff.1 H5.out.2.2.2.2.2).1 id).trans H5.out.2.2.2.2.2
  obtain ⟨c0, c1, c2, c3', c4, c5', c6, c7, c8⟩ := box_cells hb6
  have hAt7 := At_calls W6 v O1 F2 ps.length p.acct dy (H5.out.2.2.2.1.new hn6) (by omega)
  have H6 := Lib.hid (And.intro hn6 hb6)
  clear hn6 hb6 hAt c0 c1 c2 c3' c4 c6 c7 c8
  obtain ⟨own, hown⟩ : ∃ own, bal (O1 p.acct) dy = own := ⟨_, rfl⟩
  obtain ⟨oth, hoth⟩ : ∃ oth, bal (O1 nm) dy = oth := ⟨_, rfl⟩
  rw [hown] at hAt7
  rw [hoth]
  have HO := Lib.hid (And.intro hown hoth)
  clear hown hoth
  go_wp2_with fail
  refine hAt7.mono ?_
  rintro e W7 ⟨rfl, hn7⟩
  have hb7 := (hn7.block _ (Array.getElem?_eq_some_iff.1 H6.out.2).1 id).trans H6.out.2
  obtain ⟨c0, c1, c2, c3', c4, c5', c6, c7, c8⟩ := box_cells hb7
  have n57 : New W5 W7 := H6.out.1.trans hn7 (fun _ _ h => h) (fun _ _ h => h)
  have H7 := Lib.hid (And.intro n57 hb7)
  have n8 : New W7 (W7.alloc (.cells p.cells.toArray 35)) := Kp.alloc _ _ _
  have n58 := n57.trans n8 (fun _ _ h => h) (fun _ _ h => h)
  have hb8 := (n8.block _ (Array.getElem?_eq_some_iff.1 hb7).1 id).trans hb7
  have hAp := Apply9_calls (W7.alloc (.cells p.cells.toArray 35)) v O1 F2 ps.length (some ⟨W7.heap.size, 0, none⟩) 1 1 [p] (H5.out.2.2.2.1.new n58) (by
    have := RdC.of_blk (cs := p.cells) (heap_alloc_new W7 (.cells p.cells.toArray 35))
    show RdC _ _ ([p].flatMap Pst.cells)
    rw [List.flatMap_cons, List.flatMap_nil, List.append_nil]
    exact this) rfl (fun q hq => by rw [List.mem_singleton.1 hq]; exact HP.out.2.2) (by omega)
  have H8 := Lib.hid (And.intro n58 (And.intro hAp hb8))
  clear hn7 hb7 n57 n8 n58 hAt7 hAp hb8
  go_wp2_with fail
  refine Calls.mono (show Calls Tryd.prog 24 #[.pointer (some ⟨v, 0, none⟩), .slice (some ⟨W7.heap.size, 0, none⟩) 1 1] (W7.alloc (.cells p.cells.toArray 35)) _ from H8.out.2.1) ?_
  clear c0 c1 c2 c3' c4 c5' c6 c7 c8
  have nw8 : New w (W7.alloc (.cells p.cells.toArray 35)) := H5.out.2.2.1.trans H8.out.1 (fun _ _ h => h) (fun _ _ h => h)
  have NW8 := Lib.hid nw8
  clear nw8
  rintro e W9 (⟨hE, rfl, hk9, F3, hv9, hF3⟩ | ⟨hE, z, hz, rfl, hn9⟩)
  case inr =>
    have hz' : (z == (0 : Int)) = false := by simpa using hz
    have n59 : New W5 W9 := H8.out.1.trans hn9 (fun _ _ h => h) (fun _ _ h => h)
    have H9 := Lib.hid (And.intro n59 (NW8.out.trans hn9 (fun _ _ h => h) (fun _ _ h => h)))
    have hS := State9_calls W9 v O1 F2 ps.length (H5.out.2.2.2.1.new n59) (by omega)
    clear hE hz hn9 n59
    go_wp2_with fail
    refine hS.mono ?_
    rintro e W10 ⟨A10, c10, N', hcov', rfl, hO', hn10, hb10, hl10⟩
    have hsame := same9_calls W10 A5 A10 ln (stateD N' O1).length c5 c10 (stateD N O1) (stateD N' O1) (H5.out.2.1.rdc.new (H9.out.1.trans hn10 (fun _ _ h => h) (fun _ _ h => h))) hO'.rdc HLn.out.symm rfl (by omega)
    have H10 := Lib.hid (And.intro (state_same H5.out.1 hcov' (SameD.refl O1)) hn10)
    clear hcov' hO' hn10 hb10 hl10 hS
    go_wp2_with fail
    refine hsame.mono ?_
    rintro e W11 ⟨r, rfl, hr, hn11⟩
    obtain rfl : r = true := hr.2 H10.out.1
    have N11 := Lib.hid hn11
    clear hr hn11 hsame
    go_wp2_with fail
    go_ret
    exact ⟨rfl, (H9.out.2.trans H10.out.2 (fun _ _ h => h) (fun _ _ h => h)).trans N11.out (fun _ _ h => h) (fun _ _ h => h)⟩
  obtain ⟨O2, hO2⟩ : ∃ O2, plusD O1 ([p].map Pst.dr) = O2 := ⟨_, rfl⟩
  have hz8 : W5.heap.size ≤ (W7.alloc (.cells p.cells.toArray 35)).heap.size := H8.out.1.size
  have hA5F : ∀ j, Bk A5 j → ¬ F2 j := fun j hj hm => by have h1 := H5.out.2.2.2.2.1 j hj; have h2 := H4.out.2.2.2.1 j hm; omega
  have hBe : Own W9 62 4 A5 c5 (stateD N O1).length ((stateD N O1).flatMap Dr.cells) := (H5.out.2.1.new H8.out.1).kp hk9 hA5F
  have n9 : New w W9 := NW8.out.trans hk9 (fun _ _ h => h) (fun k hk h => by have := H4.out.2.2.1 k h; have := N1.out.size; omega)
  have hwl : w.heap.size < W1.heap.size := (Array.getElem?_eq_some_iff.1 hb1.out).1
  have hb9 : W9.heap[w.heap.size]? = some (.cells p.cells.toArray 35 (0, 0)) := (hk9.block _ (by have := NW8.out.size; have h := (Array.getElem?_eq_some_iff.1 H8.out.2.2).1; exact h) (fun h => by have := H4.out.2.2.1 _ h; omega)).trans H8.out.2.2
  rw [List.length_map, hO2] at hv9
  obtain ⟨F4, hv9, hs1, hs2⟩ := hv9.small
  have hF4 : ∀ k, F4 k → w.heap.size < k ∧ ¬ Bk A5 k := fun k hk => by
    rcases hF3 k (hs1 k hk) with h | h
    · exact ⟨by have := H4.out.2.2.1 k h; omega, fun hb => hA5F k hb h⟩
    · refine ⟨by have h2 := (Array.getElem?_eq_some_iff.1 H8.out.2.2).1; omega, fun hb => ?_⟩
      have h1 := (H5.out.2.1.new H8.out.1).lt k hb
      omega
  have hm : ([p].map Pst.dr) = [p.dr] := rfl
  have hpo : okD O2 [p.opp.dr] := by
    have h1 := neg_ok (O := O1) H4.out.1.fit hE.1 (fun r hr => by rw [List.mem_singleton.1 hr]; exact HP.out.2.2.2.2)
    have h2 := opp_rows (ps := [p]) (fun q hq => by rw [List.mem_singleton.1 hq]; exact HP.out.2.2) hE.1
    rw [hO2] at h1
    rw [← h2] at h1
    exact h1
  have hback : SameD (plusD O2 [p.opp.dr]) O1 := by
    have h2 := opp_rows (ps := [p]) (fun q hq => by rw [List.mem_singleton.1 hq]; exact HP.out.2.2) hE.1
    have h3 : [p.opp.dr] = negR ([p].map Pst.dr) := h2
    rw [h3, ← hO2]
    exact sameD_back _ _
  have hown2 : bal (O2 p.acct) dy = own + if p.day ≤ dy then p.amt else 0 := by rw [← hO2, hm, bal_more, HO.out.1]
  have hoth2 : nm ≠ p.acct → bal (O2 nm) dy = oth := fun h => by rw [← hO2, hm, plus_other h, HO.out.2]
  have hamt2 : amtD (bal (O2 p.acct) dy) := (hv9.fit p.acct dy).2
  obtain ⟨own2, hown2'⟩ : ∃ own2, bal (O2 p.acct) dy = own2 := ⟨_, rfl⟩
  rw [hown2'] at hown2 hamt2
  unfold amtD at hamt2
  obtain ⟨O3, hO3⟩ : ∃ O3, plusD O2 [p.opp.dr] = O3 := ⟨_, rfl⟩
  rw [hO3] at hback
  have H9 := Lib.hid (And.intro hv9 (And.intro hpo (And.intro hback (And.intro hBe (And.intro n9 (And.intro hF4 (And.intro hb9 (And.intro hoth2 (And.intro hown2' hO3)))))))))
  have HO2 := Lib.hid hown2
  clear hv9 hpo hback hBe n9 hF4 hb9 hoth2 hown2' hown2 hk9 hE hA5F hF3 hs1 hs2 hO2 hm hwl hO3
  obtain ⟨c0, c1, c2, c3', c4, c5', c6, c7, c8⟩ := box_cells H9.out.2.2.2.2.2.2.1
  obtain ⟨na, hna⟩ : ∃ na, IntKind.i64.wrap (-p.amt) = na := ⟨_, rfl⟩
  by_cases hd : p.day ≤ dy
  · have hsum := HO2.out
    rw [if_pos hd] at hsum
    have hws : IntKind.i64.wrap (own + p.amt) = own2 := by rw [← hsum, IntKind.wrap_i64]; omega
    clear hsum
    by_cases hnm : nm = p.acct
    · have hq : ((bstr nm).toList == (bstr p.acct).toList) = true := by rw [bstr_beq]; simp [hnm]
      have HNM := Lib.hid hnm
      clear hnm
      have hAt2 := At_calls W9 v O2 F4 (ps.length + [p].length) p.acct dy H9.out.1 (by simp only [List.length_cons, List.length_nil]; omega)
      rw [H9.out.2.2.2.2.2.2.2.2.1] at hAt2
      go_wp2_with fail
      refine hAt2.mono ?_
      rintro e W11 ⟨rfl, hn11⟩
      have HL := Lib.hid hn11
      clear hn11 hAt2 c0 c1 c2 c3' c4 c5' c6 c7 c8
      have hb11 := (HL.out.block _ (Array.getElem?_eq_some_iff.1 H9.out.2.2.2.2.2.2.1).1 id).trans H9.out.2.2.2.2.2.2.1
      obtain ⟨c0, c1, c2, c3', c4, c5', c6, c7, c8⟩ := box_cells hb11
      have hfr : W11.frozen? ⟨w.heap.size, 6, none⟩ = false := by simp [World.frozen?, hb11]
      have kset : Kp (fun k => k = w.heap.size) W11 (W11.setCell ⟨w.heap.size, 6, none⟩ (.int .i64 na)) := Kp.setCell _ _ _ rfl
      have n13 : New (W11.setCell ⟨w.heap.size, 6, none⟩ (.int .i64 na)) ((W11.setCell ⟨w.heap.size, 6, none⟩ (.int .i64 na)).alloc (.cells p.opp.cells.toArray 35)) := Kp.alloc _ _ _
      have hv13 := ((H9.out.1.new HL.out).kp kset (fun k hk e => by have := (H9.out.2.2.2.2.2.1 k hk).1; omega)).new n13
      have hA5w : ∀ k, Bk A5 k → k ≠ w.heap.size := fun k hk e => by have h1 := H5.out.2.2.2.2.1 k hk; have h2 := H4.out.2.1.size; have h3 := (Array.getElem?_eq_some_iff.1 H4.out.2.2.2.2).1; omega
      have hBe13 := ((H9.out.2.2.2.1.new HL.out).kp kset hA5w).new n13
      have n13w : New w ((W11.setCell ⟨w.heap.size, 6, none⟩ (.int .i64 na)).alloc (.cells p.opp.cells.toArray 35)) := ((H9.out.2.2.2.2.1.trans HL.out (fun _ _ h => h) (fun _ _ h => h)).trans kset (U := fun _ => False) (fun _ _ h => h) (fun k hk e => by omega)).trans n13 (fun _ _ h => h) (fun _ _ h => h)
      have hz13 : (W11.setCell ⟨w.heap.size, 6, none⟩ (.int .i64 na)).heap.size = W11.heap.size := by simp
      have hAp := Apply9_calls ((W11.setCell ⟨w.heap.size, 6, none⟩ (.int .i64 na)).alloc (.cells p.opp.cells.toArray 35)) v O2 F4 (ps.length + [p].length) (some ⟨W11.heap.size, 0, none⟩) 1 1 [p.opp] hv13 (by
        have := RdC.of_blk (cs := p.opp.cells) (heap_alloc_new (W11.setCell ⟨w.heap.size, 6, none⟩ (.int .i64 na)) (.cells p.opp.cells.toArray 35))
        rw [hz13] at this
        show RdC _ _ ([p.opp].flatMap Pst.cells)
        rw [List.flatMap_cons, List.flatMap_nil, List.append_nil]
        exact this) rfl (fun q hq => by rw [List.mem_singleton.1 hq]; exact opp_ok HP.out.2.2) (by simp only [List.length_cons, List.length_nil]; omega)
      have e13 : p.opp.cells.toArray = #[.int .i64 p.s, .int .i64 p.ln, .int .i64 p.day, .int .i64 p.kind, .string (bstr p.key), .string (bstr p.acct), .int .i64 na, .string (bstr p.tag), .string (bstr p.memo)] := by rw [← hna]; rfl
      rw [e13] at hAp hBe13 n13w
      have H13 := Lib.hid (And.intro hAp (And.intro hBe13 n13w))
      clear hAp hBe13 n13w hv13 n13 kset hA5w hb11 e13 hz13
      go_wp2_with fail
      refine H13.out.1.mono ?_
      clear c0 c1 c2 c3' c4 c5' c6 c7 c8 hfr
      rintro e W14 (⟨_, rfl, hk14, F5, hv14, _⟩ | ⟨hno, _⟩)
      case inr => exact absurd H9.out.2.1 hno
      have hv14' : ViewD W14 v O3 F5 (ps.length + [p].length + ([p.opp].map Pst.dr).length) := by rw [← H9.out.2.2.2.2.2.2.2.2.2]; exact hv14
      have hBe14 := H13.out.2.1.kp hk14 fun k hb hf => (H9.out.2.2.2.2.2.1 k hf).2 hb
      have n14 : New w W14 := H13.out.2.2.trans hk14 (fun _ _ h => h) (fun k hk h => by have := (H9.out.2.2.2.2.2.1 k h).1; omega)
      have hS := State9_calls W14 v O3 F5 _ hv14' (by simp only [List.length_cons, List.length_nil, List.length_map]; omega)
      have H14 := Lib.hid (And.intro hBe14 n14)
      clear hk14 hv14 hv14' hBe14 n14
      go_wp2_with fail
      refine hS.mono ?_
      rintro e W15 ⟨A15, c15, N', hcov', rfl, hO', hn15, hb15, hl15⟩
      have hsame := same9_calls W15 A5 A15 ln (stateD N' O3).length c5 c15 (stateD N O1) (stateD N' O3) (H14.out.1.rdc.new hn15) hO'.rdc HLn.out.symm rfl (by omega)
      have H15 := Lib.hid (And.intro (state_same H5.out.1 hcov' H9.out.2.2.1.symm) hn15)
      clear hcov' hO' hn15 hb15 hl15 hS
      go_wp2_with fail
      refine hsame.mono ?_
      rintro e W16 ⟨r, rfl, hr, hn16⟩
      obtain rfl : r = true := hr.2 H15.out.1
      have N16 := Lib.hid hn16
      clear hr hn16 hsame
      go_wp2_with fail
      go_ret
      exact ⟨rfl, (H14.out.2.trans H15.out.2 (fun _ _ h => h) (fun _ _ h => h)).trans N16.out (fun _ _ h => h) (fun _ _ h => h)⟩
    · have hq : ((bstr nm).toList == (bstr p.acct).toList) = false := by rw [bstr_beq]; simp [hnm]
      have hAt1 := At_calls W9 v O2 F4 (ps.length + [p].length) nm dy H9.out.1 (by simp only [List.length_cons, List.length_nil]; omega)
      rw [H9.out.2.2.2.2.2.2.2.1 hnm] at hAt1
      have HNM := Lib.hid hnm
      clear hnm
      go_wp2_with fail
      refine hAt1.mono ?_
      rintro e W10 ⟨rfl, hn10⟩
      have hb10 := (hn10.block _ (Array.getElem?_eq_some_iff.1 H9.out.2.2.2.2.2.2.1).1 id).trans H9.out.2.2.2.2.2.2.1
      clear c0 c1 c2 c3' c4 c5' c6 c7 c8
      obtain ⟨c0, c1, c2, c3', c4, c5', c6, c7, c8⟩ := box_cells hb10
      have hAt2 := At_calls W10 v O2 F4 (ps.length + [p].length) p.acct dy (H9.out.1.new hn10) (by simp only [List.length_cons, List.length_nil]; omega)
      rw [H9.out.2.2.2.2.2.2.2.2.1] at hAt2
      have HN10 := Lib.hid hn10
      clear hn10 hb10 hAt1
      go_wp2_with fail
      refine hAt2.mono ?_
      rintro e W11 ⟨rfl, hn11⟩
      have HL := Lib.hid (HN10.out.trans hn11 (fun _ _ h => h) (fun _ _ h => h))
      clear hn11 hAt2 c0 c1 c2 c3' c4 c5' c6 c7 c8
      have hb11 := (HL.out.block _ (Array.getElem?_eq_some_iff.1 H9.out.2.2.2.2.2.2.1).1 id).trans H9.out.2.2.2.2.2.2.1
      obtain ⟨c0, c1, c2, c3', c4, c5', c6, c7, c8⟩ := box_cells hb11
      have hfr : W11.frozen? ⟨w.heap.size, 6, none⟩ = false := by simp [World.frozen?, hb11]
      have kset : Kp (fun k => k = w.heap.size) W11 (W11.setCell ⟨w.heap.size, 6, none⟩ (.int .i64 na)) := Kp.setCell _ _ _ rfl
      have n13 : New (W11.setCell ⟨w.heap.size, 6, none⟩ (.int .i64 na)) ((W11.setCell ⟨w.heap.size, 6, none⟩ (.int .i64 na)).alloc (.cells p.opp.cells.toArray 35)) := Kp.alloc _ _ _
      have hv13 := ((H9.out.1.new HL.out).kp kset (fun k hk e => by have := (H9.out.2.2.2.2.2.1 k hk).1; omega)).new n13
      have hA5w : ∀ k, Bk A5 k → k ≠ w.heap.size := fun k hk e => by have h1 := H5.out.2.2.2.2.1 k hk; have h2 := H4.out.2.1.size; have h3 := (Array.getElem?_eq_some_iff.1 H4.out.2.2.2.2).1; omega
      have hBe13 := ((H9.out.2.2.2.1.new HL.out).kp kset hA5w).new n13
      have n13w : New w ((W11.setCell ⟨w.heap.size, 6, none⟩ (.int .i64 na)).alloc (.cells p.opp.cells.toArray 35)) := ((H9.out.2.2.2.2.1.trans HL.out (fun _ _ h => h) (fun _ _ h => h)).trans kset (U := fun _ => False) (fun _ _ h => h) (fun k hk e => by omega)).trans n13 (fun _ _ h => h) (fun _ _ h => h)
      have hz13 : (W11.setCell ⟨w.heap.size, 6, none⟩ (.int .i64 na)).heap.size = W11.heap.size := by simp
      have hAp := Apply9_calls ((W11.setCell ⟨w.heap.size, 6, none⟩ (.int .i64 na)).alloc (.cells p.opp.cells.toArray 35)) v O2 F4 (ps.length + [p].length) (some ⟨W11.heap.size, 0, none⟩) 1 1 [p.opp] hv13 (by
        have := RdC.of_blk (cs := p.opp.cells) (heap_alloc_new (W11.setCell ⟨w.heap.size, 6, none⟩ (.int .i64 na)) (.cells p.opp.cells.toArray 35))
        rw [hz13] at this
        show RdC _ _ ([p.opp].flatMap Pst.cells)
        rw [List.flatMap_cons, List.flatMap_nil, List.append_nil]
        exact this) rfl (fun q hq => by rw [List.mem_singleton.1 hq]; exact opp_ok HP.out.2.2) (by simp only [List.length_cons, List.length_nil]; omega)
      have e13 : p.opp.cells.toArray = #[.int .i64 p.s, .int .i64 p.ln, .int .i64 p.day, .int .i64 p.kind, .string (bstr p.key), .string (bstr p.acct), .int .i64 na, .string (bstr p.tag), .string (bstr p.memo)] := by rw [← hna]; rfl
      rw [e13] at hAp hBe13 n13w
      have H13 := Lib.hid (And.intro hAp (And.intro hBe13 n13w))
      clear hAp hBe13 n13w hv13 n13 kset hA5w hb11 e13 hz13
      go_wp2_with fail
      refine H13.out.1.mono ?_
      clear c0 c1 c2 c3' c4 c5' c6 c7 c8 hfr
      rintro e W14 (⟨_, rfl, hk14, F5, hv14, _⟩ | ⟨hno, _⟩)
      case inr => exact absurd H9.out.2.1 hno
      have hv14' : ViewD W14 v O3 F5 (ps.length + [p].length + ([p.opp].map Pst.dr).length) := by rw [← H9.out.2.2.2.2.2.2.2.2.2]; exact hv14
      have hBe14 := H13.out.2.1.kp hk14 fun k hb hf => (H9.out.2.2.2.2.2.1 k hf).2 hb
      have n14 : New w W14 := H13.out.2.2.trans hk14 (fun _ _ h => h) (fun k hk h => by have := (H9.out.2.2.2.2.2.1 k h).1; omega)
      have hS := State9_calls W14 v O3 F5 _ hv14' (by simp only [List.length_cons, List.length_nil, List.length_map]; omega)
      have H14 := Lib.hid (And.intro hBe14 n14)
      clear hk14 hv14 hv14' hBe14 n14
      go_wp2_with fail
      refine hS.mono ?_
      rintro e W15 ⟨A15, c15, N', hcov', rfl, hO', hn15, hb15, hl15⟩
      have hsame := same9_calls W15 A5 A15 ln (stateD N' O3).length c5 c15 (stateD N O1) (stateD N' O3) (H14.out.1.rdc.new hn15) hO'.rdc HLn.out.symm rfl (by omega)
      have H15 := Lib.hid (And.intro (state_same H5.out.1 hcov' H9.out.2.2.1.symm) hn15)
      clear hcov' hO' hn15 hb15 hl15 hS
      go_wp2_with fail
      refine hsame.mono ?_
      rintro e W16 ⟨r, rfl, hr, hn16⟩
      obtain rfl : r = true := hr.2 H15.out.1
      have N16 := Lib.hid hn16
      clear hr hn16 hsame
      go_wp2_with fail
      go_ret
      exact ⟨rfl, (H14.out.2.trans H15.out.2 (fun _ _ h => h) (fun _ _ h => h)).trans N16.out (fun _ _ h => h) (fun _ _ h => h)⟩
  · have hsum := HO2.out
    rw [if_neg hd] at hsum
    have hws : IntKind.i64.wrap (own + 0) = own2 := by rw [← hsum, IntKind.wrap_i64]; omega
    have hws2 : own = own2 := by omega
    clear hsum hws
    subst hws2
    by_cases hnm : nm = p.acct
    · have hq : ((bstr nm).toList == (bstr p.acct).toList) = true := by rw [bstr_beq]; simp [hnm]
      have HNM := Lib.hid hnm
      clear hnm
      have hAt2 := At_calls W9 v O2 F4 (ps.length + [p].length) p.acct dy H9.out.1 (by simp only [List.length_cons, List.length_nil]; omega)
      rw [H9.out.2.2.2.2.2.2.2.2.1] at hAt2
      go_wp2_with fail
      refine hAt2.mono ?_
      rintro e W11 ⟨rfl, hn11⟩
      have HL := Lib.hid hn11
      clear hn11 hAt2 c0 c1 c2 c3' c4 c5' c6 c7 c8
      have hb11 := (HL.out.block _ (Array.getElem?_eq_some_iff.1 H9.out.2.2.2.2.2.2.1).1 id).trans H9.out.2.2.2.2.2.2.1
      obtain ⟨c0, c1, c2, c3', c4, c5', c6, c7, c8⟩ := box_cells hb11
      have hfr : W11.frozen? ⟨w.heap.size, 6, none⟩ = false := by simp [World.frozen?, hb11]
      have kset : Kp (fun k => k = w.heap.size) W11 (W11.setCell ⟨w.heap.size, 6, none⟩ (.int .i64 na)) := Kp.setCell _ _ _ rfl
      have n13 : New (W11.setCell ⟨w.heap.size, 6, none⟩ (.int .i64 na)) ((W11.setCell ⟨w.heap.size, 6, none⟩ (.int .i64 na)).alloc (.cells p.opp.cells.toArray 35)) := Kp.alloc _ _ _
      have hv13 := ((H9.out.1.new HL.out).kp kset (fun k hk e => by have := (H9.out.2.2.2.2.2.1 k hk).1; omega)).new n13
      have hA5w : ∀ k, Bk A5 k → k ≠ w.heap.size := fun k hk e => by have h1 := H5.out.2.2.2.2.1 k hk; have h2 := H4.out.2.1.size; have h3 := (Array.getElem?_eq_some_iff.1 H4.out.2.2.2.2).1; omega
      have hBe13 := ((H9.out.2.2.2.1.new HL.out).kp kset hA5w).new n13
      have n13w : New w ((W11.setCell ⟨w.heap.size, 6, none⟩ (.int .i64 na)).alloc (.cells p.opp.cells.toArray 35)) := ((H9.out.2.2.2.2.1.trans HL.out (fun _ _ h => h) (fun _ _ h => h)).trans kset (U := fun _ => False) (fun _ _ h => h) (fun k hk e => by omega)).trans n13 (fun _ _ h => h) (fun _ _ h => h)
      have hz13 : (W11.setCell ⟨w.heap.size, 6, none⟩ (.int .i64 na)).heap.size = W11.heap.size := by simp
      have hAp := Apply9_calls ((W11.setCell ⟨w.heap.size, 6, none⟩ (.int .i64 na)).alloc (.cells p.opp.cells.toArray 35)) v O2 F4 (ps.length + [p].length) (some ⟨W11.heap.size, 0, none⟩) 1 1 [p.opp] hv13 (by
        have := RdC.of_blk (cs := p.opp.cells) (heap_alloc_new (W11.setCell ⟨w.heap.size, 6, none⟩ (.int .i64 na)) (.cells p.opp.cells.toArray 35))
        rw [hz13] at this
        show RdC _ _ ([p.opp].flatMap Pst.cells)
        rw [List.flatMap_cons, List.flatMap_nil, List.append_nil]
        exact this) rfl (fun q hq => by rw [List.mem_singleton.1 hq]; exact opp_ok HP.out.2.2) (by simp only [List.length_cons, List.length_nil]; omega)
      have e13 : p.opp.cells.toArray = #[.int .i64 p.s, .int .i64 p.ln, .int .i64 p.day, .int .i64 p.kind, .string (bstr p.key), .string (bstr p.acct), .int .i64 na, .string (bstr p.tag), .string (bstr p.memo)] := by rw [← hna]; rfl
      rw [e13] at hAp hBe13 n13w
      have H13 := Lib.hid (And.intro hAp (And.intro hBe13 n13w))
      clear hAp hBe13 n13w hv13 n13 kset hA5w hb11 e13 hz13
      go_wp2_with fail
      refine H13.out.1.mono ?_
      clear c0 c1 c2 c3' c4 c5' c6 c7 c8 hfr
      rintro e W14 (⟨_, rfl, hk14, F5, hv14, _⟩ | ⟨hno, _⟩)
      case inr => exact absurd H9.out.2.1 hno
      have hv14' : ViewD W14 v O3 F5 (ps.length + [p].length + ([p.opp].map Pst.dr).length) := by rw [← H9.out.2.2.2.2.2.2.2.2.2]; exact hv14
      have hBe14 := H13.out.2.1.kp hk14 fun k hb hf => (H9.out.2.2.2.2.2.1 k hf).2 hb
      have n14 : New w W14 := H13.out.2.2.trans hk14 (fun _ _ h => h) (fun k hk h => by have := (H9.out.2.2.2.2.2.1 k h).1; omega)
      have hS := State9_calls W14 v O3 F5 _ hv14' (by simp only [List.length_cons, List.length_nil, List.length_map]; omega)
      have H14 := Lib.hid (And.intro hBe14 n14)
      clear hk14 hv14 hv14' hBe14 n14
      go_wp2_with fail
      refine hS.mono ?_
      rintro e W15 ⟨A15, c15, N', hcov', rfl, hO', hn15, hb15, hl15⟩
      have hsame := same9_calls W15 A5 A15 ln (stateD N' O3).length c5 c15 (stateD N O1) (stateD N' O3) (H14.out.1.rdc.new hn15) hO'.rdc HLn.out.symm rfl (by omega)
      have H15 := Lib.hid (And.intro (state_same H5.out.1 hcov' H9.out.2.2.1.symm) hn15)
      clear hcov' hO' hn15 hb15 hl15 hS
      go_wp2_with fail
      refine hsame.mono ?_
      rintro e W16 ⟨r, rfl, hr, hn16⟩
      obtain rfl : r = true := hr.2 H15.out.1
      have N16 := Lib.hid hn16
      clear hr hn16 hsame
      go_wp2_with fail
      go_ret
      exact ⟨rfl, (H14.out.2.trans H15.out.2 (fun _ _ h => h) (fun _ _ h => h)).trans N16.out (fun _ _ h => h) (fun _ _ h => h)⟩
    · have hq : ((bstr nm).toList == (bstr p.acct).toList) = false := by rw [bstr_beq]; simp [hnm]
      have hAt1 := At_calls W9 v O2 F4 (ps.length + [p].length) nm dy H9.out.1 (by simp only [List.length_cons, List.length_nil]; omega)
      rw [H9.out.2.2.2.2.2.2.2.1 hnm] at hAt1
      have HNM := Lib.hid hnm
      clear hnm
      go_wp2_with fail
      refine hAt1.mono ?_
      rintro e W10 ⟨rfl, hn10⟩
      have hb10 := (hn10.block _ (Array.getElem?_eq_some_iff.1 H9.out.2.2.2.2.2.2.1).1 id).trans H9.out.2.2.2.2.2.2.1
      clear c0 c1 c2 c3' c4 c5' c6 c7 c8
      obtain ⟨c0, c1, c2, c3', c4, c5', c6, c7, c8⟩ := box_cells hb10
      have hAt2 := At_calls W10 v O2 F4 (ps.length + [p].length) p.acct dy (H9.out.1.new hn10) (by simp only [List.length_cons, List.length_nil]; omega)
      rw [H9.out.2.2.2.2.2.2.2.2.1] at hAt2
      have HN10 := Lib.hid hn10
      clear hn10 hb10 hAt1
      go_wp2_with fail
      refine hAt2.mono ?_
      rintro e W11 ⟨rfl, hn11⟩
      have HL := Lib.hid (HN10.out.trans hn11 (fun _ _ h => h) (fun _ _ h => h))
      clear hn11 hAt2 c0 c1 c2 c3' c4 c5' c6 c7 c8
      have hb11 := (HL.out.block _ (Array.getElem?_eq_some_iff.1 H9.out.2.2.2.2.2.2.1).1 id).trans H9.out.2.2.2.2.2.2.1
      obtain ⟨c0, c1, c2, c3', c4, c5', c6, c7, c8⟩ := box_cells hb11
      have hfr : W11.frozen? ⟨w.heap.size, 6, none⟩ = false := by simp [World.frozen?, hb11]
      have kset : Kp (fun k => k = w.heap.size) W11 (W11.setCell ⟨w.heap.size, 6, none⟩ (.int .i64 na)) := Kp.setCell _ _ _ rfl
      have n13 : New (W11.setCell ⟨w.heap.size, 6, none⟩ (.int .i64 na)) ((W11.setCell ⟨w.heap.size, 6, none⟩ (.int .i64 na)).alloc (.cells p.opp.cells.toArray 35)) := Kp.alloc _ _ _
      have hv13 := ((H9.out.1.new HL.out).kp kset (fun k hk e => by have := (H9.out.2.2.2.2.2.1 k hk).1; omega)).new n13
      have hA5w : ∀ k, Bk A5 k → k ≠ w.heap.size := fun k hk e => by have h1 := H5.out.2.2.2.2.1 k hk; have h2 := H4.out.2.1.size; have h3 := (Array.getElem?_eq_some_iff.1 H4.out.2.2.2.2).1; omega
      have hBe13 := ((H9.out.2.2.2.1.new HL.out).kp kset hA5w).new n13
      have n13w : New w ((W11.setCell ⟨w.heap.size, 6, none⟩ (.int .i64 na)).alloc (.cells p.opp.cells.toArray 35)) := ((H9.out.2.2.2.2.1.trans HL.out (fun _ _ h => h) (fun _ _ h => h)).trans kset (U := fun _ => False) (fun _ _ h => h) (fun k hk e => by omega)).trans n13 (fun _ _ h => h) (fun _ _ h => h)
      have hz13 : (W11.setCell ⟨w.heap.size, 6, none⟩ (.int .i64 na)).heap.size = W11.heap.size := by simp
      have hAp := Apply9_calls ((W11.setCell ⟨w.heap.size, 6, none⟩ (.int .i64 na)).alloc (.cells p.opp.cells.toArray 35)) v O2 F4 (ps.length + [p].length) (some ⟨W11.heap.size, 0, none⟩) 1 1 [p.opp] hv13 (by
        have := RdC.of_blk (cs := p.opp.cells) (heap_alloc_new (W11.setCell ⟨w.heap.size, 6, none⟩ (.int .i64 na)) (.cells p.opp.cells.toArray 35))
        rw [hz13] at this
        show RdC _ _ ([p.opp].flatMap Pst.cells)
        rw [List.flatMap_cons, List.flatMap_nil, List.append_nil]
        exact this) rfl (fun q hq => by rw [List.mem_singleton.1 hq]; exact opp_ok HP.out.2.2) (by simp only [List.length_cons, List.length_nil]; omega)
      have e13 : p.opp.cells.toArray = #[.int .i64 p.s, .int .i64 p.ln, .int .i64 p.day, .int .i64 p.kind, .string (bstr p.key), .string (bstr p.acct), .int .i64 na, .string (bstr p.tag), .string (bstr p.memo)] := by rw [← hna]; rfl
      rw [e13] at hAp hBe13 n13w
      have H13 := Lib.hid (And.intro hAp (And.intro hBe13 n13w))
      clear hAp hBe13 n13w hv13 n13 kset hA5w hb11 e13 hz13
      go_wp2_with fail
      refine H13.out.1.mono ?_
      clear c0 c1 c2 c3' c4 c5' c6 c7 c8 hfr
      rintro e W14 (⟨_, rfl, hk14, F5, hv14, _⟩ | ⟨hno, _⟩)
      case inr => exact absurd H9.out.2.1 hno
      have hv14' : ViewD W14 v O3 F5 (ps.length + [p].length + ([p.opp].map Pst.dr).length) := by rw [← H9.out.2.2.2.2.2.2.2.2.2]; exact hv14
      have hBe14 := H13.out.2.1.kp hk14 fun k hb hf => (H9.out.2.2.2.2.2.1 k hf).2 hb
      have n14 : New w W14 := H13.out.2.2.trans hk14 (fun _ _ h => h) (fun k hk h => by have := (H9.out.2.2.2.2.2.1 k h).1; omega)
      have hS := State9_calls W14 v O3 F5 _ hv14' (by simp only [List.length_cons, List.length_nil, List.length_map]; omega)
      have H14 := Lib.hid (And.intro hBe14 n14)
      clear hk14 hv14 hv14' hBe14 n14
      go_wp2_with fail
      refine hS.mono ?_
      rintro e W15 ⟨A15, c15, N', hcov', rfl, hO', hn15, hb15, hl15⟩
      have hsame := same9_calls W15 A5 A15 ln (stateD N' O3).length c5 c15 (stateD N O1) (stateD N' O3) (H14.out.1.rdc.new hn15) hO'.rdc HLn.out.symm rfl (by omega)
      have H15 := Lib.hid (And.intro (state_same H5.out.1 hcov' H9.out.2.2.1.symm) hn15)
      clear hcov' hO' hn15 hb15 hl15 hS
      go_wp2_with fail
      refine hsame.mono ?_
      rintro e W16 ⟨r, rfl, hr, hn16⟩
      obtain rfl : r = true := hr.2 H15.out.1
      have N16 := Lib.hid hn16
      clear hr hn16 hsame
      go_wp2_with fail
      go_ret
      exact ⟨rfl, (H14.out.2.trans H15.out.2 (fun _ _ h => h) (fun _ _ h => h)).trans N16.out (fun _ _ h => h) (fun _ _ h => h)⟩
end Go.Proofs.YtejmndfdmikfaaaDoor.Kit
