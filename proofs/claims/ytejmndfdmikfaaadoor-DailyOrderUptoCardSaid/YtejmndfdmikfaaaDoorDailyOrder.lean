/- DailyOrder: rows at once, or in another order and piece by piece: the same days; From of State, too. -/
import Derived.Test.YtejmndfdmikfaaaDoorFrom9
import Derived.Test.YtejmndfdmikfaaaDoorFirst9
import Derived.Test.YtejmndfdmikfaaaDoorSame9
import Derived.Test.YtejmndfdmikfaaaDoorPostIn9
import Derived.Deep.DeepCutAuto
import Derived.Deep.CutRange
namespace Go.Proofs.YtejmndfdmikfaaaDoor.Kit
open Go Go.RowKit
theorem RdC.from_ {w : World} {A : Option Addr} {cs : List Value} (h : RdC w A cs) (c lo sz : Nat) (hc : cs.length ≤ c * sz) : RdC w (Kit.adv A c lo sz) (cs.drop (lo * sz)) := by
  intro hne
  have hlen : 0 < (cs.drop (lo * sz)).length := List.length_pos_iff.2 hne
  rw [List.length_drop] at hlen
  obtain ⟨b, off, rfl, hcell⟩ := h (by rintro rfl; simp at hlen)
  refine ⟨b, off + lo * sz, ?_, fun j u hu => ?_⟩
  · unfold Kit.adv
    rw [if_neg (by rintro rfl; omega)]
    simp [Addr.add_lit]
  · rw [List.getElem?_drop] at hu
    rw [Nat.add_assoc]
    exact hcell _ u hu
theorem perm_pick {α : Type} {ps piece l : List α} {p : α} {a : Nat} (h : (piece ++ l).Perm ps) (hp : l[a]? = some p) : ((piece ++ [p]) ++ (l.take a ++ l.drop (a + 1))).Perm ps := by
  refine List.Perm.trans ?_ h
  obtain ⟨hlt, e⟩ := List.getElem?_eq_some_iff.1 hp
  have e2 : l = l.take a ++ p :: l.drop (a + 1) := by rw [← e, ← List.drop_eq_getElem_cons hlt, List.take_append_drop]
  rw [List.append_assoc]
  refine List.Perm.append_left _ ?_
  conv => rhs; rw [e2]
  rw [List.singleton_append]
  exact List.perm_middle.symm
theorem Tryd.size_post : (Tryd.prog.info? 35).map (·.size) = some 9 := by kernel_rfl
theorem Own.pst {w : World} {e : TypeId} {g c n : Nat} {ps : List Pst} (h : Own w e 9 (some ⟨g, 0, none⟩) c n (ps.flatMap Pst.cells)) {i : Nat} {p : Pst} (hp : ps[i]? = some p) : PstAt w g (i * 9) p :=
  ⟨h.cell (j := i * 9 + 0) (flat_get Pst.len ps i 0 p hp (by decide)), h.cell (flat_get Pst.len ps i 1 p hp (by decide)), h.cell (flat_get Pst.len ps i 2 p hp (by decide)), h.cell (flat_get Pst.len ps i 3 p hp (by decide)), h.cell (flat_get Pst.len ps i 4 p hp (by decide)), h.cell (flat_get Pst.len ps i 5 p hp (by decide)), h.cell (flat_get Pst.len ps i 6 p hp (by decide)), h.cell (flat_get Pst.len ps i 7 p hp (by decide)), h.cell (flat_get Pst.len ps i 8 p hp (by decide))⟩
theorem RdN.at_ {w : World} {A : Option Addr} {l : List Int} (h : RdN w A l) {i : Nat} {z : Int} (hz : l[i]? = some z) : ∃ b off, A = some ⟨b, off, none⟩ ∧ w.cell? ⟨b, off + i, none⟩ = some (.int .i64 z) := by
  obtain ⟨b, off, rfl, hc⟩ := h (by intro e; have := congrArg List.length e; simp at this; subst this; simp at hz)
  exact ⟨b, off, rfl, hc i _ (by rw [List.getElem?_map, hz]; rfl)⟩
theorem RdN.new {w w' : World} {A : Option Addr} {l : List Int} (h : RdN w A l) (hk : New w w') : RdN w' A l := RdC.new h hk
/-- What a piece's rows make. -/
abbrev atD (taken : List Pst) : DO := plusD (fun _ => []) (taken.map Pst.dr)
theorem atD_nil : atD [] = fun _ => [] := plusD_nil _
theorem atD_app (a b : List Pst) : plusD (atD a) (b.map Pst.dr) = atD (a ++ b) := by
  unfold atD
  rw [plusD_app, List.map_append]
theorem state_ok {N : List (List UInt8)} {O : DO} (hfit : ∀ n, FitD (O n)) (hgood : ∀ n, days (O n) ≠ [] → goodD n = true ∧ n.length ≤ 1048576) : ∀ r ∈ stateD N O, r.Ok := by
  intro r hr
  unfold stateD at hr
  obtain ⟨n, _, h⟩ := List.mem_flatMap.1 hr
  obtain ⟨x, hx, rfl⟩ := List.mem_map.1 h
  have h1 := (hgood n (List.ne_nil_of_mem hx)).2
  have h2 : x.2.1 = chg (O n) x.1 := (days_mem hx).1
  have h3 := (days_mem hx).2.2
  have h4 := hfit n x.1
  rw [← h2, ← h3] at h4
  unfold amtD at h4
  refine ⟨h1, ?_, ?_⟩
  · show _ ≤ x.2.1 ∧ x.2.1 ≤ _
    omega
  · show _ ≤ x.2.2 ∧ x.2.2 ≤ _
    omega
theorem ViewD.facts {w : World} {v M : Nat} {O : DO} {F : Nat → Prop} (h : ViewD w v O F M) : (∀ n, FitD (O n)) ∧ (∀ n, days (O n) ≠ [] → goodD n = true ∧ n.length ≤ 1048576) ∧ ∀ n, ∀ x ∈ days (O n), isDayB x.1 = true := by
  obtain ⟨m, ms, h⟩ := h
  exact ⟨h.fit, h.good, h.isday⟩
theorem Own.take_rows {w : World} {e : TypeId} {A : Option Addr} {c : Nat} {ps : List Pst} (h : Own w e 9 A c ps.length (ps.flatMap Pst.cells)) (a : Nat) (ha : a ≤ ps.length) : Own w e 9 A c a ((ps.take a).flatMap Pst.cells) := by
  have h2 : Own w e 9 A c (a + (ps.length - a)) ((ps.take a).flatMap Pst.cells ++ (ps.drop a).flatMap Pst.cells) := by
    rw [← List.flatMap_append, List.take_append_drop, Nat.add_sub_cancel' ha]
    exact h
  exact h2.pre (by rw [flat_length Pst.len, List.length_take, Nat.min_eq_left ha])
def OrdI (W4 : World) (v2 : Nat) (ps l taken : List Pst) (AL : Option Addr) (cL : Nat) (wx : World) : Prop :=
  (taken ++ l).Perm ps ∧ (∃ F2, ViewD wx v2 (atD taken) F2 taken.length ∧ (∀ k, F2 k → W4.heap.size ≤ k ∧ k < wx.heap.size) ∧ ∀ j, Bk AL j → ¬ F2 j) ∧ Own wx 35 9 AL cL l.length (l.flatMap Pst.cells) ∧ (∀ j, Bk AL j → W4.heap.size ≤ j) ∧ New W4 wx
def PcI (W4 : World) (v2 : Nat) (O2 : DO) (M2 : Nat) (l l' piece : List Pst) (A1 : Option Addr) (c1 : Nat) (AL : Option Addr) (cL : Nat) (wx : World) : Prop :=
  (piece ++ l').Perm l ∧ (∃ F2, ViewD wx v2 O2 F2 M2 ∧ (∀ k, F2 k → W4.heap.size ≤ k ∧ k < wx.heap.size) ∧ (∀ j, Bk AL j → ¬ F2 j) ∧ ∀ j, Bk A1 j → ¬ F2 j) ∧ Own wx 35 9 A1 c1 piece.length (piece.flatMap Pst.cells) ∧ Own wx 35 9 AL cL l'.length (l'.flatMap Pst.cells) ∧ (∀ j, Bk A1 j → W4.heap.size ≤ j) ∧ (∀ j, Bk AL j → W4.heap.size ≤ j) ∧ (∀ j, Bk AL j → ¬ Bk A1 j) ∧ New W4 wx
set_option maxRecDepth 100000 in
set_option maxHeartbeats 16000000 in
theorem DailyOrder_calls (w : World) (A PA CA : Option Addr) (c pc cc : Nat) (ps : List Pst) (pm ct : List Int) (hP : RdP w A ps) (okP : ∀ p ∈ ps, p.Ok9) (lP : ps.length ≤ 1048576) (hpm : RdN w PA pm) (bpm : ∀ z ∈ pm, -9223372036854775808 ≤ z ∧ z ≤ 9223372036854775807) (lpm : pm.length ≤ 1048576) (hct : RdN w CA ct) (bct : ∀ z ∈ ct, -9223372036854775808 ≤ z ∧ z ≤ 9223372036854775807) (_ : ct.length ≤ 1048576) :
    Calls Tryd.prog 9 #[.agg #[.slice A ps.length c, .slice PA pm.length pc, .slice CA ct.length cc]] w fun e w' => e = .returned (.bool true) ∧ New w w' := by
  have hmo : Tryd.prog.follows Departure.mixedOrders = true := by kernel_rfl
  have HP := Lib.hid (And.intro hP (And.intro okP (And.intro hpm (And.intro bpm (And.intro hct bct)))))
  clear hP okP hpm bpm hct bct
  go_enter Tryd.func9, Tryd.ntmps9
  go_wp2_with fail
  refine (first9_calls _).mono ?_
  rintro e W1 ⟨rfl, hn1⟩
  have x0 : W1.cell? ⟨w.heap.size, 0, none⟩ = some (.slice A ps.length c) := New.cell hn1 ((cell_of_block (heap_alloc_new w _)).trans rfl)
  have y0 : W1.cell? ⟨w.heap.size, 1, none⟩ = some (.slice PA pm.length pc) := New.cell hn1 ((cell_of_block (heap_alloc_new w _)).trans rfl)
  have z0 : W1.cell? ⟨w.heap.size, 2, none⟩ = some (.slice CA ct.length cc) := New.cell hn1 ((cell_of_block (heap_alloc_new w _)).trans rfl)
  have n1 : New w W1 := (Kp.alloc _ _ _).trans hn1 (fun _ _ h => h) (fun _ _ h => h)
  have w1 : w.heap.size < W1.heap.size := World.block_lt_of_cell? W1 _ x0
  have N1 := Lib.hid (And.intro n1 (And.intro y0 (And.intro z0 w1)))
  clear hn1 n1 y0 z0 w1
  go_wp2_with fail
  refine (New9_calls W1).mono ?_
  rintro e W2 ⟨v, F, rfl, hV, hn, hF⟩
  have x2 := New.cell hn x0
  have H2 := Lib.hid (And.intro hV (And.intro (N1.out.1.trans hn (fun _ _ h => h) (fun _ _ h => h)) (And.intro (fun k hk => Nat.le_trans N1.out.1.size (hF k hk)) (And.intro hn hF))))
  clear hV hn hF x0
  go_wp2_with (at_builtin; refine wpList_append_srcW _ rfl (.const (.slice none 0 0)) (.tmp 23) 22 22 rfl 35 _ 9 104 Tryd.underlying22 Tryd.info_post9 rfl none 0 0 [] rfl (Own.nil _ _ _) _ rfl ps.length (ps.flatMap Pst.cells) (Src.ofRdC Tryd.underlying22 9 _ _ (HP.out.1.new H2.out.2.1) (flat_length Pst.len ps) (by decide) (Pst.one ps)) (by omega) (by omega) ?_; intro A3 c3 W3 h31 h32 h33; simp only [Nat.zero_add, List.nil_append] at h31; have n23 := Kp.mono (U := fun _ => False) h32 (fun _ _ h => absurd h Bk.none_); have H3 := Lib.hid (And.intro h31 n23); clear h31 h32 h33 n23)
  have hvA := H2.out.1.new H3.out.2
  refine (Apply9_calls W3 v (fun _ => []) F 0 A3 ps.length c3 ps hvA H3.out.1.rdc rfl HP.out.2.1 (by omega)).mono ?_
  clear hvA
  have nw3 : New w W3 := H2.out.2.1.trans H3.out.2 (fun _ _ h => h) (fun _ _ h => h)
  have NW3 := Lib.hid (And.intro nw3 (H2.out.1.new H3.out.2))
  clear nw3
  rintro e W4 (⟨hE, rfl, hk4, F1, hv4, hF1⟩ | ⟨hE, z, hz, rfl, hn4⟩)
  case inr =>
    have hz' : (z == (0 : Int)) = false := by simpa using hz
    have HN := Lib.hid hn4
    have hS := State9_calls W4 v (fun _ => []) F 0 (NW3.out.2.new HN.out) (by omega)
    clear hE hz hn4 x2
    go_wp2_with fail
    refine hS.mono ?_
    rintro e W5 ⟨A5, c5, N, hcov, rfl, hO, hn5, hb5⟩
    rw [state_nil (fun n => days_none) N] at *
    have N5 := Lib.hid hn5
    clear hcov hO hn5 hb5 hS
    go_wp2_with fail
    go_ret
    exact ⟨rfl, (NW3.out.1.trans HN.out (fun _ _ h => h) (fun _ _ h => h)).trans N5.out (fun _ _ h => h) (fun _ _ h => h)⟩
  rw [Nat.zero_add, List.length_map] at hv4
  obtain ⟨F1, hv4, hs1, hs2⟩ := hv4.small
  have nw4 : New w W4 := NW3.out.1.trans hk4 (fun _ _ h => h) (fun k hk h => by have := H2.out.2.2.1 k h; omega)
  have n14 : New W1 W4 := (H2.out.2.2.2.1.trans H3.out.2 (fun _ _ h => h) (fun _ _ h => h)).trans hk4 (fun _ _ h => h) (fun k hk h => by have := H2.out.2.2.2.2 k h; omega)
  have x4 : W4.cell? ⟨w.heap.size, 0, none⟩ = some (.slice A ps.length c) := by
    refine Kp.cell_of hk4 (New.cell H3.out.2 x2) fun h => ?_
    have h1 := H2.out.2.2.2.2 _ h
    have h2 := N1.out.2.2.2
    exact absurd h1 (by show ¬ _ ≤ w.heap.size; omega)
  have HX := Lib.hid (And.intro (New.cell n14 N1.out.2.1) (New.cell n14 N1.out.2.2.1))
  have H4 := Lib.hid (And.intro (show ViewD W4 v (atD ps) F1 ps.length from hv4) nw4)
  clear hv4 nw4 n14 hk4 x2 hE hF1 hs1 hs2
  go_wp2_with (at_builtin; refine wpList_append_src _ rfl (.const (.slice none 0 0)) (.tmp 36) 22 22 rfl 35 _ 9 104 Tryd.underlying22 Tryd.info_post9 rfl none 0 0 [] rfl (Own.nil _ _ _) _ rfl ps.length (ps.flatMap Pst.cells) (Src.ofRdC Tryd.underlying22 9 _ _ (HP.out.1.new H4.out.2) (flat_length Pst.len ps) (by decide) (Pst.one ps)) (by omega) (by omega) ?_; intro A5 c5 W5 h51 h52 h53; simp only [Nat.zero_add, List.nil_append] at h51; have n45 := Kp.mono (U := fun _ => False) h52 (fun _ _ h => absurd h Bk.none_); have x5 := New.cell n45 x4; have b5 : ∀ k, Bk A5 k → W4.heap.size ≤ k ∧ k < W5.heap.size := (fun k hk => ⟨(h53 k hk).elim (fun h => absurd h Bk.none_) (fun h => by omega), h51.lt k hk⟩); have H5 := Lib.hid (And.intro h51 (And.intro n45 (And.intro (New.cell n45 HX.out.1) (And.intro (New.cell n45 HX.out.2) b5)))); clear h51 h52 h53 n45 x4 b5)
  refine (New9_calls W5).mono ?_
  rintro e W6 ⟨v2, F2, rfl, hV, hn, hF⟩
  obtain ⟨F2, hV, hs1, hs2⟩ := hV.small
  have n46 : New W4 W6 := H5.out.2.1.trans hn (fun _ _ h => h) (fun _ _ h => h)
  have w4 : w.heap.size < W4.heap.size := World.block_lt_of_cell? W4 ⟨w.heap.size, 1, none⟩ HX.out.1
  have hI0 : OrdI W4 v2 ps ps [] A5 c5 W6 := by
    refine ⟨List.Perm.refl _, ⟨F2, by rw [atD_nil]; exact hV, fun k hk => ⟨Nat.le_trans H5.out.2.1.size (hF k (hs1 k hk)), hs2 k hk⟩, fun j hj hm => ?_⟩, H5.out.1.new hn, fun j hj => (H5.out.2.2.2.2 j hj).1, n46⟩
    have h1 := hF j (hs1 j hm)
    have h2 := (H5.out.2.2.2.2 j hj).2
    omega
  have X4 := Lib.hid (And.intro (show W6.cell? ⟨w.heap.size, 0, none⟩ = some (.slice A ps.length c) from New.cell hn x5) (And.intro n46 w4))
  have H6 := Lib.hid hI0
  clear hV hn hF x5 n46 w4 hs1 hs2 hI0
  go_wp2_with fail
  go_loopg [5, 7] ps.length (fun g s5 s7 wx => ∃ (i : Nat) (l taken : List Pst) (AL : Option Addr) (cL : Nat), s5 = .slice AL l.length cL ∧ s7 = .int .i64 (i : Int) ∧ g = l.length ∧ i ≤ taken.length ∧ taken.length + l.length = ps.length ∧ Hid (OrdI W4 v2 ps l taken AL cL wx))
  case atStart => exact ⟨0, ps, [], A5, c5, rfl, rfl, rfl, Nat.le_refl _, by simp, Lib.hid H6.out⟩
  case round =>
    obtain ⟨i, l, taken, AL, cL, rfl, rfl, rfl, hi, hlen, HI⟩ := hrel
    have hi0 : (0 : Int) ≤ i := by omega
    rename World => Wi
    have y0 := New.cell HI.out.2.2.2.2 HX.out.1
    have z0 := New.cell HI.out.2.2.2.2 HX.out.2
    have nwi : New w Wi := H4.out.2.trans HI.out.2.2.2.2 (fun _ _ h => h) (fun _ _ h => h)
    have NWI := Lib.hid nwi
    clear nwi
    by_cases hl : 0 < l.length
    · have hl2 : (0 : Int) < (l.length : Int) := by omega
      go_upto_region 11 with fail
      obtain ⟨gb, hgb⟩ : ∃ gb : Bool, gb = (decide (i < ct.length) && decide (1 < ct.getD i 0)) := ⟨_, rfl⟩
      have HG := Lib.hid hgb
      clear hgb
      go_cut [56] from 39 to 117 (fun s56 wx => s56 = .bool gb ∧ wx = Wi)
      case first =>
        by_cases h1 : i < ct.length
        · have h1i : (i : Int) < (ct.length : Int) := by omega
          obtain ⟨z, hz⟩ : ∃ z, ct[i]? = some z := ⟨_, List.getElem?_eq_getElem h1⟩
          obtain ⟨cb, co, rfl, cz⟩ := RdN.at_ (RdN.new HP.out.2.2.2.2.1 NWI.out) hz
          have hv : gb = decide (1 < z) := by rw [HG.out, decide_eq_true h1, List.getD_eq_getElem?_getD, hz]; simp
          have HV := Lib.hid hv
          clear hz hv
          go_wp2_with fail
          go_meet
          exact ⟨by rw [HV.out], rfl⟩
        · have h1i : ¬ (i : Int) < (ct.length : Int) := by omega
          have hv : gb = false := by rw [HG.out, decide_eq_false h1, Bool.false_and]
          have HV := Lib.hid hv
          clear hv
          go_wp2_with fail
          go_meet
          exact ⟨by rw [HV.out], rfl⟩
      case rest =>
      obtain ⟨rfl, rfl⟩ := hcut
      go_upto_if 56 with fail
      rename World => Wi
      go_cut [8] from 39 to 117 (fun s8 wx => ∃ nv : Int, s8 = .int .i64 nv ∧ 1 ≤ nv ∧ nv ≤ 9223372036854775807 ∧ wx = Wi)
      case first =>
        cases gb with
        | true =>
          have hg := HG.out
          simp only [Bool.true_eq, Bool.and_eq_true, decide_eq_true_eq] at hg
          obtain ⟨h1, h2⟩ := hg
          have h1i : (i : Int) < (ct.length : Int) := by omega
          obtain ⟨z, hz⟩ : ∃ z, ct[i]? = some z := ⟨_, List.getElem?_eq_getElem h1⟩
          rw [List.getD_eq_getElem?_getD, hz] at h2
          have h2' : 1 < z := h2
          have h3 := (HP.out.2.2.2.2.2 z (List.mem_of_getElem? hz)).2
          obtain ⟨cb, co, rfl, cz⟩ := RdN.at_ (RdN.new HP.out.2.2.2.2.1 NWI.out) hz
          clear hz h2
          go_wp2_with fail
          go_meet
          exact ⟨z, rfl, by omega, h3, rfl⟩
        | false =>
          go_wp2_with fail
          go_meet
          exact ⟨1, rfl, by omega, by omega, rfl⟩
      case rest =>
      obtain ⟨nv, rfl, hnv1, hnv2, rfl⟩ := hcut
      rename World => Wi
      go_wp2_with fail
      go_loopg [5, 9, 10] l.length (fun g s5 s9 s10 wx => ∃ (l' piece : List Pst) (A1 : Option Addr) (c1 : Nat) (AL' : Option Addr) (cL' : Nat), s5 = .slice AL' l'.length cL' ∧ s9 = .slice A1 piece.length c1 ∧ s10 = .int .i64 (piece.length : Int) ∧ g = l'.length ∧ (piece.length : Int) ≤ nv ∧ piece.length + l'.length = l.length ∧ Hid (PcI W4 v2 (atD taken) taken.length l l' piece A1 c1 AL' cL' wx))
      case atStart =>
        obtain ⟨h1, ⟨F2, h2, h3, h4⟩, h5, h6, h7⟩ := HI.out
        exact ⟨l, [], none, 0, AL, cL, rfl, rfl, rfl, rfl, by simp; omega, by simp, Lib.hid ⟨List.Perm.refl _, ⟨F2, h2, h3, h4, fun j hj => absurd hj Bk.none_⟩, Own.nil _ _ _, h5, fun j hj => absurd hj Bk.none_, h6, fun j _ hj => absurd hj Bk.none_, h7⟩⟩
      case round =>
        obtain ⟨l', piece, A1, c1, AL', cL', rfl, rfl, rfl, rfl, hpn, hpl, HJ⟩ := hrel
        rename World => Wj
        have njw : New w Wj := H4.out.2.trans HJ.out.2.2.2.2.2.2.2 (fun _ _ h => h) (fun _ _ h => h)
        have y1 := New.cell HJ.out.2.2.2.2.2.2.2 HX.out.1
        have NJW := Lib.hid njw
        clear njw y0 z0
        go_upto_region 15 with fail
        obtain ⟨gb, hgb⟩ : ∃ gb : Bool, gb = (decide ((piece.length : Int) < nv) && decide (0 < l'.length)) := ⟨_, rfl⟩
        have HG := Lib.hid hgb
        clear hgb
        go_cut [69] from 62 to 113 (fun s69 wx => s69 = .bool gb ∧ wx = Wj)
        case first =>
          by_cases h1 : (piece.length : Int) < nv
          · have hv : gb = decide (0 < l'.length) := by rw [HG.out, decide_eq_true h1, Bool.true_and]
            by_cases h2 : 0 < l'.length
            · have h2i : (0 : Int) < (l'.length : Int) := by omega
              have HV := Lib.hid (hv.trans (decide_eq_true h2))
              clear hv
              go_wp2_with fail
              go_meet
              exact ⟨by rw [HV.out], rfl⟩
            · have h2i : ¬ (0 : Int) < (l'.length : Int) := by omega
              have HV := Lib.hid (hv.trans (decide_eq_false h2))
              clear hv
              go_wp2_with fail
              go_meet
              exact ⟨by rw [HV.out], rfl⟩
          · have hv : gb = false := by rw [HG.out, decide_eq_false h1, Bool.false_and]
            have HV := Lib.hid hv
            clear hv
            go_wp2_with fail
            go_meet
            exact ⟨by rw [HV.out], rfl⟩
        case rest =>
        obtain ⟨rfl, rfl⟩ := hcut
        rename World => Wj
        cases gb with
        | false =>
          have hg := HG.out
          simp only [Bool.false_eq, Bool.and_eq_false_iff, decide_eq_false_iff_not] at hg
          have hp1 : 0 < piece.length := by omega
          have HGG := Lib.hid hg
          clear hg
          have hpm2 : (taken ++ piece ++ l').Perm ps := by
            rw [List.append_assoc]
            exact (List.Perm.append_left _ HJ.out.1).trans HI.out.1
          obtain ⟨F2, hv, hf1, hf2, hf3⟩ := HJ.out.2.1
          have HPM := Lib.hid (And.intro hpm2 (And.intro hf1 (And.intro hf2 hf3)))
          have hA := Apply9_calls Wj v2 (atD taken) F2 taken.length A1 piece.length c1 piece hv HJ.out.2.2.1.rdc rfl (fun q hq => HP.out.2.1 q (hpm2.mem_iff.1 (by simp [hq]))) (by omega)
          clear hv hpm2 hf1 hf2 hf3
          go_wp2_with fail
          refine hA.mono ?_
          clear hA
          rintro e W7 (⟨hE, rfl, hk7, F3, hv7, hF3⟩ | ⟨hE, z, hz, rfl, hn7⟩)
          case inr =>
            have hz' : (z == (0 : Int)) = false := by simpa using hz
            have HN := Lib.hid hn7
            clear hE hz hn7
            go_wp2_with fail
            go_ret
            exact ⟨rfl, NJW.out.trans HN.out (fun _ _ h => h) (fun _ _ h => h)⟩
          rw [atD_app, List.length_map] at hv7
          obtain ⟨F4, hv7, hs1, hs2⟩ := hv7.small
          have hI7 : OrdI W4 v2 ps l' (taken ++ piece) AL' cL' W7 := by
            refine ⟨HPM.out.1, ⟨F4, by rw [List.length_append]; exact hv7, fun k hk => ⟨?_, hs2 k hk⟩, fun j hj hm => ?_⟩, HJ.out.2.2.2.1.kp hk7 HPM.out.2.2.1, HJ.out.2.2.2.2.2.1, HJ.out.2.2.2.2.2.2.2.trans hk7 (fun _ _ h => h) (fun k hk h => by have := (HPM.out.2.1 k h).1; omega)⟩
            · rcases hF3 k (hs1 k hk) with h | h
              · exact (HPM.out.2.1 k h).1
              · exact Nat.le_trans HJ.out.2.2.2.2.2.2.2.size h
            · rcases hF3 j (hs1 j hm) with h | h
              · exact HPM.out.2.2.1 j hj h
              · have := HJ.out.2.2.2.1.lt j hj
                omega
          have H7 := Lib.hid hI7
          clear hv7 hk7 hE hF3 hs1 hs2 hI7
          go_wp2_with fail
          go_roundg l'.length
          case measure => go_light; omega
          case rel => go_light; exact ⟨i + 1, l', taken ++ piece, AL', cL', rfl, by go_num, rfl, by rw [List.length_append]; omega, by rw [List.length_append]; omega, Lib.hid H7.out⟩
        | true =>
          have hg := HG.out
          simp only [Bool.true_eq, Bool.and_eq_true, decide_eq_true_eq] at hg
          obtain ⟨hg1, hg2⟩ := hg
          go_upto_region 18 with fail
          have hik : i + piece.length ≤ 2097152 := by omega
          obtain ⟨gc, hgc⟩ : ∃ gc : Bool, gc = (decide (i + piece.length < pm.length) && decide (0 ≤ pm.getD (i + piece.length) 0)) := ⟨_, rfl⟩
          have HC := Lib.hid hgc
          clear hgc
          go_cut [88] from 62 to 113 (fun s88 wx => s88 = .bool gc ∧ wx = Wj)
          case first =>
            by_cases h1 : i + piece.length < pm.length
            · have h1i : (i : Int) + (piece.length : Int) < (pm.length : Int) := by omega
              obtain ⟨z, hz⟩ : ∃ z, pm[i + piece.length]? = some z := ⟨_, List.getElem?_eq_getElem h1⟩
              obtain ⟨cb, co, rfl, cz⟩ := RdN.at_ (RdN.new HP.out.2.2.1 NJW.out) hz
              have hv : gc = decide (0 ≤ z) := by rw [HC.out, decide_eq_true h1, List.getD_eq_getElem?_getD, hz]; simp
              have HV := Lib.hid hv
              clear hz hv
              go_wp2_with fail
              go_meet
              exact ⟨by rw [HV.out], rfl⟩
            · have h1i : ¬ (i : Int) + (piece.length : Int) < (pm.length : Int) := by omega
              have hv : gc = false := by rw [HC.out, decide_eq_false h1, Bool.false_and]
              have HV := Lib.hid hv
              clear hv
              go_wp2_with fail
              go_meet
              exact ⟨by rw [HV.out], rfl⟩
          case rest =>
          obtain ⟨rfl, rfl⟩ := hcut
          rename World => Wj
          go_upto_if 88 with fail
          go_cut [11] from 62 to 113 (fun s11 wx => ∃ a : Nat, s11 = .int .i64 (a : Int) ∧ a < l'.length ∧ wx = Wj)
          case first =>
            cases gc with
            | true =>
              have hh := HC.out
              simp only [Bool.true_eq, Bool.and_eq_true, decide_eq_true_eq] at hh
              obtain ⟨h1, h2⟩ := hh
              have h1i : (i : Int) + (piece.length : Int) < (pm.length : Int) := by omega
              obtain ⟨z, hz⟩ : ∃ z, pm[i + piece.length]? = some z := ⟨_, List.getElem?_eq_getElem h1⟩
              rw [List.getD_eq_getElem?_getD, hz] at h2
              have h2' : 0 ≤ z := h2
              have h3 := (HP.out.2.2.2.1 z (List.mem_of_getElem? hz)).2
              obtain ⟨cb, co, rfl, cz⟩ := RdN.at_ (RdN.new HP.out.2.2.1 NJW.out) hz
              clear hz h2
              have hl'i : (0 : Int) < (l'.length : Int) := by omega
              have hl'n : ((l'.length : Int) == 0) = false := beq_eq_false_iff_ne.2 (by omega)
              have hm1 : 0 ≤ z % (l'.length : Int) := Int.emod_nonneg _ (by omega)
              have hm2 : z % (l'.length : Int) < (l'.length : Int) := Int.emod_lt_of_pos _ (by omega)
              have HM := Lib.hid (And.intro hm1 hm2)
              clear hm1 hm2
              go_wp2_with fail
              go_meet
              refine ⟨(z % (l'.length : Int)).toNat, ?_, (Int.toNat_lt HM.out.1).2 HM.out.2, rfl⟩
              rw [Int.toNat_of_nonneg HM.out.1]
            | false =>
              go_wp2_with fail
              go_meet
              exact ⟨0, rfl, hg2, rfl⟩
          case rest =>
          obtain ⟨a, rfl, hal, rfl⟩ := hcut
          rename World => Wj
          have ha0 : (0 : Int) ≤ a := by omega
          have hai : (a : Int) < (l'.length : Int) := by omega
          obtain ⟨p, hp⟩ : ∃ p, l'[a]? = some p := ⟨_, List.getElem?_eq_getElem hal⟩
          obtain ⟨gl, rfl⟩ := HJ.out.2.2.2.1.some_ (by omega)
          obtain ⟨d0, d1, d2, d3, d4, d5, d6, d7, d8⟩ := Own.pst HJ.out.2.2.2.1 hp
          have hcap := HJ.out.2.2.2.1.cap
          have hsu := run_slice_upto (P := Tryd.prog) 22 35 Tryd.underlying22 9 Tryd.size_post (some ⟨gl, 0, none⟩) l'.length cL' a (by omega)
          have hsf := run_slice_from (P := Tryd.prog) 22 35 Tryd.underlying22 9 Tryd.size_post (some ⟨gl, 0, none⟩) l'.length cL' (a + 1) (by omega)
          simp only [show ((a + 1 : Nat) : Int) = (a : Int) + 1 by omega] at hsf
          obtain ⟨AR, hAR⟩ : ∃ AR, adv (some ⟨gl, 0, none⟩) cL' (a + 1) 9 = AR := ⟨_, rfl⟩
          obtain ⟨m, hm⟩ : ∃ m, l'.length - (a + 1) = m := ⟨_, rfl⟩
          obtain ⟨cR, hcR⟩ : ∃ cR, cL' - (a + 1) = cR := ⟨_, rfl⟩
          rw [hAR, hm, hcR] at hsf
          have hma : a + m + 1 = l'.length := by omega
          have hg1n : ¬ Bk A1 gl := HJ.out.2.2.2.2.2.2.1 gl (Bk.some_.2 rfl)
          have hgl : gl < Wj.heap.size := HJ.out.2.2.2.1.lt gl (Bk.some_.2 rfl)
          have HK := Lib.hid (And.intro hp (And.intro hAR (And.intro hm (And.intro hg1n (And.intro hgl hcap)))))
          clear hp hAR hm hcR hg1n hgl hcap
          go_wp2_with (at_builtin; (refine wpList_append_src _ rfl (.tmp 99) (.tmp 104) 22 22 rfl 35 _ 9 104 Tryd.underlying22 Tryd.info_post9 rfl A1 c1 piece.length (piece.flatMap Pst.cells) rfl (HJ.out.2.2.1.new (Kp.alloc _ _ _)) (.slice (some ⟨Wj.heap.size, 0, none⟩) 1 1) rfl 1 _ (Src.ofRow Tryd.underlying22 (heap_alloc_new Wj _) 9 1 1 rfl (by simp [Value.oneCell'])) (by omega) (by omega) ?_; intro A2 c2 w2 q1 q2 q3; have Q2 := Lib.hid (And.intro q1 (And.intro q2 q3)); have O2 := Lib.hid (show Own w2 35 9 (some ⟨gl, 0, none⟩) cL' l'.length (l'.flatMap Pst.cells) from (HJ.out.2.2.2.1.new (Kp.alloc _ _ _)).kp q2 (fun k hk => by obtain rfl := Bk.some_.1 hk; exact HK.out.2.2.2.1)); clear q1 q2 q3))
          clear d0 d1 d2 d3 d4 d5 d6 d7 d8
          have hw1 : IntKind.i64.wrap ((a : Int) + 1) = (a : Int) + 1 := by rw [IntKind.wrap_i64]; omega
          refine wp_region_line (fun _ => True) (pl := [(0, true), (1, true), (2, true), (3, true), (4, true), (5, true), (6, true), (7, false), (8, true)]) hmo (by kernel_rfl) trivial ?_
          iterate 7 (refine line_get rfl rfl (fun K hK => ?_); apply Exists.intro; refine ⟨fun w hS => ?_, ?_⟩; (first | (have hS' := hS rfl; go_simp; with_reducible rfl) | (go_simp; with_reducible rfl)); (go_simp; refine hK _ ?_; clear hK K))
          refine line_do rfl rfl (fun K hK => ?_)
          refine wp_append_src _ (.tmp 108) (.tmp 112) 22 22 rfl 35 _ 9 104 Tryd.underlying22 Tryd.info_post9 rfl (some ⟨gl, 0, none⟩) cL' a ((l'.take a).flatMap Pst.cells) rfl ((O2.out.new (Kp.drew _ _)).take_rows a (by omega)) _ rfl m ((l'.drop (a + 1)).flatMap Pst.cells) (Src.ofRdC Tryd.underlying22 9 _ _ (by rw [fl_drop Pst.len, ← HK.out.2.1]; exact (O2.out.rdc.new (Kp.drew _ _)).from_ cL' (a + 1) 9 (by rw [flat_length Pst.len]; have := HK.out.2.2.2.2.2.1; omega)) (by rw [flat_length Pst.len, List.length_drop, HK.out.2.2.1]) (by decide) (Pst.one _)) (by omega) (by omega) ?_
          intro A4 c4 w4 q1 q2 q3
          have Q4 := Lib.hid (And.intro q1 (And.intro q2 q3))
          clear q1 q2 q3
          refine hK _ _ (fun _ => trivial) ?_
          clear hK K
          (refine line_get rfl rfl (fun K hK => ?_); apply Exists.intro; refine ⟨fun w hS => ?_, ?_⟩; (first | (have hS' := hS rfl; go_simp; with_reducible rfl) | (go_simp; with_reducible rfl)); (go_simp; refine hK _ ?_; clear hK K))
          refine line_nil ?_
          go_wp2_with fail
          go_roundg (l'.length - 1)
          case measure => go_light; omega
          case rel =>
            go_light
            obtain ⟨F2, hv, hf1, hf2, hf3⟩ := HJ.out.2.1
            have k2 : Kp (Bk A1) Wj w2 := (Kp.alloc _ _ _).trans Q2.out.2.1 (fun _ _ (h : False) => h.elim) (fun _ _ h => h)
            have k4 : Kp (Bk (some ⟨gl, 0, none⟩)) w2 w4 := (Kp.drew _ _).trans Q4.out.2.1 (fun _ _ (h : False) => h.elim) (fun _ _ h => h)
            have g1 := HJ.out.2.2.2.2.1
            have g2 := HJ.out.2.2.2.2.2.1
            have n4 : New W4 w4 := (HJ.out.2.2.2.2.2.2.2.trans k2 (U := fun _ => False) (fun _ _ h => h) (fun j hj h => by have := g1 j h; omega)).trans k4 (fun _ _ h => h) (fun j hj h => by have := g2 j h; omega)
            have s1 : W4.heap.size ≤ Wj.heap.size := HJ.out.2.2.2.2.2.2.2.size
            have s2 : Wj.heap.size < w2.heap.size := by
              have := Q2.out.2.1.size
              simp at this
              omega
            have s4 : w2.heap.size ≤ w4.heap.size := k4.size
            have hA2 : ∀ j, Bk A2 j → Bk A1 j ∨ Wj.heap.size ≤ j := fun j hj => by
              rcases Q2.out.2.2 j hj with h | h
              · exact .inl h
              · refine .inr ?_
                simp at h
                omega
            have hA2s : ∀ j, Bk A2 j → j < w2.heap.size := Q2.out.1.lt
            have hA4 : ∀ j, Bk A4 j → j = gl ∨ w2.heap.size ≤ j := fun j hj => by
              rcases Q4.out.2.2 j hj with h | h
              · exact .inl (Bk.some_.1 h).symm
              · have e : w2.drew.heap.size = w2.heap.size := rfl
                exact .inr (by omega)
            have hgw := HK.out.2.2.2.2.1
            have hgl2 : ¬ Bk A2 gl := fun h => (hA2 gl h).elim HK.out.2.2.2.1 (fun h => by omega)
            have hlg := g2 gl (Bk.some_.2 rfl)
            have e2 : a + m = (l'.take a ++ l'.drop (a + 1)).length := by rw [List.length_append, List.length_take, List.length_drop]; omega
            have e3 : (piece ++ [p]).length = piece.length + 1 := by simp
            refine ⟨l'.take a ++ l'.drop (a + 1), piece ++ [p], A2, c2, A4, c4, by rw [e2], by rw [e3], by rw [e3]; rfl, by omega, by rw [e3]; omega, by omega, Lib.hid ⟨perm_pick HJ.out.1 HK.out.1, ⟨F2, (hv.kp k2 fun k hk h => hf3 k h hk).kp k4 fun k hk h => hf2 k h hk, fun k hk => ⟨(hf1 k hk).1, by have := (hf1 k hk).2; omega⟩, fun j hj hm => ?_, fun j hj hm => ?_⟩, ?_, ?_, fun j hj => ?_, fun j hj => ?_, fun j h4 h2 => ?_, n4⟩⟩
            · rcases hA4 j hj with h | h
              · exact hf2 j (by rw [h]; exact Bk.some_.2 rfl) hm
              · have := (hf1 j hm).2
                omega
            · rcases hA2 j hj with h | h
              · exact hf3 j h hm
              · have := (hf1 j hm).2
                omega
            · rw [e3, List.flatMap_append]
              exact Q2.out.1.kp k4 (fun j h2 h3 => hgl2 (by rw [show gl = j from Bk.some_.1 h3]; exact h2))
            · rw [← e2, List.flatMap_append]
              exact Q4.out.1
            · rcases hA2 j hj with h | h
              · exact g1 j h
              · omega
            · rcases hA4 j hj with h | h <;> omega
            · rcases hA4 j h4 with h | h
              · exact hgl2 (by rw [← h]; exact h2)
              · have := hA2s j h2
                omega
    · have hl0 : l = [] := List.eq_nil_of_length_eq_zero (by omega)
      subst hl0
      have hpt : taken.Perm ps := by have := HI.out.1; rwa [List.append_nil] at this
      obtain ⟨F2, vt, hf1, hf2⟩ := HI.out.2.1
      have v1 : ViewD Wi v (atD ps) F1 ps.length := H4.out.1.new HI.out.2.2.2.2
      have hsm : SameD (atD taken) (atD ps) := sameD_perm (hpt.map _)
      have htl : taken.length ≤ 1048576 := by have := hpt.length_eq; omega
      obtain ⟨O1, hO1⟩ : ∃ O1, atD ps = O1 := ⟨_, rfl⟩
      obtain ⟨O2, hO2⟩ : ∃ O2, atD taken = O2 := ⟨_, rfl⟩
      rw [hO1] at v1 hsm
      rw [hO2] at vt hsm
      have hS := State9_calls Wi v O1 F1 ps.length v1 (by omega)
      have HV := Lib.hid (And.intro v1 (And.intro vt (And.intro hsm v1.facts)))
      clear hpt v1 vt hsm hO1 hO2 y0 z0 hf1 hf2
      go_wp2_with fail
      refine hS.mono ?_
      clear hS
      rintro e W7 ⟨A7, c7, N7, hcov, rfl, hO, hn7, hb7, hl7⟩
      obtain ⟨ln, hln⟩ : ∃ ln, (stateD N7 O1).length = ln := ⟨_, rfl⟩
      have hlb : ln ≤ 1099511627776 := by omega
      rw [hln]
      have hF := From9_calls W7 A7 ln c7 (stateD N7 O1) hO.rdc hln.symm (state_ok HV.out.2.2.2.1 HV.out.2.2.2.2.1) hlb
      have H7 := Lib.hid (And.intro hcov (And.intro hln (And.intro (NWI.out.trans hn7 (fun _ _ h => h) (fun _ _ h => h)) (And.intro (HV.out.1.new hn7) (HV.out.2.1.new hn7)))))
      clear hcov hO hn7 hb7 hl7 hln
      go_wp2_with fail
      refine hF.mono ?_
      clear hF
      rintro e W8 (⟨hok, u, FU, rfl, hu, hn8, hFU⟩ | ⟨hbad, rfl, hn8⟩)
      case inr => exact absurd (okF_state H7.out.1.1 HV.out.2.2.2.1 (fun n h => (HV.out.2.2.2.2.1 n h).1) HV.out.2.2.2.2.2) hbad
      rw [funext (ofF_state H7.out.1), H7.out.2.1] at hu
      obtain ⟨OU, hOU⟩ : ∃ OU : DO, (fun n => canon (O1 n)) = OU := ⟨_, rfl⟩
      have hsu : SameD OU O1 := hOU ▸ sameD_canon O1
      rw [hOU] at hu
      have hS8 := State9_calls W8 v O1 F1 ps.length (H7.out.2.2.2.1.new hn8) (by omega)
      have H8 := Lib.hid (And.intro (H7.out.2.2.1.trans hn8 (fun _ _ h => h) (fun _ _ h => h)) (And.intro (H7.out.2.2.2.1.new hn8) (And.intro (H7.out.2.2.2.2.new hn8) (And.intro hu hsu))))
      clear hok hu hn8 hFU hOU hsu
      go_wp2_with fail
      refine hS8.mono ?_
      clear hS8
      rintro e W9 ⟨A9, c9, N9, hcov9, rfl, hO9, hn9, hb9, hl9⟩
      obtain ⟨n9, hln9⟩ : ∃ n9, (stateD N9 O1).length = n9 := ⟨_, rfl⟩
      rw [hln9] at hl9 ⊢
      have hS9 := State9_calls W9 v2 O2 F2 taken.length (H8.out.2.2.1.new hn9) (by omega)
      have H9 := Lib.hid (And.intro hcov9 (And.intro hO9 (And.intro (H8.out.1.trans hn9 (fun _ _ h => h) (fun _ _ h => h)) (And.intro (H8.out.2.1.new hn9) (And.intro (H8.out.2.2.2.1.new hn9) hln9)))))
      clear hcov9 hO9 hn9 hb9 hln9
      go_wp2_with fail
      refine hS9.mono ?_
      clear hS9
      rintro e W10 ⟨A10, c10, N10, hcov10, rfl, hO10, hn10, hb10, hl10⟩
      obtain ⟨n10, hln10⟩ : ∃ n10, (stateD N10 O2).length = n10 := ⟨_, rfl⟩
      rw [hln10] at hl10 ⊢
      have hsame := same9_calls W10 A9 A10 n9 n10 c9 c10 (stateD N9 O1) (stateD N10 O2) (H9.out.2.1.rdc.new hn10) hO10.rdc H9.out.2.2.2.2.2.symm hln10.symm (by omega)
      have H10 := Lib.hid (And.intro (state_same H9.out.1 hcov10 HV.out.2.2.1.symm) (And.intro (H9.out.2.2.1.trans hn10 (fun _ _ h => h) (fun _ _ h => h)) (And.intro (H9.out.2.2.2.1.new hn10) (H9.out.2.2.2.2.1.new hn10))))
      clear hcov10 hO10 hn10 hb10 hln10
      go_wp2_with fail
      refine hsame.mono ?_
      clear hsame
      rintro e W11 ⟨r, rfl, hr, hn11⟩
      obtain rfl : r = true := hr.2 H10.out.1
      have hS11 := State9_calls W11 v O1 F1 ps.length (H10.out.2.2.1.new hn11) (by omega)
      have H11 := Lib.hid (And.intro (H10.out.2.1.trans hn11 (fun _ _ h => h) (fun _ _ h => h)) (H10.out.2.2.2.new hn11))
      clear hr hn11
      go_wp2_with fail
      refine hS11.mono ?_
      clear hS11
      rintro e W12 ⟨A12, c12, N12, hcov12, rfl, hO12, hn12, hb12, hl12⟩
      obtain ⟨n12, hln12⟩ : ∃ n12, (stateD N12 O1).length = n12 := ⟨_, rfl⟩
      rw [hln12] at hl12 ⊢
      have hS12 := State9_calls W12 u OU FU ln (H11.out.2.new hn12) (by omega)
      have H12 := Lib.hid (And.intro hcov12 (And.intro hO12 (And.intro (H11.out.1.trans hn12 (fun _ _ h => h) (fun _ _ h => h)) hln12)))
      clear hcov12 hO12 hn12 hb12 hln12
      go_wp2_with fail
      refine hS12.mono ?_
      clear hS12
      rintro e W13 ⟨A13, c13, N13, hcov13, rfl, hO13, hn13, hb13, hl13⟩
      obtain ⟨n13, hln13⟩ : ∃ n13, (stateD N13 OU).length = n13 := ⟨_, rfl⟩
      rw [hln13] at hl13 ⊢
      have hsame := same9_calls W13 A12 A13 n12 n13 c12 c13 (stateD N12 O1) (stateD N13 OU) (H12.out.2.1.rdc.new hn13) hO13.rdc H12.out.2.2.2.symm hln13.symm (by omega)
      have H13 := Lib.hid (And.intro (state_same H12.out.1 hcov13 H8.out.2.2.2.2.symm) (H12.out.2.2.1.trans hn13 (fun _ _ h => h) (fun _ _ h => h)))
      clear hcov13 hO13 hn13 hb13 hln13
      go_wp2_with fail
      refine hsame.mono ?_
      clear hsame
      rintro e W14 ⟨r, rfl, hr, hn14⟩
      obtain rfl : r = true := hr.2 H13.out.1
      have N14 := Lib.hid hn14
      clear hr hn14
      go_wp2_with fail
      go_ret
      exact ⟨rfl, H13.out.2.trans N14.out (fun _ _ h => h) (fun _ _ h => h)⟩
end Go.Proofs.YtejmndfdmikfaaaDoor.Kit
