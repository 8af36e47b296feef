/- SumsOrder: rows at once, or in another order and piece by piece: the same state; From of it, too. -/
import Derived.Test.YtejmndfdmikfaaaDoorOrderM
import Derived.Test.YtejmndfdmikfaaaDoorPostIn
import Derived.Deep.DeepCutAuto
import Derived.Deep.CutRange
namespace Go.Proofs.YtejmndfdmikfaaaDoor.Kit
open Go Go.RowKit

theorem Tryd.size_post : (Tryd.prog.info? 35).map (·.size) = some 9 := by kernel_rfl
theorem Own.pst {w : World} {e : TypeId} {g c n : Nat} {ps : List Pst} (h : Own w e 9 (some ⟨g, 0, none⟩) c n (ps.flatMap Pst.cells)) {i : Nat} {p : Pst} (hp : ps[i]? = some p) : PstAt w g (i * 9) p :=
  ⟨h.cell (j := i * 9 + 0) (flat_get Pst.len ps i 0 p hp (by decide)), h.cell (flat_get Pst.len ps i 1 p hp (by decide)), h.cell (flat_get Pst.len ps i 2 p hp (by decide)), h.cell (flat_get Pst.len ps i 3 p hp (by decide)), h.cell (flat_get Pst.len ps i 4 p hp (by decide)), h.cell (flat_get Pst.len ps i 5 p hp (by decide)), h.cell (flat_get Pst.len ps i 6 p hp (by decide)), h.cell (flat_get Pst.len ps i 7 p hp (by decide)), h.cell (flat_get Pst.len ps i 8 p hp (by decide))⟩
theorem RdN.at_ {w : World} {A : Option Addr} {l : List Int} (h : RdN w A l) {i : Nat} {z : Int} (hz : l[i]? = some z) : ∃ b off, A = some ⟨b, off, none⟩ ∧ w.cell? ⟨b, off + i, none⟩ = some (.int .i64 z) := by
  obtain ⟨b, off, rfl, hc⟩ := h (by intro e; have := congrArg List.length e; simp at this; subst this; simp at hz)
  exact ⟨b, off, rfl, hc i _ (by rw [List.getElem?_map, hz]; rfl)⟩
theorem RdN.new {w w' : World} {A : Option Addr} {l : List Int} (h : RdN w A l) (hk : New w w') : RdN w' A l := RdC.new h hk
/-- What a piece's rows make. -/
abbrev atO (taken : List Pst) : List UInt8 → Int := plusO (fun _ => 0) (rowsAt (taken.map Pst.row))
theorem atO_nil : atO [] = fun _ => 0 := by funext k; rfl
theorem atO_app (a b : List Pst) : plusO (atO a) (rowsAt (b.map Pst.row)) = atO (a ++ b) := by
  unfold atO
  rw [plusO_app, List.map_append]
theorem atO_perm {a b : List Pst} (h : a.Perm b) : atO a = atO b := by
  unfold atO
  rw [rowsAt_perm' (h.map _)]
def OrderI (Wb : World) (F2 : List Nat) (v2 : Nat) (ps l taken : List Pst) (K2 : List (List UInt8)) (AL : Option Addr) (cL : Nat) (wx : World) : Prop :=
  (taken ++ l).Perm ps ∧ ViewAt wx v2 K2 (atO taken) F2 ∧ K2.length ≤ taken.length ∧ Own wx 35 9 AL cL l.length (l.flatMap Pst.cells) ∧ (∀ j, Bk AL j → j ∉ F2) ∧ Kp (· ∈ F2) Wb wx
def PieceI (Wi : World) (l l' piece : List Pst) (A1 : Option Addr) (c1 : Nat) (AL : Option Addr) (cL : Nat) (AL0 : Option Addr) (wx : World) : Prop :=
  (piece ++ l').Perm l ∧ Own wx 35 9 A1 c1 piece.length (piece.flatMap Pst.cells) ∧ Own wx 35 9 AL cL l'.length (l'.flatMap Pst.cells) ∧ New Wi wx ∧ (∀ j, Bk A1 j → Wi.heap.size ≤ j) ∧ (∀ j, Bk AL j → ¬ Bk A1 j) ∧ (∀ j, Bk AL j → Bk AL0 j ∨ Wi.heap.size ≤ j)
set_option maxRecDepth 100000 in
set_option maxHeartbeats 8000000 in
theorem SumsOrder_calls (w : World) (A PA CA : Option Addr) (c pc cc : Nat) (ps : List Pst) (pm ct : List Int) (hP : RdP w A ps) (okP : ∀ p ∈ ps, p.Ok) (lP : ps.length ≤ 1048576) (hpm : RdN w PA pm) (bpm : ∀ z ∈ pm, -9223372036854775808 ≤ z ∧ z ≤ 9223372036854775807) (lpm : pm.length ≤ 1048576) (hct : RdN w CA ct) (bct : ∀ z ∈ ct, -9223372036854775808 ≤ z ∧ z ≤ 9223372036854775807) (_ : ct.length ≤ 1048576) :
    Calls Tryd.prog 5 #[.agg #[.slice A ps.length c, .slice PA pm.length pc, .slice CA ct.length cc]] w fun e w' => e = .returned (.bool true) ∧ New w w' := by
  have HP := Lib.hid (And.intro hP (And.intro okP (And.intro hpm (And.intro bpm (And.intro hct bct)))))
  clear hP okP hpm bpm hct bct
  go_enter Tryd.func5, Tryd.ntmps5
  go_wp2_with fail
  refine (first_calls _).mono ?_
  rintro e W1 ⟨rfl, hn1⟩
  have x0 : W1.cell? ⟨w.heap.size, 0, none⟩ = some (.slice A ps.length c) := New.cell hn1 ((cell_of_block (heap_alloc_new w _)).trans rfl)
  have y0 : W1.cell? ⟨w.heap.size, 1, none⟩ = some (.slice PA pm.length pc) := New.cell hn1 ((cell_of_block (heap_alloc_new w _)).trans rfl)
  have z0 : W1.cell? ⟨w.heap.size, 2, none⟩ = some (.slice CA ct.length cc) := New.cell hn1 ((cell_of_block (heap_alloc_new w _)).trans rfl)
  have n1 : New w W1 := (Kp.alloc _ _ _).trans hn1 (fun _ _ h => h) (fun _ _ h => h)
  have w1 : w.heap.size < W1.heap.size := World.block_lt_of_cell? W1 _ x0
  have N1 := Lib.hid (And.intro n1 (And.intro y0 (And.intro z0 w1)))
  clear hn1 n1 y0 z0 w1
  go_wp2_with fail
  refine (New_calls W1).mono ?_
  rintro e W2 ⟨v, F, rfl, hV, hn, hF⟩
  have x2 := New.cell hn x0
  have H2 := Lib.hid (And.intro hV (And.intro (N1.out.1.trans hn (fun _ _ h => h) (fun _ _ h => h)) (And.intro (fun k hk => Nat.le_trans N1.out.1.size (hF k hk)) (And.intro hn hF))))
  clear hV hn hF x0
  go_wp2_with (at_builtin; refine wpList_append_src _ rfl (.const (.slice none 0 0)) (.tmp 23) 22 22 rfl 35 _ 9 104 Tryd.underlying22 Tryd.info_post rfl none 0 0 [] rfl (Own.nil _ _ _) _ rfl ps.length (ps.flatMap Pst.cells) (Src.ofRdC Tryd.underlying22 9 _ _ (HP.out.1.new H2.out.2.1) (flat_length Pst.len ps) (by decide) (Pst.one ps)) (by omega) (by omega) ?_; intro A3 c3 W3 h31 h32 h33; simp only [Nat.zero_add, List.nil_append] at h31; have n23 := Kp.mono (U := fun _ => False) h32 (fun _ _ h => absurd h Bk.none_); have H3 := Lib.hid (And.intro h31 n23); clear h31 h32 h33 n23)
  have hvA := H2.out.1.new H3.out.2
  refine (Apply_calls W3 v [] (fun _ => 0) F A3 c3 ps hvA H3.out.1.rdc HP.out.2.1 (by simp; omega)).mono ?_
  clear hvA
  have nw3 : New w W3 := H2.out.2.1.trans H3.out.2 (fun _ _ h => h) (fun _ _ h => h)
  have NW3 := Lib.hid (And.intro nw3 (H2.out.1.new H3.out.2))
  clear nw3
  rintro e W4 (⟨hE, rfl, hv4, hk4⟩ | ⟨hE, z, hz, rfl, hn4⟩)
  case inr =>
    have hz' : (z == (0 : Int)) = false := by simpa using hz
    have HN := Lib.hid hn4
    have hS := State_calls W4 v [] (fun _ => 0) F (NW3.out.2.new HN.out) (by simp)
    clear hE hz hn4 x2
    go_wp2_with fail
    refine hS.mono ?_
    rintro e W5 ⟨A5, c5, N, rfl, hT, hO, hn5, hb5⟩
    obtain rfl := told_zero hT
    have N5 := Lib.hid hn5
    clear hT hO hn5 hb5 hS
    go_wp2_with fail
    go_ret
    exact ⟨rfl, (NW3.out.1.trans HN.out (fun _ _ h => h) (fun _ _ h => h)).trans N5.out (fun _ _ h => h) (fun _ _ h => h)⟩
  have hE0 : names2 [] (rowNames (ps.map Pst.row)) = names2 [] (rowNames (ps.map Pst.row)) := rfl
  obtain ⟨K1, hK1⟩ : ∃ K1, names2 [] (rowNames (ps.map Pst.row)) = K1 := ⟨_, rfl⟩
  have hK1l : K1.length ≤ 1048576 := by
    rw [← hK1]
    have h1 := names2_length [] (rowNames (ps.map Pst.row))
    have h2 := rowNames_length (ps.map Pst.row)
    simp at h1 h2
    omega
  rw [hK1] at hv4
  have nw4 : New w W4 := NW3.out.1.trans hk4 (fun _ _ h => h) (fun k hk h => by have := H2.out.2.2.1 k h; omega)
  have n14 : New W1 W4 := (H2.out.2.2.2.1.trans H3.out.2 (fun _ _ h => h) (fun _ _ h => h)).trans hk4 (fun _ _ h => h) (fun k hk h => by have := H2.out.2.2.2.2 k h; omega)
  have x4 : W4.cell? ⟨w.heap.size, 0, none⟩ = some (.slice A ps.length c) := by
    refine Kp.cell_of hk4 (New.cell H3.out.2 x2) fun h => ?_
    have h1 := H2.out.2.2.2.2 _ h
    have h2 := N1.out.2.2.2
    exact absurd h1 (by show ¬ _ ≤ w.heap.size; omega)
  have HX := Lib.hid (And.intro (New.cell n14 N1.out.2.1) (New.cell n14 N1.out.2.2.1))
  have H4 := Lib.hid (And.intro (show ViewAt W4 v K1 (atO ps) F from hv4) nw4)
  clear hv4 nw4 n14 hk4 hK1 x2 hE hE0
  go_wp2_with (at_builtin; refine wpList_append_src _ rfl (.const (.slice none 0 0)) (.tmp 32) 22 22 rfl 35 _ 9 104 Tryd.underlying22 Tryd.info_post rfl none 0 0 [] rfl (Own.nil _ _ _) _ rfl ps.length (ps.flatMap Pst.cells) (Src.ofRdC Tryd.underlying22 9 _ _ (HP.out.1.new H4.out.2) (flat_length Pst.len ps) (by decide) (Pst.one ps)) (by omega) (by omega) ?_; intro A5 c5 W5 h51 h52 h53; simp only [Nat.zero_add, List.nil_append] at h51; have n45 := Kp.mono (U := fun _ => False) h52 (fun _ _ h => absurd h Bk.none_); have x5 := New.cell n45 x4; have H5 := Lib.hid (And.intro h51 (And.intro n45 (And.intro (New.cell n45 HX.out.1) (New.cell n45 HX.out.2)))); clear h51 h52 h53 n45 x4)
  refine (New_calls W5).mono ?_
  rintro e W6 ⟨v2, F2, rfl, hV, hn, hF⟩
  have X6 := Lib.hid (And.intro (New.cell hn x5) (And.intro (New.cell hn H5.out.2.2.1) (New.cell hn H5.out.2.2.2)))
  have n46 : New W4 W6 := H5.out.2.1.trans hn (fun _ _ h => h) (fun _ _ h => h)
  have nw6 : New w W6 := H4.out.2.trans n46 (fun _ _ h => h) (fun _ _ h => h)
  have w6 : w.heap.size < W5.heap.size := World.block_lt_of_cell? W5 _ x5
  have H6 := Lib.hid (And.intro hV (And.intro (H5.out.1.new hn) (And.intro hF (And.intro (H4.out.1.new n46) (And.intro nw6 (And.intro w6 (fun k hk => Nat.lt_of_lt_of_le (H4.out.1.lt k hk) H5.out.2.1.size)))))))
  have HB5 := Lib.hid (fun k (hk : Bk A5 k) => H5.out.1.lt k hk)
  clear hV hn hF x5 n46 nw6 w6
  go_wp2_with fail
  go_loopg [5, 7] ps.length (fun g s5 s7 wx => ∃ (i : Nat) (l taken : List Pst) (K2 : List (List UInt8)) (AL : Option Addr) (cL : Nat), s5 = .slice AL l.length cL ∧ s7 = .int .i64 (i : Int) ∧ g = l.length ∧ i ≤ taken.length ∧ taken.length + l.length = ps.length ∧ Hid (OrderI W6 F2 v2 ps l taken K2 AL cL wx))
  case atStart => exact ⟨0, ps, [], [], A5, c5, rfl, rfl, rfl, Nat.le_refl _, by simp, Lib.hid ⟨List.Perm.refl _, by rw [atO_nil]; exact H6.out.1, Nat.le_refl _, H6.out.2.1, fun j hj hm => by have h1 := H6.out.2.2.1 j hm; have h2 := HB5.out j hj; omega, Kp.refl _ _⟩⟩
  case round =>
    obtain ⟨i, l, taken, K2, AL, cL, rfl, rfl, rfl, hi, hlen, HI⟩ := hrel
    have hi0 : (0 : Int) ≤ i := by omega
    rename World => Wi
    have hxi : ¬ (w.heap.size ∈ F2) := fun h => by have h1 := H6.out.2.2.1 _ h; have h2 := H6.out.2.2.2.2.2.1; omega
    have x0 := Kp.cell_of HI.out.2.2.2.2.2 X6.out.1 hxi
    have y0 := Kp.cell_of HI.out.2.2.2.2.2 X6.out.2.1 hxi
    have z0 := Kp.cell_of HI.out.2.2.2.2.2 X6.out.2.2 hxi
    have nwi : New w Wi := H6.out.2.2.2.2.1.trans HI.out.2.2.2.2.2 (fun _ _ h => h) (fun k hk h => by have h1 := H6.out.2.2.1 k h; have h2 := H6.out.2.2.2.2.2.1; omega)
    have NWI := Lib.hid (And.intro nwi hxi)
    clear nwi hxi
    by_cases hl : 0 < l.length
    · have hl2 : (0 : Int) < (l.length : Int) := by omega
      go_upto_region 13 with fail
      obtain ⟨gb, hgb⟩ : ∃ gb : Bool, gb = (decide (i < ct.length) && decide (1 < ct.getD i 0)) := ⟨_, rfl⟩
      have HG := Lib.hid hgb
      clear hgb
      go_cut [52] from 35 to 117 (fun s52 wx => s52 = .bool gb ∧ wx = Wi)
      case first =>
        by_cases h1 : i < ct.length
        · have h1i : (i : Int) < (ct.length : Int) := by omega
          obtain ⟨z, hz⟩ : ∃ z, ct[i]? = some z := ⟨_, List.getElem?_eq_getElem h1⟩
          obtain ⟨cb, co, rfl, cz⟩ := RdN.at_ (RdN.new HP.out.2.2.2.2.1 NWI.out.1) hz
          have hv : gb = decide (1 < z) := by rw [HG.out, decide_eq_true h1, List.getD_eq_getElem?_getD, hz]; simp
          have HV := Lib.hid hv
          clear hz hv
          go_wp2_with fail
          go_meet
          exact ⟨by rw [HV.out], rfl⟩
        · have h1i : ¬ (i : Int) < (ct.length : Int) := by omega
          have hv : gb = false := by rw [HG.out, decide_eq_false h1, Bool.false_and]
          have HV := Lib.hid hv
          clear hv
          go_wp2_with fail
          go_meet
          exact ⟨by rw [HV.out], rfl⟩
      case rest =>
      obtain ⟨rfl, rfl⟩ := hcut
      go_upto_if 52 with fail
      rename World => Wi
      go_cut [8] from 35 to 117 (fun s8 wx => ∃ nv : Int, s8 = .int .i64 nv ∧ 1 ≤ nv ∧ nv ≤ 9223372036854775807 ∧ wx = Wi)
      case first =>
        cases gb with
        | true =>
          have hg := HG.out
          simp only [Bool.true_eq, Bool.and_eq_true, decide_eq_true_eq] at hg
          obtain ⟨h1, h2⟩ := hg
          have h1i : (i : Int) < (ct.length : Int) := by omega
          obtain ⟨z, hz⟩ : ∃ z, ct[i]? = some z := ⟨_, List.getElem?_eq_getElem h1⟩
          rw [List.getD_eq_getElem?_getD, hz] at h2
          have h2' : 1 < z := h2
          have h3 := (HP.out.2.2.2.2.2 z (List.mem_of_getElem? hz)).2
          obtain ⟨cb, co, rfl, cz⟩ := RdN.at_ (RdN.new HP.out.2.2.2.2.1 NWI.out.1) hz
          clear hz h2
          go_wp2_with fail
          go_meet
          exact ⟨z, rfl, by omega, h3, rfl⟩
        | false =>
          go_wp2_with fail
          go_meet
          exact ⟨1, rfl, by omega, by omega, rfl⟩
      case rest =>
      obtain ⟨nv, rfl, hnv1, hnv2, rfl⟩ := hcut
      rename World => Wi
      go_wp2_with fail
      go_loopg [5, 9, 10] l.length (fun g s5 s9 s10 wx => ∃ (l' piece : List Pst) (A1 : Option Addr) (c1 : Nat) (AL' : Option Addr) (cL' : Nat), s5 = .slice AL' l'.length cL' ∧ s9 = .slice A1 piece.length c1 ∧ s10 = .int .i64 (piece.length : Int) ∧ g = l'.length ∧ (piece.length : Int) ≤ nv ∧ piece.length + l'.length = l.length ∧ Hid (PieceI Wi l l' piece A1 c1 AL' cL' AL wx))
      case atStart => exact ⟨l, [], none, 0, AL, cL, rfl, rfl, rfl, rfl, by simp; omega, by simp, Lib.hid ⟨List.Perm.refl _, Own.nil _ _ _, HI.out.2.2.2.1, Kp.refl _ _, fun j hj => absurd hj Bk.none_, fun j _ hj => absurd hj Bk.none_, fun j hj => .inl hj⟩⟩
      case round =>
        obtain ⟨l', piece, A1, c1, AL', cL', rfl, rfl, rfl, rfl, hpn, hpl, HJ⟩ := hrel
        rename World => Wj
        have njw : New w Wj := NWI.out.1.trans HJ.out.2.2.2.1 (fun _ _ h => h) (fun _ _ h => h)
        have x1 := New.cell HJ.out.2.2.2.1 x0
        have y1 := New.cell HJ.out.2.2.2.1 y0
        have NJW := Lib.hid njw
        clear njw
        go_upto_region 17 with fail
        obtain ⟨gb, hgb⟩ : ∃ gb : Bool, gb = (decide ((piece.length : Int) < nv) && decide (0 < l'.length)) := ⟨_, rfl⟩
        have HG := Lib.hid hgb
        clear hgb
        go_cut [65] from 58 to 113 (fun s65 wx => s65 = .bool gb ∧ wx = Wj)
        case first =>
          by_cases h1 : (piece.length : Int) < nv
          · have hv : gb = decide (0 < l'.length) := by rw [HG.out, decide_eq_true h1, Bool.true_and]
            by_cases h2 : 0 < l'.length
            · have h2i : (0 : Int) < (l'.length : Int) := by omega
              have HV := Lib.hid (hv.trans (decide_eq_true h2))
              clear hv
              go_wp2_with fail
              go_meet
              exact ⟨by rw [HV.out], rfl⟩
            · have h2i : ¬ (0 : Int) < (l'.length : Int) := by omega
              have HV := Lib.hid (hv.trans (decide_eq_false h2))
              clear hv
              go_wp2_with fail
              go_meet
              exact ⟨by rw [HV.out], rfl⟩
          · have hv : gb = false := by rw [HG.out, decide_eq_false h1, Bool.false_and]
            have HV := Lib.hid hv
            clear hv
            go_wp2_with fail
            go_meet
            exact ⟨by rw [HV.out], rfl⟩
        case rest =>
        obtain ⟨rfl, rfl⟩ := hcut
        rename World => Wj
        cases gb with
        | false =>
          have hg := HG.out
          simp only [Bool.false_eq, Bool.and_eq_false_iff, decide_eq_false_iff_not] at hg
          have hp1 : 0 < piece.length := by omega
          have HGG := Lib.hid hg
          clear hg
          have hpm2 : (taken ++ piece ++ l').Perm ps := by
            rw [List.append_assoc]
            exact (List.Perm.append_left _ HJ.out.1).trans HI.out.1
          have hv := HI.out.2.1.new HJ.out.2.2.2.1
          go_wp2_with fail
          refine (Apply_calls Wj v2 K2 (atO taken) F2 A1 c1 piece hv HJ.out.2.1.rdc (fun q hq => HP.out.2.1 q (hpm2.mem_iff.1 (by simp [hq]))) (by have := HI.out.2.2.1; omega)).mono ?_
          have HPM := Lib.hid hpm2
          clear hv hpm2
          rintro e W7 (⟨hE, rfl, hv7, hk7⟩ | ⟨hE, z, hz, rfl, hn7⟩)
          case inr =>
            have hz' : (z == (0 : Int)) = false := by simpa using hz
            have HN := Lib.hid hn7
            clear hE hz hn7
            go_wp2_with fail
            go_ret
            exact ⟨rfl, NJW.out.trans HN.out (fun _ _ h => h) (fun _ _ h => h)⟩
          rw [atO_app] at hv7
          have hl2' : (names2 K2 (rowNames (piece.map Pst.row))).length ≤ (taken ++ piece).length := by
            have h1 := names2_length K2 (rowNames (piece.map Pst.row))
            have h2 := rowNames_length (piece.map Pst.row)
            have h3 := HI.out.2.2.1
            rw [List.length_map] at h2
            rw [List.length_append]
            omega
          have k67 : Kp (· ∈ F2) W6 W7 := (HI.out.2.2.2.2.2.trans HJ.out.2.2.2.1 (fun _ _ h => h) (fun _ _ (h : False) => h.elim)).trans hk7 (fun _ _ h => h) (fun _ _ h => h)
          have hALF : ∀ j, Bk AL' j → j ∉ F2 := fun j hj hm => by
            rcases HJ.out.2.2.2.2.2.2 j hj with h | h
            · exact HI.out.2.2.2.2.1 j h hm
            · have := HI.out.2.1.lt j hm
              omega
          have H7 := Lib.hid (And.intro hv7 (And.intro hl2' (And.intro k67 (And.intro hALF (HJ.out.2.2.1.kp hk7 hALF)))))
          clear hv7 hl2' k67 hALF hk7 hE
          go_wp2_with fail
          go_roundg l'.length
          case measure => go_light; omega
          case rel => go_light; exact ⟨i + 1, l', taken ++ piece, _, AL', cL', rfl, by go_num, rfl, by rw [List.length_append]; omega, by rw [List.length_append]; omega, Lib.hid ⟨HPM.out, H7.out.1, H7.out.2.1, H7.out.2.2.2.2, H7.out.2.2.2.1, H7.out.2.2.1⟩⟩
        | true =>
          have hg := HG.out
          simp only [Bool.true_eq, Bool.and_eq_true, decide_eq_true_eq] at hg
          obtain ⟨hg1, hg2⟩ := hg
          go_upto_region 20 with fail
          have hik : i + piece.length ≤ 2097152 := by omega
          obtain ⟨gc, hgc⟩ : ∃ gc : Bool, gc = (decide (i + piece.length < pm.length) && decide (0 ≤ pm.getD (i + piece.length) 0)) := ⟨_, rfl⟩
          have HC := Lib.hid hgc
          clear hgc
          go_cut [84] from 58 to 113 (fun s84 wx => s84 = .bool gc ∧ wx = Wj)
          case first =>
            by_cases h1 : i + piece.length < pm.length
            · have h1i : (i : Int) + (piece.length : Int) < (pm.length : Int) := by omega
              obtain ⟨z, hz⟩ : ∃ z, pm[i + piece.length]? = some z := ⟨_, List.getElem?_eq_getElem h1⟩
              obtain ⟨cb, co, rfl, cz⟩ := RdN.at_ (RdN.new HP.out.2.2.1 NJW.out) hz
              have hv : gc = decide (0 ≤ z) := by rw [HC.out, decide_eq_true h1, List.getD_eq_getElem?_getD, hz]; simp
              have HV := Lib.hid hv
              clear hz hv
              go_wp2_with fail
              go_meet
              exact ⟨by rw [HV.out], rfl⟩
            · have h1i : ¬ (i : Int) + (piece.length : Int) < (pm.length : Int) := by omega
              have hv : gc = false := by rw [HC.out, decide_eq_false h1, Bool.false_and]
              have HV := Lib.hid hv
              clear hv
              go_wp2_with fail
              go_meet
              exact ⟨by rw [HV.out], rfl⟩
          case rest =>
          obtain ⟨rfl, rfl⟩ := hcut
          rename World => Wj
          go_upto_if 84 with fail
          go_cut [11] from 58 to 113 (fun s11 wx => ∃ a : Nat, s11 = .int .i64 (a : Int) ∧ a < l'.length ∧ wx = Wj)
          case first =>
            cases gc with
            | true =>
              have hh := HC.out
              simp only [Bool.true_eq, Bool.and_eq_true, decide_eq_true_eq] at hh
              obtain ⟨h1, h2⟩ := hh
              have h1i : (i : Int) + (piece.length : Int) < (pm.length : Int) := by omega
              obtain ⟨z, hz⟩ : ∃ z, pm[i + piece.length]? = some z := ⟨_, List.getElem?_eq_getElem h1⟩
              rw [List.getD_eq_getElem?_getD, hz] at h2
              have h2' : 0 ≤ z := h2
              have h3 := (HP.out.2.2.2.1 z (List.mem_of_getElem? hz)).2
              obtain ⟨cb, co, rfl, cz⟩ := RdN.at_ (RdN.new HP.out.2.2.1 NJW.out) hz
              clear hz h2
              have hl'i : (0 : Int) < (l'.length : Int) := by omega
              have hl'n : ((l'.length : Int) == 0) = false := beq_eq_false_iff_ne.2 (by omega)
              have hm1 : 0 ≤ z % (l'.length : Int) := Int.emod_nonneg _ (by omega)
              have hm2 : z % (l'.length : Int) < (l'.length : Int) := Int.emod_lt_of_pos _ (by omega)
              have HM := Lib.hid (And.intro hm1 hm2)
              clear hm1 hm2
              go_wp2_with fail
              go_meet
              refine ⟨(z % (l'.length : Int)).toNat, ?_, (Int.toNat_lt HM.out.1).2 HM.out.2, rfl⟩
              rw [Int.toNat_of_nonneg HM.out.1]
            | false =>
              go_wp2_with fail
              go_meet
              exact ⟨0, rfl, hg2, rfl⟩
          case rest =>
          obtain ⟨a, rfl, hal, rfl⟩ := hcut
          rename World => Wj
          have ha0 : (0 : Int) ≤ a := by omega
          have hai : (a : Int) < (l'.length : Int) := by omega
          obtain ⟨p, hp⟩ : ∃ p, l'[a]? = some p := ⟨_, List.getElem?_eq_getElem hal⟩
          obtain ⟨gl, rfl⟩ := HJ.out.2.2.1.some_ (by omega)
          obtain ⟨d0, d1, d2, d3, d4, d5, d6, d7, d8⟩ := Own.pst HJ.out.2.2.1 hp
          have hcap := HJ.out.2.2.1.cap
          have hsu := run_slice_upto (P := Tryd.prog) 22 35 Tryd.underlying22 9 Tryd.size_post (some ⟨gl, 0, none⟩) l'.length cL' a (by omega)
          have hsf := run_slice_from (P := Tryd.prog) 22 35 Tryd.underlying22 9 Tryd.size_post (some ⟨gl, 0, none⟩) l'.length cL' (a + 1) (by omega)
          simp only [show ((a + 1 : Nat) : Int) = (a : Int) + 1 by omega] at hsf
          obtain ⟨AR, hAR⟩ : ∃ AR, adv (some ⟨gl, 0, none⟩) cL' (a + 1) 9 = AR := ⟨_, rfl⟩
          obtain ⟨m, hm⟩ : ∃ m, l'.length - (a + 1) = m := ⟨_, rfl⟩
          obtain ⟨cR, hcR⟩ : ∃ cR, cL' - (a + 1) = cR := ⟨_, rfl⟩
          rw [hAR, hm, hcR] at hsf
          have hma : a + m + 1 = l'.length := by omega
          have hg1n : ¬ Bk A1 gl := HJ.out.2.2.2.2.2.1 gl (Bk.some_.2 rfl)
          have hgl : gl < Wj.heap.size := HJ.out.2.2.1.lt gl (Bk.some_.2 rfl)
          have HK := Lib.hid (And.intro hp (And.intro hAR (And.intro hm (And.intro hg1n (And.intro hgl hcap)))))
          clear hp hAR hm hcR hg1n hgl hcap
          go_wp2_with (at_builtin; first | (refine wpList_append_src _ rfl (.tmp 95) (.tmp 100) 22 22 rfl 35 _ 9 104 Tryd.underlying22 Tryd.info_post rfl A1 c1 piece.length (piece.flatMap Pst.cells) rfl (HJ.out.2.1.new (Kp.alloc _ _ _)) (.slice (some ⟨Wj.heap.size, 0, none⟩) 1 1) rfl 1 _ (Src.ofRow Tryd.underlying22 (heap_alloc_new Wj _) 9 1 1 rfl (by simp [Value.oneCell'])) (by omega) (by omega) ?_; intro A2 c2 w2 q1 q2 q3; have Q2 := Lib.hid (And.intro q1 (And.intro q2 q3)); have O2 := Lib.hid (show Own w2 35 9 (some ⟨gl, 0, none⟩) cL' l'.length (l'.flatMap Pst.cells) from (HJ.out.2.2.1.new (Kp.alloc _ _ _)).kp q2 (fun k hk => by obtain rfl := Bk.some_.1 hk; exact HK.out.2.2.2.1)); clear q1 q2 q3) | (refine wpList_append_src _ rfl (.tmp 102) (.tmp 105) 22 22 rfl 35 _ 9 104 Tryd.underlying22 Tryd.info_post rfl none 0 0 [] rfl (Own.nil _ _ _) (.slice (some ⟨gl, 0, none⟩) a cL') rfl a ((l'.take a).flatMap Pst.cells) (Src.ofRdC Tryd.underlying22 9 _ _ (by rw [flat_take Pst.len]; exact O2.out.rdc.upto _) (by rw [flat_length Pst.len, List.length_take, Nat.min_eq_left (by omega)]) (by decide) (Pst.one _)) (by omega) (by omega) ?_; intro A3 c3 w3 q1 q2 q3; simp only [Nat.zero_add, List.nil_append] at q1; have n23 := Kp.mono (U := fun _ => False) q2 (fun _ _ h => absurd h Bk.none_); have R3 := Lib.hid (show RdC w3 AR ((l'.drop (a + 1)).flatMap Pst.cells) by (rw [flat_drop Pst.len, ← HK.out.2.1]; exact (O2.out.rdc.new n23).from_ cL' (a + 1) 9 (by rw [flat_length Pst.len]; have := HK.out.2.2.2.2.2.1; omega))); have Q3 := Lib.hid (And.intro q1 (And.intro n23 q3)); clear q1 q2 q3 n23) | (refine wpList_append_src _ rfl (.tmp 107) (.tmp 111) 22 22 rfl 35 _ 9 104 Tryd.underlying22 Tryd.info_post rfl A3 c3 a ((l'.take a).flatMap Pst.cells) rfl Q3.out.1 (.slice AR m cR) rfl m ((l'.drop (a + 1)).flatMap Pst.cells) (Src.ofRdC Tryd.underlying22 9 _ _ R3.out (by rw [flat_length Pst.len, List.length_drop, HK.out.2.2.1]) (by decide) (Pst.one _)) (by omega) (by omega) ?_; intro A4 c4 w4 q1 q2 q3; have Q4 := Lib.hid (And.intro q1 (And.intro q2 q3)); clear q1 q2 q3))
          go_roundg (l'.length - 1)
          case measure => go_light; omega
          case rel =>
            go_light
            have hA2 : ∀ j, Bk A2 j → Wi.heap.size ≤ j := fun j hj => by
              rcases Q2.out.2.2 j hj with h | h
              · exact HJ.out.2.2.2.2.1 j h
              · have := HJ.out.2.2.2.1.size
                simp at h
                omega
            have hA2s : ∀ j, Bk A2 j → j < w2.heap.size := Q2.out.1.lt
            have k2 : Kp (Bk A1) Wj w2 := (Kp.alloc _ _ _).trans Q2.out.2.1 (fun _ _ (h : False) => h.elim) (fun _ _ h => h)
            have n2 : New Wi w2 := HJ.out.2.2.2.1.trans k2 (fun _ _ h => h) (fun j hj h => by have := HJ.out.2.2.2.2.1 j h; omega)
            have hA3 : ∀ j, Bk A3 j → w2.heap.size ≤ j := fun j hj => by
              rcases Q3.out.2.2 j hj with h | h
              · exact absurd h Bk.none_
              · omega
            have hA4 : ∀ j, Bk A4 j → w2.heap.size ≤ j := fun j hj => by
              rcases Q4.out.2.2 j hj with h | h
              · exact hA3 j h
              · have := Q3.out.2.1.size
                omega
            have k4 : Kp (Bk A3) w2 w4 := Q3.out.2.1.trans Q4.out.2.1 (fun _ _ (h : False) => h.elim) (fun _ _ h => h)
            have n4 : New Wi w4 := n2.trans k4 (fun _ _ h => h) (fun j hj h => by have := hA3 j h; have := n2.size; omega)
            have e2 : a + m = (l'.take a ++ l'.drop (a + 1)).length := by rw [List.length_append, List.length_take, List.length_drop]; omega
            have e3 : (piece ++ [p]).length = piece.length + 1 := by simp
            refine ⟨l'.take a ++ l'.drop (a + 1), piece ++ [p], A2, c2, A4, c4, by rw [e2], by rw [e3], by rw [e3]; rfl, by omega, by rw [e3]; omega, by omega, Lib.hid ⟨perm_pick HJ.out.1 HK.out.1, ?_, ?_, n4, hA2, fun j h4 h2 => by have := hA4 j h4; have := hA2s j h2; omega, fun j hj => .inr (by have := hA4 j hj; have := n2.size; omega)⟩⟩
            · rw [e3, List.flatMap_append]
              exact Q2.out.1.kp k4 (fun j h2 h3 => by have := hA3 j h3; have := hA2s j h2; omega)
            · rw [← e2, List.flatMap_append]
              exact Q4.out.1
    · have hl0 : l = [] := List.eq_nil_of_length_eq_zero (by omega)
      subst hl0
      have hpt : taken.Perm ps := by have := HI.out.1; rwa [List.append_nil] at this
      have v1 : ViewAt Wi v K1 (atO ps) F := H6.out.2.2.2.1.kp HI.out.2.2.2.2.2 (fun k hk hm => by have h1 := H6.out.2.2.2.2.2.2 k hk; have h2 := H6.out.2.2.1 k hm; omega)
      have vt : ViewAt Wi v2 K2 (atO ps) F2 := by rw [← atO_perm hpt]; exact HI.out.2.1
      obtain ⟨O, hO⟩ : ∃ O, atO ps = O := ⟨_, rfl⟩
      rw [hO] at v1 vt
      have hK2 := HI.out.2.2.1
      have hS := State_calls Wi v K1 O F v1 (by omega)
      have HV := Lib.hid (And.intro v1 vt)
      clear hpt v1 vt hO x0 y0 z0
      go_wp2_with fail
      refine hS.mono ?_
      clear hS
      rintro e W7 ⟨A7, c7, N7, rfl, hT, hO, hn7, hb7⟩
      have hN7 : N7.length ≤ 103 * K1.length := told_length (rise_nodup hT.1) (fun n h => (hT.2 n).1 h) HV.out.1.cov HV.out.1.good
      have hst := isSt_told HV.out.1.cov HV.out.1.fit HV.out.1.good hT
      have hF := From_calls W7 A7 N7.length c7 (N7.map (balOf K1 O)) hO.rdc (by simp) (told_ok HV.out.1.fit HV.out.1.good hT) (by simp; omega)
      have H7 := Lib.hid (And.intro hst (And.intro (NWI.out.1.trans hn7 (fun _ _ h => h) (fun _ _ h => h)) (And.intro (HV.out.1.new hn7) (HV.out.2.new hn7))))
      clear hT hO hn7 hb7 hst
      go_wp2_with fail
      refine hF.mono ?_
      clear hF
      rintro e W8 (⟨hbad, rfl, hn8⟩ | ⟨hok, u, FU, rfl, hu, hn8, hFU⟩)
      case inl => exact absurd H7.out.1.1 hbad
      rw [H7.out.1.2] at hu
      have hKU : (stK (N7.map (balOf K1 O))).length ≤ 103 * K1.length := by
        have h1 := names2_length [] (rowNames ((rowsB (N7.map (balOf K1 O))).map Pst.row))
        have h2 := rowNames_length ((rowsB (N7.map (balOf K1 O))).map Pst.row)
        have h3 := rowsB_le (N7.map (balOf K1 O))
        rw [List.length_map] at h2 h3
        show (names2 [] (rowNames ((rowsB (N7.map (balOf K1 O))).map Pst.row))).length ≤ _
        simp only [List.length_nil] at h1
        omega
      obtain ⟨KU, hKUe⟩ : ∃ KU, stK (N7.map (balOf K1 O)) = KU := ⟨_, rfl⟩
      rw [hKUe] at hu hKU
      have hS8 := State_calls W8 v K1 O F (H7.out.2.2.1.new hn8) (by omega)
      have H8 := Lib.hid (And.intro (H7.out.2.1.trans hn8 (fun _ _ h => h) (fun _ _ h => h)) (And.intro (H7.out.2.2.1.new hn8) (And.intro (H7.out.2.2.2.new hn8) hu)))
      clear hok hu hn8 hFU hKUe
      go_wp2_with fail
      refine hS8.mono ?_
      clear hS8
      rintro e W9 ⟨A9, c9, N9, rfl, hT9, hO9, hn9, hb9⟩
      have hN9 : N9.length ≤ 103 * K1.length := told_length (rise_nodup hT9.1) (fun n h => (hT9.2 n).1 h) HV.out.1.cov HV.out.1.good
      have hS9 := State_calls W9 v2 K2 O F2 (H8.out.2.2.1.new hn9) (by omega)
      have H9 := Lib.hid (And.intro hT9 (And.intro hO9 (And.intro (H8.out.1.trans hn9 (fun _ _ h => h) (fun _ _ h => h)) (And.intro (H8.out.2.1.new hn9) (H8.out.2.2.2.new hn9)))))
      clear hT9 hO9 hn9 hb9
      go_wp2_with fail
      refine hS9.mono ?_
      clear hS9
      rintro e W10 ⟨A10, c10, N10, rfl, hT10, hO10, hn10, hb10⟩
      have hsame := same_calls W10 A9 A10 N9.length N10.length c9 c10 (N9.map (balOf K1 O)) (N10.map (balOf K2 O)) (H9.out.2.1.rdc.new hn10) hO10.rdc (by simp) (by simp) (by omega)
      have H10 := Lib.hid (And.intro (told_same H9.out.1 hT10 HV.out.1.cov HV.out.2.cov) (And.intro (H9.out.2.2.1.trans hn10 (fun _ _ h => h) (fun _ _ h => h)) (And.intro (H9.out.2.2.2.1.new hn10) (H9.out.2.2.2.2.new hn10))))
      clear hT10 hO10 hn10 hb10
      go_wp2_with fail
      refine hsame.mono ?_
      clear hsame
      rintro e W11 ⟨r, rfl, hr, hn11⟩
      obtain rfl : r = true := hr.2 H10.out.1
      have hS11 := State_calls W11 v K1 O F (H10.out.2.2.1.new hn11) (by omega)
      have H11 := Lib.hid (And.intro (H10.out.2.1.trans hn11 (fun _ _ h => h) (fun _ _ h => h)) (H10.out.2.2.2.new hn11))
      clear hr hn11
      go_wp2_with fail
      refine hS11.mono ?_
      clear hS11
      rintro e W12 ⟨A12, c12, N12, rfl, hT12, hO12, hn12, hb12⟩
      have hN12 : N12.length ≤ 103 * K1.length := told_length (rise_nodup hT12.1) (fun n h => (hT12.2 n).1 h) HV.out.1.cov HV.out.1.good
      have hS12 := State_calls W12 u KU O FU (H11.out.2.new hn12) (by omega)
      have H12 := Lib.hid (And.intro hT12 (And.intro hO12 (And.intro (H11.out.1.trans hn12 (fun _ _ h => h) (fun _ _ h => h)) (H11.out.2.cov))))
      clear hT12 hO12 hn12 hb12
      go_wp2_with fail
      refine hS12.mono ?_
      clear hS12
      rintro e W13 ⟨A13, c13, N13, rfl, hT13, hO13, hn13, hb13⟩
      have hsame := same_calls W13 A12 A13 N12.length N13.length c12 c13 (N12.map (balOf K1 O)) (N13.map (balOf KU O)) (H12.out.2.1.rdc.new hn13) hO13.rdc (by simp) (by simp) (by omega)
      have H13 := Lib.hid (And.intro (told_same H12.out.1 hT13 HV.out.1.cov H12.out.2.2.2) (H12.out.2.2.1.trans hn13 (fun _ _ h => h) (fun _ _ h => h)))
      clear hT13 hO13 hn13 hb13
      go_wp2_with fail
      refine hsame.mono ?_
      clear hsame
      rintro e W14 ⟨r, rfl, hr, hn14⟩
      obtain rfl : r = true := hr.2 H13.out.1
      have N14 := Lib.hid hn14
      clear hr hn14
      go_wp2_with fail
      go_ret
      exact ⟨rfl, H13.out.2.trans N14.out (fun _ _ h => h) (fun _ _ h => h)⟩
end Go.Proofs.YtejmndfdmikfaaaDoor.Kit
