/- SumsTree: the tree adds up; Trial and Totals are what State says; the roots' sums and the rows' sum are debits less credits. -/
import Derived.Test.YtejmndfdmikfaaaDoorSumsBack
import Derived.Test.YtejmndfdmikfaaaDoorTrial
namespace Go.Proofs.YtejmndfdmikfaaaDoor.Kit
open Go Go.RowKit

theorem run_from {P : Program} {t : TypeId} (ht : P.underlying t = some .string) (s : List UInt8) {k : Nat} (hk : k ≤ s.length) (w : World) :
    (Instr.slice t (.string (bstr s)) (some (.int .i64 (k : Int))) none none).run P w = .ok (.string (bstr (s.drop k))) w := by
  rw [run_slice_string_from_if w t (bstr s) .i64 (k : Int) ht, if_pos ⟨by omega, by rw [bstr_size]; omega⟩]
  congr 2
  apply ByteArray.ext
  apply Array.ext'
  simp [bstr, ByteArray.data_extract, ByteArray.size, List.take_of_length_le]
theorem kid_eq (n m : List UInt8) : kid n m = (isBelow m n && root (m.drop (n.length + 1))) := rfl
/-- The cells of a list of three-cell rows, by place. -/
theorem Own.bal {w : World} {e : TypeId} {g c n : Nat} {bs : List Bal} (h : Own w e 3 (some ⟨g, 0, none⟩) c n (bs.flatMap Bal.cells)) {i : Nat} {b : Bal} (hb : bs[i]? = some b) :
    w.cell? ⟨g, i * 3, none⟩ = some (.string (bstr b.acct)) ∧ w.cell? ⟨g, i * 3 + 1, none⟩ = some (.int .i64 b.own) ∧ w.cell? ⟨g, i * 3 + 2, none⟩ = some (.int .i64 b.all) :=
  ⟨h.cell (j := i * 3 + 0) (flat_get Bal.len bs i 0 b hb (by decide)), h.cell (flat_get Bal.len bs i 1 b hb (by decide)), h.cell (flat_get Bal.len bs i 2 b hb (by decide))⟩
/-- The walk's numbers. -/
def TreeI (K N : List (List UInt8)) (O : List UInt8 → Int) (i : Nat) (vk vu vd vr vi : Value) : Prop :=
  vk = .int .i64 (ownTill N O i : Int) ∧ vu = .int .i64 (sumUp N O i) ∧ vd = .int .i64 (sumDown N O i) ∧ vr = .int .i64 (sumRoots K N O i) ∧ vi = .int .i64 (i : Int)
theorem ownTill_le (N : List (List UInt8)) (O : List UInt8 → Int) (i : Nat) : ownTill N O i ≤ N.length := by
  unfold ownTill
  have h1 := List.length_filter_le (fun n => O n != 0) (N.take i)
  rw [List.length_take] at h1
  omega
set_option maxRecDepth 100000 in
set_option maxHeartbeats 8000000 in
theorem SumsTree_calls (w : World) (A : Option Addr) (c : Nat) (ps : List Pst) (hP : RdP w A ps) (okP : ∀ p ∈ ps, p.Ok) (lP : ps.length ≤ 1048576) :
    Calls Tryd.prog 4 #[.slice A ps.length c] w fun e w' => e = .returned (.bool true) ∧ New w w' := by
  have hmo : Tryd.prog.follows Departure.mixedOrders = true := by kernel_rfl
  have HP := Lib.hid (And.intro hP okP)
  clear hP okP
  go_enter Tryd.func4, Tryd.ntmps4
  go_wp2_with fail
  refine (first_calls _).mono ?_
  rintro e W1 ⟨rfl, hn1⟩
  have N1 := Lib.hid hn1
  clear hn1
  go_wp2_with fail
  refine (New_calls W1).mono ?_
  rintro e W2 ⟨v, F, rfl, hV, hn, hF⟩
  have H2 := Lib.hid (And.intro hV (And.intro (N1.out.trans hn (fun _ _ h => h) (fun _ _ h => h)) (fun k hk => Nat.le_trans N1.out.size (hF k hk))))
  clear hV hn hF
  go_wp2_with (at_builtin; refine wpList_append_src _ rfl (.const (.slice none 0 0)) (.tmp 26) 22 22 rfl 35 _ 9 104 Tryd.underlying22 Tryd.info_post rfl none 0 0 [] rfl (Own.nil _ _ _) _ rfl ps.length (ps.flatMap Pst.cells) (Src.ofRdC Tryd.underlying22 9 _ _ (HP.out.1.new H2.out.2.1) (flat_length Pst.len ps) (by decide) (Pst.one ps)) (by omega) (by omega) ?_; intro A3 c3 W3 h31 h32 h33; simp only [Nat.zero_add, List.nil_append] at h31; have n23 := Kp.mono (U := fun _ => False) h32 (fun _ _ h => absurd h Bk.none_); have H3 := Lib.hid (And.intro h31 n23); clear h31 h32 h33 n23)
  refine (Apply_calls W3 v [] (fun _ => 0) F A3 c3 ps (H2.out.1.new H3.out.2) H3.out.1.rdc HP.out.2 (by simp; omega)).mono ?_
  have nw3 : New w W3 := H2.out.2.1.trans H3.out.2 (fun _ _ h => h) (fun _ _ h => h)
  have NW3 := Lib.hid nw3
  clear nw3
  rintro e W4 (⟨hE, rfl, hv4, hk4⟩ | ⟨hE, z, hz, rfl, hn4⟩)
  case inr =>
    have hz' : (z == (0 : Int)) = false := by simpa using hz
    have HN := Lib.hid hn4
    clear hE hz hn4
    go_wp2_with fail
    go_ret
    exact ⟨rfl, NW3.out.trans HN.out (fun _ _ h => h) (fun _ _ h => h)⟩
  obtain ⟨M, hM⟩ : ∃ M, names2 [] (rowNames (ps.map Pst.row)) = M := ⟨_, rfl⟩
  obtain ⟨O, hO⟩ : ∃ O, plusO (fun _ => 0) (rowsAt (ps.map Pst.row)) = O := ⟨_, rfl⟩
  have hMl : M.length ≤ 1048576 := by
    rw [← hM]
    have h1 := names2_length [] (rowNames (ps.map Pst.row))
    have h2 := rowNames_length (ps.map Pst.row)
    simp at h1 h2
    omega
  rw [hM, hO] at hv4
  have hrows : O = rowsAt (ps.map Pst.row) := by rw [← hO, plusO_zero]
  have nw4 : New w W4 := NW3.out.trans hk4 (fun _ _ h => h) (fun k hk h => by have := H2.out.2.2 k h; omega)
  have H4 := Lib.hid (And.intro hv4 (And.intro nw4 hrows))
  clear hv4 nw4 hk4 hM hO hE hrows
  go_wp2_with fail
  refine (State_calls W4 v M O F H4.out.1 (by omega)).mono ?_
  rintro e W5 ⟨A5, c5, N, rfl, hT, hO, hn5, hb5⟩
  have hNl := told_length (rise_nodup hT.1) (fun n h => (hT.2 n).1 h) H4.out.1.cov H4.out.1.good
  have H5 := Lib.hid (And.intro hT (And.intro hO (And.intro (H4.out.2.1.trans hn5 (fun _ _ h => h) (fun _ _ h => h)) (H4.out.1.new hn5))))
  clear hT hO hn5 hb5
  go_wp2_with fail
  refine (Trial_calls W5 v M O F H5.out.2.2.2 (by omega)).mono ?_
  rintro e W6 ⟨A6, c6, T, rfl, hT, hO, hn6, hb6⟩
  have hTN : T = N.filter fun n => O n != 0 := Owned.of H5.out.1 hT
  have hTl : T.length = ownTill N O N.length := by rw [hTN, ownTill_all]
  have H6 := Lib.hid (And.intro hTN (And.intro hO (And.intro (H5.out.2.1.new hn6) (And.intro (H5.out.2.2.1.trans hn6 (fun _ _ h => h) (fun _ _ h => h)) (And.intro (H5.out.2.2.2.new hn6) hTl)))))
  clear hT hO hn6 hb6 hTN hTl
  have hTo := Totals_calls W6 v M O F H6.out.2.2.2.2.1
  obtain ⟨D, hD⟩ : ∃ D, debits M O = D := ⟨_, rfl⟩
  obtain ⟨C, hC⟩ : ∃ C, credits M O = C := ⟨_, rfl⟩
  rw [hD, hC] at hTo
  have hDb : 0 ≤ D ∧ D ≤ 9223372036854775807 := by
    have h1 := debits_nonneg M O
    have h2 := H4.out.1.fit.2.1
    unfold top at h2
    omega
  have hCb : 0 ≤ C ∧ C ≤ 9223372036854775807 := by
    have h1 := credits_nonneg M O
    have h2 := H4.out.1.fit.2.2
    unfold top at h2
    omega
  have HDC := Lib.hid (And.intro hD hC)
  clear hD hC
  go_wp2_with fail
  refine hTo.mono ?_
  rintro e W7 ⟨rfl, hn7⟩
  have H7 := Lib.hid (And.intro (H6.out.2.2.1.new hn7) (And.intro (H6.out.2.1.new hn7) (And.intro (H6.out.2.2.2.2.1.new hn7) (H6.out.2.2.2.1.trans hn7 (fun _ _ h => h) (fun _ _ h => h)))))
  clear hTo hn7
  go_wp2_with fail
  go_loopw [9, 10, 11, 12, 13] (fun vk vu vd vr vi wr => ∃ i : Nat, TreeI M N O i vk vu vd vr vi ∧ i ≤ N.length ∧ Hid (New W7 wr)) (fun _ _ _ _ vi _ => N.length - (intOf vi).toNat)
  case atStart => exact ⟨0, ⟨rfl, rfl, rfl, rfl, rfl⟩, Nat.zero_le _, Lib.hid (Kp.refl _ _)⟩
  case round =>
    obtain ⟨i, ⟨rfl, rfl, rfl, rfl, rfl⟩, hi, HI⟩ := hrel
    have hi0 : (0 : Int) ≤ i := by omega
    by_cases hlt : i < N.length
    · have hii : (i : Int) < (N.length : Int) := by omega
      rename World => Wi
      obtain ⟨n, hn⟩ : ∃ n, N[i] = n := ⟨_, rfl⟩
      obtain ⟨g, hA5⟩ := H5.out.2.1.some_ (by omega)
      have hAt : ∀ (j : Nat) (hj : j < N.length) (W : World), New W7 W → W.cell? ⟨g, j * 3, none⟩ = some (.string (bstr N[j])) ∧ W.cell? ⟨g, j * 3 + 1, none⟩ = some (.int .i64 (O N[j])) ∧ W.cell? ⟨g, j * 3 + 2, none⟩ = some (.int .i64 (rollup M O N[j])) := by
        intro j hj W hW
        have h1 := H7.out.1.new hW
        rw [hA5] at h1
        exact Own.bal h1 (b := balOf M O N[j]) (by rw [List.getElem?_map, List.getElem?_eq_getElem hj]; rfl)
      have HAt := Lib.hid hAt
      subst hA5
      obtain ⟨a0, a1, a2⟩ := HAt.out i hlt Wi HI.out
      rw [hn] at a0 a1 a2
      have HN := Lib.hid (And.intro hn (hAt 0 (by omega)))
      obtain ⟨on, hon⟩ : ∃ on, O n = on := ⟨_, rfl⟩
      obtain ⟨rn, hrn⟩ : ∃ rn, rollup M O n = rn := ⟨_, rfl⟩
      rw [hon] at a1
      rw [hrn] at a2
      have HO := Lib.hid (And.intro hon hrn)
      clear hAt hn hon hrn
      go_wp2_with fail
      go_loopw [14, 15] (fun vin vj wr => ∃ j : Nat, vin = .int .i64 (sumIn M N O n j) ∧ vj = .int .i64 (j : Int) ∧ j ≤ N.length ∧ Hid (New Wi wr)) (fun _ vj _ => N.length - (intOf vj).toNat)
      case atStart => exact ⟨0, by rw [sumIn_zero, HO.out.1], rfl, Nat.zero_le _, Lib.hid (Kp.refl _ _)⟩
      case round =>
        obtain ⟨j, rfl, rfl, hj, HJ⟩ := hrel
        have hj0 : (0 : Int) ≤ j := by omega
        by_cases hjt : j < N.length
        · have hji : (j : Int) < (N.length : Int) := by omega
          obtain ⟨m, hm⟩ : ∃ m, N[j] = m := ⟨_, rfl⟩
          obtain ⟨b0, _, b2⟩ := HAt.out j hjt wr (HI.out.trans HJ.out (fun _ _ h => h) (fun _ _ h => h))
          rw [hm] at b0 b2
          have p0 := New.cell HJ.out a0
          have hstep := sumIn_step (K := M) (O := O) n hjt
          rw [hm] at hstep
          have hfit := sumIn_fits H4.out.1.cov H4.out.1.fit (rise_nodup H5.out.1.1) n (j + 1)
          obtain ⟨rm, hrm⟩ : ∃ rm, rollup M O m = rm := ⟨_, rfl⟩
          rw [hrm] at b2 hstep
          obtain ⟨s0, hs0⟩ : ∃ s0, sumIn M N O n j = s0 := ⟨_, rfl⟩
          obtain ⟨s1, hs1⟩ : ∃ s1, sumIn M N O n (j + 1) = s1 := ⟨_, rfl⟩
          rw [hs0, hs1] at hstep
          rw [hs1] at hfit
          rw [hs0]
          unfold top at hfit
          have hngood := goodA_len (s := n) (by
            obtain ⟨k, hk, hu⟩ := (H5.out.1.2 n).1 (by rw [← HN.out.1]; exact List.getElem_mem hlt)
            have := ups_good k.length k (Nat.le_refl _) (H4.out.1.good k hk) n ((mem_ups k.length k (Nat.le_refl _)).2 hu)
            exact this)
          have HB := Lib.hid (And.intro hs1 (And.intro hstep (And.intro hfit hngood)))
          have hBl := Below_calls wr.drew m n
          have HMM := Lib.hid hm
          have zn : (bstr n).size = n.length := rfl
          have zm : (bstr m).size = m.length := rfl
          clear hs0 hs1 hstep hfit hm hrm
          by_cases hb : isBelow m n = true
          · rw [hb] at hBl
            have hmlen : n.length + 1 ≤ m.length := by
              obtain ⟨r, e⟩ := isBelow_iff.1 hb
              rw [e]
              simp
            have hfrom := run_from (P := Tryd.prog) Tryd.underlying9 m hmlen
            have kw : IntKind.i64.wrap ((n.length : Int) + 1) = (n.length : Int) + 1 := by rw [IntKind.wrap_i64]; omega
            simp only [show ((n.length + 1 : Nat) : Int) = (n.length : Int) + 1 by omega] at hfrom
            obtain ⟨r, hr⟩ : ∃ r, root (m.drop (n.length + 1)) = r := ⟨_, rfl⟩
            have hRo := Root_calls wr.drew (m.drop (n.length + 1)) (by
              have hmg : goodA m = true := by
                have hmN : N[j] ∈ N := List.getElem_mem hjt
                obtain ⟨k, hk, hu⟩ := (H5.out.1.2 N[j]).1 hmN
                have := ups_good k.length k (Nat.le_refl _) (H4.out.1.good k hk) N[j] ((mem_ups k.length k (Nat.le_refl _)).2 hu)
                rw [HMM.out] at this
                exact this
              have := goodA_len hmg
              rw [List.length_drop]
              omega)
            rw [hr] at hRo
            have hkid : kid n m = r := by rw [kid_eq, hb, hr]; rfl
            have hs1 : s1 = s0 + if r = true then rm else 0 := by rw [← hkid]; exact HB.out.2.1
            have hwrap : r = true → IntKind.i64.wrap (s0 + rm) = s1 := fun h => by
              rw [if_pos h] at hs1
              rw [IntKind.wrap_i64]
              have := HB.out.2.2.1
              omega
            have HR := Lib.hid (And.intro hs1 hwrap)
            clear hb hr hkid hs1 hwrap hmlen
            go_wp2_with fail
            refine wp_region_line (fun w' => w'.cell? ⟨g, j * 3, none⟩ = some (.string (bstr m)) ∧ w'.cell? ⟨g, i * 3, none⟩ = some (.string (bstr n))) (pl := [(0, true), (1, true), (2, true), (3, true), (4, true), (5, true), (6, true), (7, true), (8, true), (9, true), (10, false), (11, true), (12, true), (13, true), (14, true), (15, true), (16, true), (17, true), (18, true), (19, true), (20, true), (21, true), (22, true), (23, true), (24, true), (25, false), (26, true), (27, true)]) hmo (by kernel_rfl) ⟨by simpa using b0, by simpa using p0⟩ ?_
            iterate 10 (refine line_get rfl rfl (fun K hK => ?_); apply Exists.intro; refine ⟨fun w hS => ?_, ?_⟩; (first | (have hS' := hS rfl; go_simp; with_reducible rfl) | (go_simp; with_reducible rfl)); (go_simp; refine hK _ ?_; clear hK K))
            (refine line_do rfl rfl (fun K hK => ?_); go_simp)
            refine hBl.mono ?_
            rintro e w' ⟨rfl, rfl⟩
            refine hK _ _ (fun _ => ⟨by simpa using b0, by simpa using p0⟩) ?_
            clear hK K
            iterate 14 (refine line_get rfl rfl (fun K hK => ?_); apply Exists.intro; refine ⟨fun w hS => ?_, ?_⟩; (first | (have hS' := hS rfl; go_simp; with_reducible rfl) | (go_simp; with_reducible rfl)); (go_simp; refine hK _ ?_; clear hK K))
            (refine line_do rfl rfl (fun K hK => ?_); go_simp)
            refine hRo.mono ?_
            rintro e w' ⟨rfl, rfl⟩
            refine hK _ _ (no_need (by kernel_rfl)) ?_
            clear hK K
            iterate 2 (refine line_get rfl rfl (fun K hK => ?_); apply Exists.intro; refine ⟨fun w hS => ?_, ?_⟩; (first | (have hS' := hS rfl; go_simp; with_reducible rfl) | (go_simp; with_reducible rfl)); (go_simp; refine hK _ ?_; clear hK K))
            refine line_nil ?_
            cases r with
            | true =>
              have hw := HR.out.2 rfl
              go_wp2_with fail
              exact ⟨⟨j + 1, by rw [HB.out.1], by go_num, by omega, Lib.hid (HJ.out.trans (Kp.drew _ _) (fun _ _ h => h) (fun _ _ h => h))⟩, by simp [intOf]; omega⟩
            | false =>
              have hz : s1 = s0 := by have := HR.out.1; simpa using this
              have HZ := Lib.hid hz
              clear hz
              go_wp2_with fail
              exact ⟨⟨j + 1, by rw [HB.out.1, HZ.out], by go_num, by omega, Lib.hid (HJ.out.trans (Kp.drew _ _) (fun _ _ h => h) (fun _ _ h => h))⟩, by simp [intOf]; omega⟩
          · have hbf : isBelow m n = false := by simpa using hb
            rw [hbf] at hBl
            have hkid : kid n m = false := by rw [kid_eq, hbf]; rfl
            have hs1 : s1 = s0 := by have := HB.out.2.1; rw [hkid] at this; simpa using this
            have HZ := Lib.hid hs1
            clear hb hbf hkid hs1
            go_wp2_with fail
            refine wp_region_line (fun w' => w'.cell? ⟨g, j * 3, none⟩ = some (.string (bstr m)) ∧ w'.cell? ⟨g, i * 3, none⟩ = some (.string (bstr n))) (pl := [(0, true), (1, true), (2, true), (3, true), (4, true), (5, true), (6, true), (7, true), (8, true), (9, true), (10, false), (11, true), (12, true), (13, true), (14, true), (15, true), (16, true), (17, true), (18, true), (19, true), (20, true), (21, true), (22, true), (23, true), (24, true), (25, false), (26, true), (27, true)]) hmo (by kernel_rfl) ⟨by simpa using b0, by simpa using p0⟩ ?_
            iterate 10 (refine line_get rfl rfl (fun K hK => ?_); apply Exists.intro; refine ⟨fun w hS => ?_, ?_⟩; (first | (have hS' := hS rfl; go_simp; with_reducible rfl) | (go_simp; with_reducible rfl)); (go_simp; refine hK _ ?_; clear hK K))
            (refine line_do rfl rfl (fun K hK => ?_); go_simp)
            refine hBl.mono ?_
            rintro e w' ⟨rfl, rfl⟩
            refine hK _ _ (fun _ => ⟨by simpa using b0, by simpa using p0⟩) ?_
            clear hK K
            (refine line_get rfl rfl (fun K hK => ?_); apply Exists.intro; refine ⟨fun w hS => ?_, ?_⟩; (first | (have hS' := hS rfl; go_simp; with_reducible rfl) | (go_simp; with_reducible rfl)); (go_simp; refine hK _ ?_; clear hK K))
            iterate 13 (refine line_past rfl rfl (fun K hK => ?_); go_simp; refine hK _ ?_; clear hK K)
            refine line_miss rfl rfl (no_need (by kernel_rfl)) ?_
            iterate 2 (refine line_get rfl rfl (fun K hK => ?_); apply Exists.intro; refine ⟨fun w hS => ?_, ?_⟩; (first | (have hS' := hS rfl; go_simp; with_reducible rfl) | (go_simp; with_reducible rfl)); (go_simp; refine hK _ ?_; clear hK K))
            refine line_nil ?_
            go_wp2_with fail
            exact ⟨⟨j + 1, by rw [HB.out.1, HZ.out], by go_num, by omega, Lib.hid (HJ.out.trans (Kp.drew _ _) (fun _ _ h => h) (fun _ _ h => h))⟩, by simp [intOf]; omega⟩
        · obtain rfl : j = N.length := by omega
          rename World => Wj
          have nij : New W7 Wj := HI.out.trans HJ.out (fun _ _ h => h) (fun _ _ h => h)
          have hall := sumIn_all H4.out.1.cov H5.out.1 n
          rw [HO.out.2] at hall
          rw [hall]
          have z0 := New.cell HJ.out a0
          have z1 := New.cell HJ.out a1
          have z2 := New.cell HJ.out a2
          have vj := (H7.out.2.2.1.new nij).new (Kp.drew (fun _ => False) Wj)
          have hOw := Own_calls Wj.drew v M O F n vj
          have hRl := Rollup_calls Wj.drew v M O F n vj
          rw [HO.out.1] at hOw
          rw [HO.out.2] at hRl
          have hngood := goodA_len (s := n) (by
            obtain ⟨k, hk, hu⟩ := (H5.out.1.2 n).1 (by rw [← HN.out.1]; exact List.getElem_mem hlt)
            have := ups_good k.length k (Nat.le_refl _) (H4.out.1.good k hk) n ((mem_ups k.length k (Nat.le_refl _)).2 hu)
            exact this)
          have hRo := Root_calls Wj.drew n (by omega)
          have HJJ := Lib.hid nij
          clear hall vj hngood nij a0 a1 a2
          go_wp2_with fail
          refine wp_region_line (fun w' => w'.cell? ⟨g, i * 3, none⟩ = some (.string (bstr n)) ∧ w'.cell? ⟨g, i * 3 + 1, none⟩ = some (.int .i64 on) ∧ w'.cell? ⟨g, i * 3 + 2, none⟩ = some (.int .i64 rn)) (pl := [(0, true), (1, true), (2, true), (3, true), (4, true), (5, true), (6, true), (7, true), (8, true), (9, true), (10, true), (11, true), (12, true), (13, true), (15, true), (16, true), (17, true), (18, true), (19, true), (14, false), (20, true), (21, true), (22, true), (23, true), (24, true), (25, true), (26, true), (27, true), (28, true), (30, true), (29, false), (31, true), (32, true)]) hmo (by kernel_rfl) ⟨by simpa using z0, by simpa using z1, by simpa using z2⟩ ?_
          iterate 19 (refine line_get rfl rfl (fun K hK => ?_); apply Exists.intro; refine ⟨fun w hS => ?_, ?_⟩; (first | (have hS' := hS rfl; go_simp; with_reducible rfl) | (go_simp; with_reducible rfl)); (go_simp; refine hK _ ?_; clear hK K))
          (refine line_do rfl rfl (fun K hK => ?_); go_simp)
          refine hOw.mono ?_
          rintro e w' ⟨rfl, rfl⟩
          refine hK _ _ (fun _ => ⟨by simpa using z0, by simpa using z1, by simpa using z2⟩) ?_
          clear hK K hOw
          iterate 10 (refine line_get rfl rfl (fun K hK => ?_); apply Exists.intro; refine ⟨fun w hS => ?_, ?_⟩; (first | (have hS' := hS rfl; go_simp; with_reducible rfl) | (go_simp; with_reducible rfl)); (go_simp; refine hK _ ?_; clear hK K))
          (refine line_do rfl rfl (fun K hK => ?_); go_simp)
          refine hRl.mono ?_
          rintro e w' ⟨rfl, rfl⟩
          refine hK _ _ (fun _ => ⟨by simpa using z0, by simpa using z1, by simpa using z2⟩) ?_
          clear hK K hRl
          iterate 2 (refine line_get rfl rfl (fun K hK => ?_); apply Exists.intro; refine ⟨fun w hS => ?_, ?_⟩; (first | (have hS' := hS rfl; go_simp; with_reducible rfl) | (go_simp; with_reducible rfl)); (go_simp; refine hK _ ?_; clear hK K))
          refine line_nil ?_
          obtain ⟨W8, hW8⟩ : ∃ W8, Wj.drew = W8 := ⟨_, rfl⟩
          have y0 : W8.cell? ⟨g, i * 3, none⟩ = some (.string (bstr n)) := hW8 ▸ (by simpa using z0)
          have y1 : W8.cell? ⟨g, i * 3 + 1, none⟩ = some (.int .i64 on) := hW8 ▸ (by simpa using z1)
          have n78 : New W7 W8 := hW8 ▸ HJJ.out.trans (Kp.drew _ _) (fun _ _ h => h) (fun _ _ h => h)
          rw [hW8] at hRo ⊢
          clear hW8 z0 z1 z2
          have N78 := Lib.hid n78
          clear n78
          obtain ⟨rt, hrt⟩ : ∃ rt, root n = rt := ⟨_, rfl⟩
          rw [hrt] at hRo
          have sR := sumRoots_step (K := M) (O := O) hlt
          have sU := sumUp_step (O := O) hlt
          have sD := sumDown_step (O := O) hlt
          have sK := ownTill_step (O := O) hlt
          have fR := sumRoots_fits (K := M) H4.out.1.fit (rise_nodup H5.out.1.1) (i + 1)
          have fU := sumUp_fits H4.out.1.cov H4.out.1.fit H5.out.1 (i + 1)
          have fD := sumDown_fits H4.out.1.cov H4.out.1.fit H5.out.1 (i + 1)
          have kAt := fun h => ownTill_at (O := O) hlt h
          have kLe := ownTill_le N O i
          rw [HN.out.1] at sR sU sD sK kAt
          rw [hrt, HO.out.2] at sR
          rw [HO.out.1] at sU sD sK kAt
          generalize sumRoots M N O i = R0 at sR ⊢
          generalize hR1 : sumRoots M N O (i + 1) = R1 at sR fR
          generalize sumUp N O i = U0 at sU ⊢
          generalize hU1 : sumUp N O (i + 1) = U1 at sU fU
          generalize sumDown N O i = D0 at sD ⊢
          generalize hD1 : sumDown N O (i + 1) = D1 at sD fD
          generalize hK0 : ownTill N O i = K0 at sK kAt kLe ⊢
          generalize hK1 : ownTill N O (i + 1) = K1 at sK
          unfold top at fR fU fD
          have HF := Lib.hid (And.intro hR1 (And.intro hU1 (And.intro hD1 (And.intro hK1 (And.intro kAt hK0)))))
          have hwR : rt = true → IntKind.i64.wrap (R0 + rn) = R1 := fun h => by
            rw [if_pos h] at sR
            rw [IntKind.wrap_i64]
            omega
          have hwR' : rt = false → R1 = R0 := fun h => by rw [h] at sR; simpa using sR
          have HS := Lib.hid (And.intro sU (And.intro sD (And.intro sK (And.intro fU (And.intro fD (And.intro hwR hwR'))))))
          clear sR sU sD sK fR fU fD kAt hR1 hU1 hD1 hK0 hK1 hrt hwR hwR'
          go_wp2_with fail
          refine hRo.mono ?_
          rintro e w' ⟨rfl, rfl⟩
          clear hRo
          cases rt with
          | true =>
            have hw := HS.out.2.2.2.2.2.1 rfl
            by_cases h0 : on = 0
            · have q0 : (on == (0 : Int)) = true := by simp [h0]
              have e1 : K1 = K0 := by have := HS.out.2.2.1; rw [if_pos h0] at this; omega
              have e2 : U1 = U0 := by have := HS.out.1; rw [h0] at this; simpa using this
              have e3 : D1 = D0 := by have := HS.out.2.1; rw [h0] at this; simpa using this
              have E := Lib.hid (And.intro e1 (And.intro e2 (And.intro e3 ((rfl : R1 = R1)))))
              clear e1 e2 e3
              go_wp2_with fail
              exact ⟨⟨i + 1, ⟨by rw [HF.out.2.2.2.1, E.out.1], by rw [HF.out.2.1, E.out.2.1], by rw [HF.out.2.2.1, E.out.2.2.1], by rw [HF.out.1], by go_num⟩, by omega, Lib.hid N78.out⟩, by simp [intOf]; omega⟩
            · have q0 : (on == (0 : Int)) = false := by simpa using h0
              have eK : K1 = K0 + 1 := by have := HS.out.2.2.1; rw [if_neg h0] at this; exact this
              have hTk := HF.out.2.2.2.2.1 h0
              rw [← H6.out.1] at hTk
              have hKT : K0 < T.length := (List.getElem?_eq_some_iff.1 hTk).1
              have q3 : decide ((T.length : Int) ≤ (K0 : Int)) = false := decide_eq_false (by omega)
              have q4 : decide (T.length ≤ K0) = false := decide_eq_false (by omega)
              obtain ⟨g6, hA6⟩ := H6.out.2.1.some_ (by omega)
              have NN := Lib.hid (fun o : Obj => ((Kp.drew (fun _ => False) W8).trans (Kp.alloc (fun _ => False) W8.drew o) (fun _ _ h => h) (fun _ _ h => h) : New W8 (W8.drew.alloc o)))
              have hcol := (H7.out.2.1.new N78.out)
              rw [hA6] at hcol
              have hcol := Own.bal hcol (b := colOf O n) (by rw [List.getElem?_map, hTk]; rfl)
              subst hA6
              clear hTk
              by_cases hp : 0 < on
              · have q1 : decide (on < 0) = false := decide_eq_false (by omega)
                have eU : U1 = U0 + on := by have := HS.out.1; rw [if_pos hp] at this; omega
                have eD : D1 = D0 + 0 := by have := HS.out.2.1; rw [if_pos hp] at this; omega
                have wU : IntKind.i64.wrap (U0 + on) = U1 := by rw [IntKind.wrap_i64]; have := HS.out.2.2.2.1; omega
                have wD : IntKind.i64.wrap (D0 + 0) = D1 := by rw [IntKind.wrap_i64]; have := HS.out.2.2.2.2.1; omega
                have HW := Lib.hid (show wrap64 D0 = D1 by rw [IntWalk.wrap64_in _ ⟨by have := HS.out.2.2.2.2.1; omega, by have := HS.out.2.2.2.2.1; omega⟩]; omega)
                have t1 : W8.cell? ⟨g6, K0 * 3 + 1, none⟩ = some (.int .i64 (on)) := by rw [hcol.2.1]; simp only [HO.out.1, if_pos hp]
                have t2 : W8.cell? ⟨g6, K0 * 3 + 2, none⟩ = some (.int .i64 (0)) := by rw [hcol.2.2]; simp only [HO.out.1, if_pos hp]
                have t0 := hcol.1
                have E := Lib.hid (And.intro eK ((rfl : R1 = R1)))
                clear hcol eU eD eK hp
                go_wp2_with fail
                refine wp_region_line (fun w' => w'.cell? ⟨g, i * 3, none⟩ = some (.string (bstr n)) ∧ w'.cell? ⟨g, i * 3 + 1, none⟩ = some (.int .i64 on)) (pl := [(0, true), (1, true), (2, true), (3, true), (4, true), (5, true), (6, true), (7, true), (8, true), (9, true), (10, true), (11, false), (12, false)]) hmo (by kernel_rfl) ⟨by simpa using y0, by simpa using y1⟩ ?_
                iterate 11 (refine line_get rfl rfl (fun K hK => ?_); apply Exists.intro; refine ⟨fun w hS => ?_, ?_⟩; (first | (have hS' := hS rfl; go_simp; with_reducible rfl) | (go_simp; with_reducible rfl)); (go_simp; refine hK _ ?_; clear hK K))
                (refine line_do rfl rfl (fun K hK => ?_); go_simp)
                refine hK _ _ (fun _ => ⟨New.cell (NN.out _) y0, New.cell (NN.out _) y1⟩) ?_
                clear hK K
                (refine line_do rfl rfl (fun K hK => ?_); go_simp)
                refine hK _ _ (no_need (by kernel_rfl)) ?_
                clear hK K
                refine line_nil ?_
                obtain ⟨W9, hW9⟩ : ∃ W9, (W8.alloc (.cells #[.string (bstr n), .int .i64 on, .int .i64 0] 47)).drew = W9 := ⟨_, rfl⟩
                rw [hW9]
                have b9 : W9.heap[W8.heap.size]? = some (.cells #[.string (bstr n), .int .i64 on, .int .i64 0] 47 (0, 0)) := hW9 ▸ heap_alloc_new W8 _
                have n9 : New W8 W9 := hW9 ▸ (Kp.alloc _ _ _).trans (Kp.drew _ _) (fun _ _ h => h) (fun _ _ h => h)
                clear hW9
                have r0 := n9.cell y0
                have r1 := n9.cell y1
                have n8z := n9
                have x0 : W9.cell? ⟨W8.heap.size, 0, none⟩ = some (.string (bstr n)) := (cell_of_block b9).trans rfl
                have x1 : W9.cell? ⟨W8.heap.size, 1, none⟩ = some (.int .i64 on) := (cell_of_block b9).trans rfl
                have x2 : W9.cell? ⟨W8.heap.size, 2, none⟩ = some (.int .i64 0) := (cell_of_block b9).trans rfl
                clear b9 n9 y0 y1
                have u0 := n8z.cell t0
                have u1 := n8z.cell t1
                have u2 := n8z.cell t2
                have N8z := Lib.hid n8z
                clear n8z t0 t1 t2
                go_wp2_with fail
                refine wp_region_line (fun w' => w'.cell? ⟨g6, K0 * 3, none⟩ = some (.string (bstr n)) ∧ w'.cell? ⟨g6, K0 * 3 + 1, none⟩ = some (.int .i64 (on)) ∧ w'.cell? ⟨g6, K0 * 3 + 2, none⟩ = some (.int .i64 (0)) ∧ w'.cell? ⟨W8.heap.size, 0, none⟩ = some (.string (bstr n)) ∧ w'.cell? ⟨W8.heap.size, 1, none⟩ = some (.int .i64 (on)) ∧ w'.cell? ⟨W8.heap.size, 2, none⟩ = some (.int .i64 (0))) (pl := [(0, true), (1, true), (2, true), (3, true), (4, true), (5, true), (6, true), (7, true), (8, true), (9, true), (10, true), (11, true)]) hmo (by kernel_rfl) ⟨by simpa using u0, by simpa using u1, by simpa using u2, by simpa using x0, by simpa using x1, by simpa using x2⟩ ?_
                iterate 12 (refine line_get rfl rfl (fun K hK => ?_); apply Exists.intro; refine ⟨fun w hS => ?_, ?_⟩; (first | (have hS' := hS rfl; go_simp; with_reducible rfl) | (go_simp; with_reducible rfl)); (go_simp; refine hK _ ?_; clear hK K))
                refine line_nil ?_
                go_wp2_with fail
                exact ⟨⟨i + 1, ⟨by rw [HF.out.2.2.2.1, E.out.1]; go_num, by rw [HF.out.2.1], by rw [HF.out.2.2.1]; exact congrArg _ HW.out, by rw [HF.out.1], by go_num⟩, by omega, Lib.hid ((N78.out.trans N8z.out (fun _ _ h => h) (fun _ _ h => h)).trans (Kp.drew _ _) (fun _ _ h => h) (fun _ _ h => h))⟩, by simp [intOf]; omega⟩
              · have q1 : decide (on < 0) = true := decide_eq_true (by omega)
                have eU : U1 = U0 + 0 := by have := HS.out.1; rw [if_neg hp] at this; omega
                have eD : D1 = D0 + -on := by have := HS.out.2.1; rw [if_neg hp] at this; omega
                have wU : IntKind.i64.wrap (U0 + 0) = U1 := by rw [IntKind.wrap_i64]; have := HS.out.2.2.2.1; omega
                have HW := Lib.hid (show wrap64 U0 = U1 by rw [IntWalk.wrap64_in _ ⟨by have := HS.out.2.2.2.1; omega, by have := HS.out.2.2.2.1; omega⟩]; omega)
                have wD : IntKind.i64.wrap (D0 + -on) = D1 := by rw [IntKind.wrap_i64]; have := HS.out.2.2.2.2.1; omega
                have t1 : W8.cell? ⟨g6, K0 * 3 + 1, none⟩ = some (.int .i64 (0)) := by rw [hcol.2.1]; simp only [HO.out.1, if_neg hp]
                have t2 : W8.cell? ⟨g6, K0 * 3 + 2, none⟩ = some (.int .i64 (-on)) := by rw [hcol.2.2]; simp only [HO.out.1, if_neg hp]
                have t0 := hcol.1
                have E := Lib.hid (And.intro eK ((rfl : R1 = R1)))
                clear hcol eU eD eK hp
                go_wp2_with fail
                refine wp_region_line (fun w' => w'.cell? ⟨g, i * 3, none⟩ = some (.string (bstr n)) ∧ w'.cell? ⟨g, i * 3 + 1, none⟩ = some (.int .i64 on)) (pl := [(0, true), (1, true), (2, true), (3, true), (4, true), (5, true), (6, true), (7, true), (8, true), (9, true), (10, true), (11, false), (12, false)]) hmo (by kernel_rfl) ⟨by simpa using y0, by simpa using y1⟩ ?_
                iterate 11 (refine line_get rfl rfl (fun K hK => ?_); apply Exists.intro; refine ⟨fun w hS => ?_, ?_⟩; (first | (have hS' := hS rfl; go_simp; with_reducible rfl) | (go_simp; with_reducible rfl)); (go_simp; refine hK _ ?_; clear hK K))
                (refine line_do rfl rfl (fun K hK => ?_); go_simp)
                refine hK _ _ (fun _ => ⟨New.cell (NN.out _) y0, New.cell (NN.out _) y1⟩) ?_
                clear hK K
                (refine line_do rfl rfl (fun K hK => ?_); go_simp)
                refine hK _ _ (no_need (by kernel_rfl)) ?_
                clear hK K
                refine line_nil ?_
                obtain ⟨W9, hW9⟩ : ∃ W9, (W8.alloc (.cells #[.string (bstr n), .int .i64 on, .int .i64 0] 47)).drew = W9 := ⟨_, rfl⟩
                rw [hW9]
                have b9 : W9.heap[W8.heap.size]? = some (.cells #[.string (bstr n), .int .i64 on, .int .i64 0] 47 (0, 0)) := hW9 ▸ heap_alloc_new W8 _
                have n9 : New W8 W9 := hW9 ▸ (Kp.alloc _ _ _).trans (Kp.drew _ _) (fun _ _ h => h) (fun _ _ h => h)
                clear hW9
                have r0 := n9.cell y0
                have r1 := n9.cell y1
                have f0 : W9.frozen? ⟨W8.heap.size, 0, none⟩ = false := by simp [World.frozen?, b9]
                have f1 : W9.frozen? ⟨W8.heap.size, 1, none⟩ = false := by simp [World.frozen?, b9]
                have f2 : W9.frozen? ⟨W8.heap.size, 2, none⟩ = false := by simp [World.frozen?, b9]
                have x0 : W9.cell? ⟨W8.heap.size, 0, none⟩ = some (.string (bstr n)) := (cell_of_block b9).trans rfl
                have x1 : W9.cell? ⟨W8.heap.size, 1, none⟩ = some (.int .i64 on) := (cell_of_block b9).trans rfl
                have x2 : W9.cell? ⟨W8.heap.size, 2, none⟩ = some (.int .i64 0) := (cell_of_block b9).trans rfl
                have hneg : IntKind.i64.wrap (-on) = -on := by rw [IntKind.wrap_i64]; have := H4.out.1.fit.1 n; rw [HO.out.1] at this; unfold top at this; omega
                have H9 := Lib.hid (And.intro b9 n9)
                clear b9 n9 y0 y1
                go_wp2_with fail
                refine wp_region_line (fun w' => w'.cell? ⟨g, i * 3, none⟩ = some (.string (bstr n)) ∧ w'.cell? ⟨g, i * 3 + 1, none⟩ = some (.int .i64 on)) (pl := [(0, true), (1, true), (2, true), (3, true), (4, true), (5, true), (6, true), (7, true), (8, true), (9, true), (10, true), (11, true), (12, false)]) hmo (by kernel_rfl) ⟨by simpa using r0, by simpa using r1⟩ ?_
                iterate 12 (refine line_get rfl rfl (fun K hK => ?_); apply Exists.intro; refine ⟨fun w hS => ?_, ?_⟩; (first | (have hS' := hS rfl; go_simp; with_reducible rfl) | (go_simp; with_reducible rfl)); (go_simp; refine hK _ ?_; clear hK K))
                (refine line_do rfl rfl (fun K hK => ?_); go_simp)
                refine hK _ _ (no_need (by kernel_rfl)) ?_
                clear hK K
                refine line_nil ?_
                obtain ⟨Wz, hWz⟩ : ∃ Wz, (((W9.setCell ⟨W8.heap.size, 0, none⟩ (.string (bstr n))).setCell ⟨W8.heap.size, 1, none⟩ (.int .i64 0)).setCell ⟨W8.heap.size, 2, none⟩ (.int .i64 (-on))).drew = Wz := ⟨_, rfl⟩
                rw [hWz]
                have bz : Wz.heap[W8.heap.size]? = some (.cells #[.string (bstr n), .int .i64 0, .int .i64 (-on)] 47 (0, 0)) := hWz ▸ heap_setCell_row (j := 2) (heap_setCell_row (j := 1) (heap_setCell_row (j := 0) H9.out.1 (.string (bstr n))) (.int .i64 0)) (.int .i64 (-on))
                have kz : Kp (fun k => k = W8.heap.size) W9 Wz := hWz ▸ (((Kp.setCell (S := fun k => k = W8.heap.size) _ _ _ rfl).trans (Kp.setCell (S := fun k => k = W8.heap.size) _ _ _ rfl) (fun _ _ h => h) (fun _ _ h => h)).trans (Kp.setCell (S := fun k => k = W8.heap.size) _ _ _ rfl) (fun _ _ h => h) (fun _ _ h => h)).trans (Kp.drew _ _) (fun _ _ h => h) (fun _ _ h => h)
                have n8z : New W8 Wz := H9.out.2.trans kz (fun _ _ h => h) (fun k hk e => by omega)
                clear hWz kz f0 f1 f2 x0 x1 x2 hneg r0 r1
                have x0 : Wz.cell? ⟨W8.heap.size, 0, none⟩ = some (.string (bstr n)) := (cell_of_block bz).trans rfl
                have x1 : Wz.cell? ⟨W8.heap.size, 1, none⟩ = some (.int .i64 0) := (cell_of_block bz).trans rfl
                have x2 : Wz.cell? ⟨W8.heap.size, 2, none⟩ = some (.int .i64 (-on)) := (cell_of_block bz).trans rfl
                have u0 := n8z.cell t0
                have u1 := n8z.cell t1
                have u2 := n8z.cell t2
                have N8z := Lib.hid n8z
                clear n8z t0 t1 t2
                go_wp2_with fail
                refine wp_region_line (fun w' => w'.cell? ⟨g6, K0 * 3, none⟩ = some (.string (bstr n)) ∧ w'.cell? ⟨g6, K0 * 3 + 1, none⟩ = some (.int .i64 (0)) ∧ w'.cell? ⟨g6, K0 * 3 + 2, none⟩ = some (.int .i64 (-on)) ∧ w'.cell? ⟨W8.heap.size, 0, none⟩ = some (.string (bstr n)) ∧ w'.cell? ⟨W8.heap.size, 1, none⟩ = some (.int .i64 (0)) ∧ w'.cell? ⟨W8.heap.size, 2, none⟩ = some (.int .i64 (-on))) (pl := [(0, true), (1, true), (2, true), (3, true), (4, true), (5, true), (6, true), (7, true), (8, true), (9, true), (10, true), (11, true)]) hmo (by kernel_rfl) ⟨by simpa using u0, by simpa using u1, by simpa using u2, by simpa using x0, by simpa using x1, by simpa using x2⟩ ?_
                iterate 12 (refine line_get rfl rfl (fun K hK => ?_); apply Exists.intro; refine ⟨fun w hS => ?_, ?_⟩; (first | (have hS' := hS rfl; go_simp; with_reducible rfl) | (go_simp; with_reducible rfl)); (go_simp; refine hK _ ?_; clear hK K))
                refine line_nil ?_
                go_wp2_with fail
                exact ⟨⟨i + 1, ⟨by rw [HF.out.2.2.2.1, E.out.1]; go_num, by rw [HF.out.2.1]; exact congrArg _ HW.out, by rw [HF.out.2.2.1], by rw [HF.out.1], by go_num⟩, by omega, Lib.hid ((N78.out.trans N8z.out (fun _ _ h => h) (fun _ _ h => h)).trans (Kp.drew _ _) (fun _ _ h => h) (fun _ _ h => h))⟩, by simp [intOf]; omega⟩
          | false =>
            have hRR := HS.out.2.2.2.2.2.2 rfl
            by_cases h0 : on = 0
            · have q0 : (on == (0 : Int)) = true := by simp [h0]
              have e1 : K1 = K0 := by have := HS.out.2.2.1; rw [if_pos h0] at this; omega
              have e2 : U1 = U0 := by have := HS.out.1; rw [h0] at this; simpa using this
              have e3 : D1 = D0 := by have := HS.out.2.1; rw [h0] at this; simpa using this
              have E := Lib.hid (And.intro e1 (And.intro e2 (And.intro e3 (HS.out.2.2.2.2.2.2 rfl))))
              clear e1 e2 e3
              go_wp2_with fail
              exact ⟨⟨i + 1, ⟨by rw [HF.out.2.2.2.1, E.out.1], by rw [HF.out.2.1, E.out.2.1], by rw [HF.out.2.2.1, E.out.2.2.1], by rw [HF.out.1, E.out.2.2.2], by go_num⟩, by omega, Lib.hid N78.out⟩, by simp [intOf]; omega⟩
            · have q0 : (on == (0 : Int)) = false := by simpa using h0
              have eK : K1 = K0 + 1 := by have := HS.out.2.2.1; rw [if_neg h0] at this; exact this
              have hTk := HF.out.2.2.2.2.1 h0
              rw [← H6.out.1] at hTk
              have hKT : K0 < T.length := (List.getElem?_eq_some_iff.1 hTk).1
              have q3 : decide ((T.length : Int) ≤ (K0 : Int)) = false := decide_eq_false (by omega)
              have q4 : decide (T.length ≤ K0) = false := decide_eq_false (by omega)
              obtain ⟨g6, hA6⟩ := H6.out.2.1.some_ (by omega)
              have NN := Lib.hid (fun o : Obj => ((Kp.drew (fun _ => False) W8).trans (Kp.alloc (fun _ => False) W8.drew o) (fun _ _ h => h) (fun _ _ h => h) : New W8 (W8.drew.alloc o)))
              have hcol := (H7.out.2.1.new N78.out)
              rw [hA6] at hcol
              have hcol := Own.bal hcol (b := colOf O n) (by rw [List.getElem?_map, hTk]; rfl)
              subst hA6
              clear hTk
              by_cases hp : 0 < on
              · have q1 : decide (on < 0) = false := decide_eq_false (by omega)
                have eU : U1 = U0 + on := by have := HS.out.1; rw [if_pos hp] at this; omega
                have eD : D1 = D0 + 0 := by have := HS.out.2.1; rw [if_pos hp] at this; omega
                have wU : IntKind.i64.wrap (U0 + on) = U1 := by rw [IntKind.wrap_i64]; have := HS.out.2.2.2.1; omega
                have wD : IntKind.i64.wrap (D0 + 0) = D1 := by rw [IntKind.wrap_i64]; have := HS.out.2.2.2.2.1; omega
                have HW := Lib.hid (show wrap64 D0 = D1 by rw [IntWalk.wrap64_in _ ⟨by have := HS.out.2.2.2.2.1; omega, by have := HS.out.2.2.2.2.1; omega⟩]; omega)
                have t1 : W8.cell? ⟨g6, K0 * 3 + 1, none⟩ = some (.int .i64 (on)) := by rw [hcol.2.1]; simp only [HO.out.1, if_pos hp]
                have t2 : W8.cell? ⟨g6, K0 * 3 + 2, none⟩ = some (.int .i64 (0)) := by rw [hcol.2.2]; simp only [HO.out.1, if_pos hp]
                have t0 := hcol.1
                have E := Lib.hid (And.intro eK (HS.out.2.2.2.2.2.2 rfl))
                clear hcol eU eD eK hp
                go_wp2_with fail
                refine wp_region_line (fun w' => w'.cell? ⟨g, i * 3, none⟩ = some (.string (bstr n)) ∧ w'.cell? ⟨g, i * 3 + 1, none⟩ = some (.int .i64 on)) (pl := [(0, true), (1, true), (2, true), (3, true), (4, true), (5, true), (6, true), (7, true), (8, true), (9, true), (10, true), (11, false), (12, false)]) hmo (by kernel_rfl) ⟨by simpa using y0, by simpa using y1⟩ ?_
                iterate 11 (refine line_get rfl rfl (fun K hK => ?_); apply Exists.intro; refine ⟨fun w hS => ?_, ?_⟩; (first | (have hS' := hS rfl; go_simp; with_reducible rfl) | (go_simp; with_reducible rfl)); (go_simp; refine hK _ ?_; clear hK K))
                (refine line_do rfl rfl (fun K hK => ?_); go_simp)
                refine hK _ _ (fun _ => ⟨New.cell (NN.out _) y0, New.cell (NN.out _) y1⟩) ?_
                clear hK K
                (refine line_do rfl rfl (fun K hK => ?_); go_simp)
                refine hK _ _ (no_need (by kernel_rfl)) ?_
                clear hK K
                refine line_nil ?_
                obtain ⟨W9, hW9⟩ : ∃ W9, (W8.alloc (.cells #[.string (bstr n), .int .i64 on, .int .i64 0] 47)).drew = W9 := ⟨_, rfl⟩
                rw [hW9]
                have b9 : W9.heap[W8.heap.size]? = some (.cells #[.string (bstr n), .int .i64 on, .int .i64 0] 47 (0, 0)) := hW9 ▸ heap_alloc_new W8 _
                have n9 : New W8 W9 := hW9 ▸ (Kp.alloc _ _ _).trans (Kp.drew _ _) (fun _ _ h => h) (fun _ _ h => h)
                clear hW9
                have r0 := n9.cell y0
                have r1 := n9.cell y1
                have n8z := n9
                have x0 : W9.cell? ⟨W8.heap.size, 0, none⟩ = some (.string (bstr n)) := (cell_of_block b9).trans rfl
                have x1 : W9.cell? ⟨W8.heap.size, 1, none⟩ = some (.int .i64 on) := (cell_of_block b9).trans rfl
                have x2 : W9.cell? ⟨W8.heap.size, 2, none⟩ = some (.int .i64 0) := (cell_of_block b9).trans rfl
                clear b9 n9 y0 y1
                have u0 := n8z.cell t0
                have u1 := n8z.cell t1
                have u2 := n8z.cell t2
                have N8z := Lib.hid n8z
                clear n8z t0 t1 t2
                go_wp2_with fail
                refine wp_region_line (fun w' => w'.cell? ⟨g6, K0 * 3, none⟩ = some (.string (bstr n)) ∧ w'.cell? ⟨g6, K0 * 3 + 1, none⟩ = some (.int .i64 (on)) ∧ w'.cell? ⟨g6, K0 * 3 + 2, none⟩ = some (.int .i64 (0)) ∧ w'.cell? ⟨W8.heap.size, 0, none⟩ = some (.string (bstr n)) ∧ w'.cell? ⟨W8.heap.size, 1, none⟩ = some (.int .i64 (on)) ∧ w'.cell? ⟨W8.heap.size, 2, none⟩ = some (.int .i64 (0))) (pl := [(0, true), (1, true), (2, true), (3, true), (4, true), (5, true), (6, true), (7, true), (8, true), (9, true), (10, true), (11, true)]) hmo (by kernel_rfl) ⟨by simpa using u0, by simpa using u1, by simpa using u2, by simpa using x0, by simpa using x1, by simpa using x2⟩ ?_
                iterate 12 (refine line_get rfl rfl (fun K hK => ?_); apply Exists.intro; refine ⟨fun w hS => ?_, ?_⟩; (first | (have hS' := hS rfl; go_simp; with_reducible rfl) | (go_simp; with_reducible rfl)); (go_simp; refine hK _ ?_; clear hK K))
                refine line_nil ?_
                go_wp2_with fail
                exact ⟨⟨i + 1, ⟨by rw [HF.out.2.2.2.1, E.out.1]; go_num, by rw [HF.out.2.1], by rw [HF.out.2.2.1]; exact congrArg _ HW.out, by rw [HF.out.1, E.out.2], by go_num⟩, by omega, Lib.hid ((N78.out.trans N8z.out (fun _ _ h => h) (fun _ _ h => h)).trans (Kp.drew _ _) (fun _ _ h => h) (fun _ _ h => h))⟩, by simp [intOf]; omega⟩
              · have q1 : decide (on < 0) = true := decide_eq_true (by omega)
                have eU : U1 = U0 + 0 := by have := HS.out.1; rw [if_neg hp] at this; omega
                have eD : D1 = D0 + -on := by have := HS.out.2.1; rw [if_neg hp] at this; omega
                have wU : IntKind.i64.wrap (U0 + 0) = U1 := by rw [IntKind.wrap_i64]; have := HS.out.2.2.2.1; omega
                have HW := Lib.hid (show wrap64 U0 = U1 by rw [IntWalk.wrap64_in _ ⟨by have := HS.out.2.2.2.1; omega, by have := HS.out.2.2.2.1; omega⟩]; omega)
                have wD : IntKind.i64.wrap (D0 + -on) = D1 := by rw [IntKind.wrap_i64]; have := HS.out.2.2.2.2.1; omega
                have t1 : W8.cell? ⟨g6, K0 * 3 + 1, none⟩ = some (.int .i64 (0)) := by rw [hcol.2.1]; simp only [HO.out.1, if_neg hp]
                have t2 : W8.cell? ⟨g6, K0 * 3 + 2, none⟩ = some (.int .i64 (-on)) := by rw [hcol.2.2]; simp only [HO.out.1, if_neg hp]
                have t0 := hcol.1
                have E := Lib.hid (And.intro eK (HS.out.2.2.2.2.2.2 rfl))
                clear hcol eU eD eK hp
                go_wp2_with fail
                refine wp_region_line (fun w' => w'.cell? ⟨g, i * 3, none⟩ = some (.string (bstr n)) ∧ w'.cell? ⟨g, i * 3 + 1, none⟩ = some (.int .i64 on)) (pl := [(0, true), (1, true), (2, true), (3, true), (4, true), (5, true), (6, true), (7, true), (8, true), (9, true), (10, true), (11, false), (12, false)]) hmo (by kernel_rfl) ⟨by simpa using y0, by simpa using y1⟩ ?_
                iterate 11 (refine line_get rfl rfl (fun K hK => ?_); apply Exists.intro; refine ⟨fun w hS => ?_, ?_⟩; (first | (have hS' := hS rfl; go_simp; with_reducible rfl) | (go_simp; with_reducible rfl)); (go_simp; refine hK _ ?_; clear hK K))
                (refine line_do rfl rfl (fun K hK => ?_); go_simp)
                refine hK _ _ (fun _ => ⟨New.cell (NN.out _) y0, New.cell (NN.out _) y1⟩) ?_
                clear hK K
                (refine line_do rfl rfl (fun K hK => ?_); go_simp)
                refine hK _ _ (no_need (by kernel_rfl)) ?_
                clear hK K
                refine line_nil ?_
                obtain ⟨W9, hW9⟩ : ∃ W9, (W8.alloc (.cells #[.string (bstr n), .int .i64 on, .int .i64 0] 47)).drew = W9 := ⟨_, rfl⟩
                rw [hW9]
                have b9 : W9.heap[W8.heap.size]? = some (.cells #[.string (bstr n), .int .i64 on, .int .i64 0] 47 (0, 0)) := hW9 ▸ heap_alloc_new W8 _
                have n9 : New W8 W9 := hW9 ▸ (Kp.alloc _ _ _).trans (Kp.drew _ _) (fun _ _ h => h) (fun _ _ h => h)
                clear hW9
                have r0 := n9.cell y0
                have r1 := n9.cell y1
                have f0 : W9.frozen? ⟨W8.heap.size, 0, none⟩ = false := by simp [World.frozen?, b9]
                have f1 : W9.frozen? ⟨W8.heap.size, 1, none⟩ = false := by simp [World.frozen?, b9]
                have f2 : W9.frozen? ⟨W8.heap.size, 2, none⟩ = false := by simp [World.frozen?, b9]
                have x0 : W9.cell? ⟨W8.heap.size, 0, none⟩ = some (.string (bstr n)) := (cell_of_block b9).trans rfl
                have x1 : W9.cell? ⟨W8.heap.size, 1, none⟩ = some (.int .i64 on) := (cell_of_block b9).trans rfl
                have x2 : W9.cell? ⟨W8.heap.size, 2, none⟩ = some (.int .i64 0) := (cell_of_block b9).trans rfl
                have hneg : IntKind.i64.wrap (-on) = -on := by rw [IntKind.wrap_i64]; have := H4.out.1.fit.1 n; rw [HO.out.1] at this; unfold top at this; omega
                have H9 := Lib.hid (And.intro b9 n9)
                clear b9 n9 y0 y1
                go_wp2_with fail
                refine wp_region_line (fun w' => w'.cell? ⟨g, i * 3, none⟩ = some (.string (bstr n)) ∧ w'.cell? ⟨g, i * 3 + 1, none⟩ = some (.int .i64 on)) (pl := [(0, true), (1, true), (2, true), (3, true), (4, true), (5, true), (6, true), (7, true), (8, true), (9, true), (10, true), (11, true), (12, false)]) hmo (by kernel_rfl) ⟨by simpa using r0, by simpa using r1⟩ ?_
                iterate 12 (refine line_get rfl rfl (fun K hK => ?_); apply Exists.intro; refine ⟨fun w hS => ?_, ?_⟩; (first | (have hS' := hS rfl; go_simp; with_reducible rfl) | (go_simp; with_reducible rfl)); (go_simp; refine hK _ ?_; clear hK K))
                (refine line_do rfl rfl (fun K hK => ?_); go_simp)
                refine hK _ _ (no_need (by kernel_rfl)) ?_
                clear hK K
                refine line_nil ?_
                obtain ⟨Wz, hWz⟩ : ∃ Wz, (((W9.setCell ⟨W8.heap.size, 0, none⟩ (.string (bstr n))).setCell ⟨W8.heap.size, 1, none⟩ (.int .i64 0)).setCell ⟨W8.heap.size, 2, none⟩ (.int .i64 (-on))).drew = Wz := ⟨_, rfl⟩
                rw [hWz]
                have bz : Wz.heap[W8.heap.size]? = some (.cells #[.string (bstr n), .int .i64 0, .int .i64 (-on)] 47 (0, 0)) := hWz ▸ heap_setCell_row (j := 2) (heap_setCell_row (j := 1) (heap_setCell_row (j := 0) H9.out.1 (.string (bstr n))) (.int .i64 0)) (.int .i64 (-on))
                have kz : Kp (fun k => k = W8.heap.size) W9 Wz := hWz ▸ (((Kp.setCell (S := fun k => k = W8.heap.size) _ _ _ rfl).trans (Kp.setCell (S := fun k => k = W8.heap.size) _ _ _ rfl) (fun _ _ h => h) (fun _ _ h => h)).trans (Kp.setCell (S := fun k => k = W8.heap.size) _ _ _ rfl) (fun _ _ h => h) (fun _ _ h => h)).trans (Kp.drew _ _) (fun _ _ h => h) (fun _ _ h => h)
                have n8z : New W8 Wz := H9.out.2.trans kz (fun _ _ h => h) (fun k hk e => by omega)
                clear hWz kz f0 f1 f2 x0 x1 x2 hneg r0 r1
                have x0 : Wz.cell? ⟨W8.heap.size, 0, none⟩ = some (.string (bstr n)) := (cell_of_block bz).trans rfl
                have x1 : Wz.cell? ⟨W8.heap.size, 1, none⟩ = some (.int .i64 0) := (cell_of_block bz).trans rfl
                have x2 : Wz.cell? ⟨W8.heap.size, 2, none⟩ = some (.int .i64 (-on)) := (cell_of_block bz).trans rfl
                have u0 := n8z.cell t0
                have u1 := n8z.cell t1
                have u2 := n8z.cell t2
                have N8z := Lib.hid n8z
                clear n8z t0 t1 t2
                go_wp2_with fail
                refine wp_region_line (fun w' => w'.cell? ⟨g6, K0 * 3, none⟩ = some (.string (bstr n)) ∧ w'.cell? ⟨g6, K0 * 3 + 1, none⟩ = some (.int .i64 (0)) ∧ w'.cell? ⟨g6, K0 * 3 + 2, none⟩ = some (.int .i64 (-on)) ∧ w'.cell? ⟨W8.heap.size, 0, none⟩ = some (.string (bstr n)) ∧ w'.cell? ⟨W8.heap.size, 1, none⟩ = some (.int .i64 (0)) ∧ w'.cell? ⟨W8.heap.size, 2, none⟩ = some (.int .i64 (-on))) (pl := [(0, true), (1, true), (2, true), (3, true), (4, true), (5, true), (6, true), (7, true), (8, true), (9, true), (10, true), (11, true)]) hmo (by kernel_rfl) ⟨by simpa using u0, by simpa using u1, by simpa using u2, by simpa using x0, by simpa using x1, by simpa using x2⟩ ?_
                iterate 12 (refine line_get rfl rfl (fun K hK => ?_); apply Exists.intro; refine ⟨fun w hS => ?_, ?_⟩; (first | (have hS' := hS rfl; go_simp; with_reducible rfl) | (go_simp; with_reducible rfl)); (go_simp; refine hK _ ?_; clear hK K))
                refine line_nil ?_
                go_wp2_with fail
                exact ⟨⟨i + 1, ⟨by rw [HF.out.2.2.2.1, E.out.1]; go_num, by rw [HF.out.2.1]; exact congrArg _ HW.out, by rw [HF.out.2.2.1], by rw [HF.out.1, E.out.2], by go_num⟩, by omega, Lib.hid ((N78.out.trans N8z.out (fun _ _ h => h) (fun _ _ h => h)).trans (Kp.drew _ _) (fun _ _ h => h) (fun _ _ h => h))⟩, by simp [intOf]; omega⟩
    · obtain rfl : i = N.length := by omega
      have hU := sumUp_all H4.out.1.cov H5.out.1
      have hDn := sumDown_all H4.out.1.cov H5.out.1
      have hR := sumRoots_all (K := M) H5.out.1
      rw [HDC.out.1] at hU
      rw [HDC.out.2] at hDn
      rw [HDC.out.1, HDC.out.2] at hR
      have hTl := H6.out.2.2.2.2.2
      rw [hU, hDn, hR, ← hTl]
      have HS := Lib.hid (And.intro hU (And.intro hDn (And.intro hR hTl)))
      clear hU hDn hR hTl
      rename World => Wi
      go_wp2_with fail
      go_loopw [19, 20] (fun vt vi wr => ∃ k : Nat, vt = .int .i64 (IntKind.i64.wrap (((ps.take k).map Pst.amt).sum)) ∧ vi = .int .i64 (k : Int) ∧ k ≤ ps.length ∧ Hid (New Wi wr)) (fun _ vi _ => ps.length - (intOf vi).toNat)
      case atStart => exact ⟨0, rfl, rfl, Nat.zero_le _, Lib.hid (Kp.refl _ _)⟩
      case round =>
        obtain ⟨k, rfl, rfl, hk, HJ⟩ := hrel
        have hk0 : (0 : Int) ≤ k := by omega
        rename World => Wj
        have nwj : New w Wj := H7.out.2.2.2.trans (HI.out.trans HJ.out (fun _ _ h => h) (fun _ _ h => h)) (fun _ _ h => h) (fun _ _ h => h)
        by_cases hlt : k < ps.length
        · have hki : (k : Int) < (ps.length : Int) := by omega
          obtain ⟨p, hp⟩ : ∃ p, ps[k]? = some p := ⟨_, List.getElem?_eq_getElem hlt⟩
          have htk : ps.take (k + 1) = ps.take k ++ [p] := by rw [List.take_add_one, hp]; rfl
          obtain ⟨b, off, rfl, hat⟩ := RdP.at_ (HP.out.1.new nwj) hp
          have c6 := hat.c6
          have hs : IntKind.i64.wrap (IntKind.i64.wrap ((ps.take k).map Pst.amt).sum + p.amt) = IntKind.i64.wrap ((ps.take (k + 1)).map Pst.amt).sum := by
            rw [htk, List.map_append, List.sum_append, IntKind.wrap_i64, IntKind.wrap_i64, IntKind.wrap_i64]
            simp only [List.map_cons, List.map_nil, List.sum_cons, List.sum_nil]
            omega
          generalize IntKind.i64.wrap ((ps.take k).map Pst.amt).sum = s0 at hs ⊢
          generalize hs1 : IntKind.i64.wrap ((ps.take (k + 1)).map Pst.amt).sum = s1 at hs
          have HS1 := Lib.hid hs1
          clear hs1 hp htk hat nwj
          go_wp2_with fail
          exact ⟨⟨k + 1, by rw [HS1.out], by go_num, by omega, Lib.hid HJ.out⟩, by simp [intOf]; omega⟩
        · obtain rfl : k = ps.length := by omega
          have hsum : ((ps.take ps.length).map Pst.amt).sum = D - C := by
            have h1 := total_all (K := M) (rows := ps.map Pst.row) (by rw [← H4.out.2.2]; exact H4.out.1.cov)
            rw [← H4.out.2.2, HDC.out.1, HDC.out.2, List.map_map] at h1
            rw [List.take_length, ← h1]
            rfl
          have hwr : IntKind.i64.wrap (D - C) = D - C := by rw [IntKind.wrap_i64]; omega
          rw [hsum, hwr]
          have NWJ := Lib.hid nwj
          clear hsum nwj
          go_wp2_with fail
          go_ret
          exact ⟨rfl, NWJ.out⟩
end Go.Proofs.YtejmndfdmikfaaaDoor.Kit
