/- DailyDays: At goes from day to day by the change alone; Between cut anywhere. -/
import Derived.Test.YtejmndfdmikfaaaDoorDailyBack
import Derived.Test.YtejmndfdmikfaaaDoorDaysM
namespace Go.Proofs.YtejmndfdmikfaaaDoor.Kit
open Go Go.RowKit

theorem dr_cells {W : World} {A : Option Addr} {xs : List (Int × Int × Int)} {n : List UInt8} (h : RdDr W A (xs.map (drOf n))) {i : Nat} {x : Int × Int × Int} (hx : xs[i]? = some x) :
    ∃ b off, A = some ⟨b, off, none⟩ ∧ W.cell? ⟨b, off + i * 4, none⟩ = some (.string (bstr n)) ∧ W.cell? ⟨b, off + i * 4 + 1, none⟩ = some (.int .i64 x.1) ∧ W.cell? ⟨b, off + i * 4 + 2, none⟩ = some (.int .i64 x.2.1) ∧ W.cell? ⟨b, off + i * 4 + 3, none⟩ = some (.int .i64 x.2.2) := by
  obtain ⟨b, off, rfl, h0, h1, h2, h3⟩ := RdDr.at_ h (show (xs.map (drOf n))[i]? = some (drOf n x) by rw [List.getElem?_map, hx]; rfl)
  exact ⟨b, off, rfl, h0, h1, h2, h3⟩
theorem dr_map_app (xs ys : List (Int × Int × Int)) (n : List UInt8) : (xs ++ ys).map (drOf n) = xs.map (drOf n) ++ ys.map (drOf n) := List.map_append
set_option maxRecDepth 100000 in
set_option maxHeartbeats 16000000 in
theorem DailyDays_calls (w : World) (A : Option Addr) (c : Nat) (ps : List Pst) (nm : List UInt8) (fr cut to : Int) (hP : RdP w A ps) (okP : ∀ p ∈ ps, p.Ok9) (lP : ps.length ≤ 1048576) (hcut : -9223372036854775808 ≤ cut ∧ cut ≤ 9223372036854775807) (hto : -9223372036854775808 ≤ to ∧ to ≤ 9223372036854775807) :
    Calls Tryd.prog 8 #[.slice A ps.length c, .string (bstr nm), .int .i64 fr, .int .i64 cut, .int .i64 to] w fun e w' => e = .returned (.bool true) ∧ New w w' := by
  have hmo : Tryd.prog.follows Departure.mixedOrders = true := by kernel_rfl
  have HP := Lib.hid (And.intro hP okP)
  clear hP okP
  go_enter Tryd.func8, Tryd.ntmps8
  go_wp2_with fail
  refine (first9_calls _).mono ?_
  rintro e W1 ⟨rfl, hn1⟩
  have N1 := Lib.hid hn1
  clear hn1
  go_wp2_with fail
  refine (New9_calls W1).mono ?_
  rintro e W2 ⟨v, F, rfl, hV, hn, hF⟩
  have H2 := Lib.hid (And.intro hV (And.intro (N1.out.trans hn (fun _ _ h => h) (fun _ _ h => h)) (fun k hk => Nat.le_trans N1.out.size (hF k hk))))
  clear hV hn hF
  go_wp2_with (at_builtin; refine wpList_append_srcW _ rfl (.const (.slice none 0 0)) (.tmp 26) 22 22 rfl 35 _ 9 104 Tryd.underlying22 Tryd.info_post9 rfl none 0 0 [] rfl (Own.nil _ _ _) _ rfl ps.length (ps.flatMap Pst.cells) (Src.ofRdC Tryd.underlying22 9 _ _ (HP.out.1.new H2.out.2.1) (flat_length Pst.len ps) (by decide) (Pst.one ps)) (by omega) (by omega) ?_; intro A3 c3 W3 h31 h32 h33; simp only [Nat.zero_add, List.nil_append] at h31; have n23 := Kp.mono (U := fun _ => False) h32 (fun _ _ h => absurd h Bk.none_); have H3 := Lib.hid (And.intro h31 n23); clear h31 h32 h33 n23)
  refine (Apply9_calls W3 v (fun _ => []) F 0 A3 ps.length c3 ps (H2.out.1.new H3.out.2) H3.out.1.rdc rfl HP.out.2 (by omega)).mono ?_
  have nw3 : New w W3 := H2.out.2.1.trans H3.out.2 (fun _ _ h => h) (fun _ _ h => h)
  have NW3 := Lib.hid nw3
  clear nw3
  rintro e W4 (⟨hE, rfl, hk4, F1, hv4, hF1⟩ | ⟨hE, z, hz, rfl, hn4⟩)
  case inr =>
    have hz' : (z == (0 : Int)) = false := by simpa using hz
    have HN := Lib.hid hn4
    clear hE hz hn4
    go_wp2_with fail
    go_ret
    exact ⟨rfl, NW3.out.trans HN.out (fun _ _ h => h) (fun _ _ h => h)⟩
  obtain ⟨O1, hO1⟩ : ∃ O1, plusD (fun _ => []) (ps.map Pst.dr) = O1 := ⟨_, rfl⟩
  rw [hO1, List.length_map, Nat.zero_add] at hv4
  have nw4 : New w W4 := NW3.out.trans hk4 (fun _ _ h => h) (fun k hk h => by have := H2.out.2.2 k h; omega)
  have hisd : ∀ x ∈ days (O1 nm), 1 ≤ x.1 ∧ x.1 ≤ 3652059 := fun x hx => by
    obtain ⟨m, ms, hB⟩ := hv4
    have := hB.isday nm x hx
    unfold isDayB at this
    simpa using this
  have H4 := Lib.hid (And.intro hv4 (And.intro nw4 hisd))
  clear hv4 nw4 hk4 hO1 hE hF1 hisd
  go_wp2_with fail
  refine (Between_calls W4 v O1 F1 ps.length nm fr to H4.out.1 (by omega)).mono ?_
  rintro e W5 ⟨A5, c5, rfl, hO5, hn5, hA5⟩
  obtain ⟨L, hL⟩ : ∃ L, betw (O1 nm) fr to = L := ⟨_, rfl⟩
  have hLm : ∀ x ∈ L, x ∈ days (O1 nm) ∧ fr ≤ x.1 ∧ x.1 ≤ to := fun x hx => by rw [← hL] at hx; exact betw_mem hx
  have hLl : L.length ≤ 1099511627776 := by
    rw [← hL]
    obtain ⟨m, ms, hB⟩ := H4.out.1
    have h1 := hB.len_at nm
    have h2 : (betw (O1 nm) fr to).length ≤ (days (O1 nm)).length := List.length_filter_le _ _
    omega
  have hLb : ∀ i x y, L[i]? = some y → L[i + 1]? = some x → bal (O1 nm) (x.1 - 1) = y.2.2 ∧ y.1 < x.1 := fun i x y h1 h2 => by rw [← hL] at h1 h2; exact betw_before h1 h2
  rw [hL, List.length_map] at hO5 ⊢
  have H5 := Lib.hid (And.intro hO5 (And.intro (H4.out.2.1.trans hn5 (fun _ _ h => h) (fun _ _ h => h)) (And.intro (H4.out.1.new hn5) (And.intro hLm (And.intro hLb hL)))))
  clear hO5 hn5 hA5 hLm hLb hL
  by_cases h1 : cut < fr
  · have h1i : (cut : Int) < fr := h1
    have hg : decide (cut < fr) = true := decide_eq_true h1
    have hl : ¬ (to < to) := Int.lt_irrefl _
    go_wp2_with fail
    refine (Between_calls W5 v O1 F1 ps.length nm fr to H5.out.2.2.1 (by omega)).mono ?_
    rintro e W6 ⟨A6, c6, rfl, hO6, hn6, hA6⟩
    rw [H5.out.2.2.2.2.2, List.length_map] at hO6 ⊢
    have H6 := Lib.hid (And.intro hO6 hn6)
    clear hO6 hn6 hA6
    go_wp2_with fail
    refine (same9_calls W6 A5 A6 L.length L.length c5 c6 (L.map (drOf nm)) (L.map (drOf nm)) (H5.out.1.rdc.new H6.out.2) H6.out.1.rdc (by rw [List.length_map]) (by rw [List.length_map]) (by omega)).mono ?_
    rintro e W7 ⟨r, rfl, hr, hn7⟩
    obtain rfl : r = true := hr.2 rfl
    have n57 : New W5 W7 := H6.out.2.trans hn7 (fun _ _ h => h) (fun _ _ h => h)
    have H7 := Lib.hid n57
    clear hr hn7 n57
    go_wp2_with fail
    go_loopw [16] (fun i wr => ∃ k : Nat, i = .int .i64 (k : Int) ∧ k ≤ L.length ∧ Hid (New W5 wr)) (fun i _ => L.length - (intOf i).toNat)
    case atStart => exact ⟨0, rfl, Nat.zero_le _, H7⟩
    case round =>
      obtain ⟨k, rfl, hk, HI⟩ := hrel
      have hk0 : (0 : Int) ≤ k := by omega
      by_cases hlt : k < L.length
      · have hki : (k : Int) < (L.length : Int) := by omega
        obtain ⟨x, hx⟩ : ∃ x, L[k]? = some x := ⟨_, List.getElem?_eq_getElem hlt⟩
        obtain ⟨hxd, hxf, hxt⟩ := H5.out.2.2.2.1 x (List.mem_of_getElem? hx)
        obtain ⟨hx1, hx2⟩ := H4.out.2.2 x hxd
        obtain ⟨hxc, hxn, hxb⟩ := days_mem hxd
        obtain ⟨b1, o1, rfl, q0, q1, q2, q3⟩ := dr_cells (H5.out.1.rdc.new HI.out) hx
        obtain ⟨xd, xc, xb⟩ := x
        simp only at hxf hxt hx1 hx2 hxc hxn hxb q1 q2 q3
        have hfit := ViewD.fit H5.out.2.2.1 nm
        have ham1 := (hfit xd).1
        have ham2 := (hfit xd).2
        have ham3 := (hfit (xd - 1)).2
        have hstp := bal_step (O1 nm) xd
        rw [← hxc] at ham1 hstp
        rw [← hxb] at ham2 hstp
        unfold amtD at ham1 ham2 ham3
        obtain ⟨bf, hbf⟩ : ∃ bf, bal (O1 nm) (xd - 1) = bf := ⟨_, rfl⟩
        rw [hbf] at ham3 hstp
        have hws : IntKind.i64.wrap (xd - 1) = xd - 1 := by rw [IntKind.wrap_i64]; omega
        obtain ⟨W8, hW8⟩ : ∃ W8, wr.alloc (.cells #[.string (bstr nm), .int .i64 xd, .int .i64 xc, .int .i64 xb] 62) = W8 := ⟨_, rfl⟩
        have n8 : New wr W8 := hW8 ▸ Kp.alloc _ _ _
        have b8 : W8.heap[wr.heap.size]? = some (.cells #[.string (bstr nm), .int .i64 xd, .int .i64 xc, .int .i64 xb] 62 (0, 0)) := hW8 ▸ heap_alloc_new wr _
        have v8 := (H5.out.2.2.1.new HI.out).new n8
        have hAt := At_calls W8 v O1 F1 ps.length nm (xd - 1) v8 (by omega)
        rw [hbf] at hAt
        have hprev : ∀ j y, k = j + 1 → L[j]? = some y → bf = y.2.2 ∧ y.1 < xd := fun j y e hy => by
          subst e
          have := H5.out.2.2.2.2.1 j _ y hy hx
          rw [hbf] at this
          exact this
        have HH := Lib.hid (And.intro hx (And.intro hxd (And.intro hxc (And.intro hxb (And.intro hstp (And.intro n8 (And.intro b8 (And.intro v8 (And.intro hprev hW8)))))))))
        clear hx hxd hxc hxb hstp n8 b8 v8 hprev hfit hbf hW8
        go_wp2_with fail
        rw [HH.out.2.2.2.2.2.2.2.2.2]
        refine hAt.mono ?_
        rintro e W9 ⟨rfl, hn9⟩
        have b9 := (hn9.block _ (Array.getElem?_eq_some_iff.1 HH.out.2.2.2.2.2.2.1).1 id).trans HH.out.2.2.2.2.2.2.1
        have r1 : W9.cell? ⟨wr.heap.size, 1, none⟩ = some (.int .i64 xd) := (cell_of_block b9).trans rfl
        have v9 := HH.out.2.2.2.2.2.2.2.1.new hn9
        have hB := Between_calls W9 v O1 F1 ps.length nm xd xd v9 (by omega)
        rw [betw_one (x := (xd, xc, xb)) HH.out.2.1] at hB
        have H9 := Lib.hid (And.intro hn9 (And.intro b9 v9))
        clear hn9 b9 v9 hAt q0 q1 q2 q3
        go_wp2_with fail
        refine hB.mono ?_
        rintro e W10 ⟨A10, c10, rfl, hO10, hn10, hA10⟩
        obtain ⟨g10, rfl⟩ := hO10.some_ (by simp)
        have p0 : W10.cell? ⟨g10, 0, none⟩ = some (.string (bstr nm)) := hO10.cell (by rfl)
        have p1 : W10.cell? ⟨g10, 1, none⟩ = some (.int .i64 xd) := hO10.cell (by rfl)
        have p2 : W10.cell? ⟨g10, 2, none⟩ = some (.int .i64 xc) := hO10.cell (by rfl)
        have p3 : W10.cell? ⟨g10, 3, none⟩ = some (.int .i64 xb) := hO10.cell (by rfl)
        have b10 := (hn10.block _ (Array.getElem?_eq_some_iff.1 H9.out.2.1).1 id).trans H9.out.2.1
        have n10 : New wr W10 := (HH.out.2.2.2.2.2.1.trans H9.out.1 (fun _ _ h => h) (fun _ _ h => h)).trans hn10 (fun _ _ h => h) (fun _ _ h => h)
        have hAt2 := At_calls W10.drew v O1 F1 ps.length nm xd ((H9.out.2.2.new hn10).new (Kp.drew _ _)) (by omega)
        rw [← HH.out.2.2.2.1] at hAt2
        have H10 := Lib.hid (And.intro n10 b10)
        have r0 : W10.cell? ⟨wr.heap.size, 0, none⟩ = some (.string (bstr nm)) := (cell_of_block b10).trans rfl
        have r1 : W10.cell? ⟨wr.heap.size, 1, none⟩ = some (.int .i64 xd) := (cell_of_block b10).trans rfl
        have r2 : W10.cell? ⟨wr.heap.size, 2, none⟩ = some (.int .i64 xc) := (cell_of_block b10).trans rfl
        have r3 : W10.cell? ⟨wr.heap.size, 3, none⟩ = some (.int .i64 xb) := (cell_of_block b10).trans rfl
        clear hn10 hA10 b10 n10 hO10 hB
        have t1 : decide (xd < fr) = false := decide_eq_false (by omega)
        have t2 : decide (to < xd) = false := decide_eq_false (by omega)
        have t3 : (xc == (0 : Int)) = false := by simpa using hxn
        go_wp2_with fail
        refine wp_region_line (fun w' => (w'.cell? ⟨wr.heap.size, 0, none⟩ = some (.string (bstr nm)) ∧ w'.cell? ⟨wr.heap.size, 1, none⟩ = some (.int .i64 xd) ∧ w'.cell? ⟨wr.heap.size, 2, none⟩ = some (.int .i64 xc) ∧ w'.cell? ⟨wr.heap.size, 3, none⟩ = some (.int .i64 xb)) ∧ (w'.cell? ⟨g10, 0, none⟩ = some (.string (bstr nm)) ∧ w'.cell? ⟨g10, 1, none⟩ = some (.int .i64 xd) ∧ w'.cell? ⟨g10, 2, none⟩ = some (.int .i64 xc) ∧ w'.cell? ⟨g10, 3, none⟩ = some (.int .i64 xb))) (pl := [(0, true), (1, true), (2, true), (3, true), (4, true), (5, true), (6, true), (7, true), (8, true), (9, true), (10, true), (11, true), (12, true), (13, true), (14, true), (15, true), (16, true), (17, true), (18, true), (19, true), (20, true), (21, true), (22, true), (23, true), (24, true), (25, true), (26, true), (27, true), (28, false), (29, true), (30, true), (31, true), (32, true), (33, true), (34, true), (35, true), (36, true), (37, true), (38, true), (39, true), (40, true), (41, true), (42, true)]) hmo (by kernel_rfl) ⟨⟨by simpa using r0, by simpa using r1, by simpa using r2, by simpa using r3⟩, by simpa using p0, by simpa using p1, by simpa using p2, by simpa using p3⟩ ?_
        iterate 28 (refine line_get rfl rfl (fun K hK => ?_); apply Exists.intro; refine ⟨fun w hS => ?_, ?_⟩; (first | (have hS' := hS rfl; go_simp; with_reducible rfl) | (go_simp; with_reducible rfl)); (go_simp; refine hK _ ?_; clear hK K))
        (refine line_do rfl rfl (fun K hK => ?_); go_simp)
        refine hAt2.mono ?_
        rintro e W11 ⟨rfl, hn11⟩
        have nd11 : New W10 W11 := (Kp.drew _ _).trans hn11 (fun _ _ h => h) (fun _ _ h => h)
        refine hK _ _ (fun _ => ⟨⟨nd11.cell r0, nd11.cell r1, nd11.cell r2, nd11.cell r3⟩, nd11.cell p0, nd11.cell p1, nd11.cell p2, nd11.cell p3⟩) ?_
        clear hK K
        have s0 := New.cell nd11 r0
        have s1 := New.cell nd11 r1
        have s2 := New.cell nd11 r2
        have s3 := New.cell nd11 r3
        have H11 := Lib.hid (H10.out.1.trans nd11 (fun _ _ h => h) (fun _ _ h => h))
        iterate 14 (refine line_get rfl rfl (fun K hK => ?_); apply Exists.intro; refine ⟨fun w hS => ?_, ?_⟩; (first | (have hS' := hS rfl; go_simp; with_reducible rfl) | (go_simp; with_reducible rfl)); (go_simp; refine hK _ ?_; clear hK K))
        refine line_nil ?_
        clear hn11 nd11 hAt2 r0 r1 r2 r3 p0 p1 p2 p3 t1 t2 t3
        go_wp2_with fail
        have hw2 : IntKind.i64.wrap (xb - bf) = xc := by have h := HH.out.2.2.2.2.1; rw [IntKind.wrap_i64]; omega
        by_cases hk1 : k = 0
        · have t1 : decide (0 < k) = false := decide_eq_false (by omega)
          have HK := Lib.hid hk1
          clear hk1
          refine wp_region_line (fun w' => w'.cell? ⟨wr.heap.size, 0, none⟩ = some (.string (bstr nm)) ∧ w'.cell? ⟨wr.heap.size, 1, none⟩ = some (.int .i64 xd) ∧ w'.cell? ⟨wr.heap.size, 2, none⟩ = some (.int .i64 xc) ∧ w'.cell? ⟨wr.heap.size, 3, none⟩ = some (.int .i64 xb)) (pl := [(0, true), (1, true), (2, true), (3, true), (4, true), (5, true), (6, true), (7, true), (8, true), (9, true), (10, true), (11, true), (12, true), (13, true), (14, true), (15, true), (16, true), (17, true), (18, true), (19, true), (20, true), (21, true), (22, true), (23, true), (24, true), (25, true), (26, true), (27, true), (28, true), (29, true), (30, true), (31, true)]) hmo (by kernel_rfl) ⟨by simpa using s0, by simpa using s1, by simpa using s2, by simpa using s3⟩ ?_
          iterate 32 (first | (refine line_get rfl rfl (fun K hK => ?_); apply Exists.intro; refine ⟨fun w hS => ?_, ?_⟩; (first | (have hS' := hS rfl; go_simp; with_reducible rfl) | (go_simp; with_reducible rfl)); (go_simp; refine hK _ ?_; clear hK K)) | (refine line_past rfl rfl (fun K hK => ?_); go_simp; refine hK _ ?_; clear hK K))
          refine line_nil ?_
          clear s0 s1 s2 s3
          go_wp2_with fail
          exact ⟨⟨k + 1, by go_num, by omega, Lib.hid ((HI.out.trans H11.out (fun _ _ h => h) (fun _ _ h => h)).trans (Kp.drew _ _) (fun _ _ h => h) (fun _ _ h => h))⟩, by simp [intOf]; omega⟩
        · have t1 : decide (0 < k) = true := decide_eq_true (by omega)
          obtain ⟨j, hj⟩ : ∃ j, k = j + 1 := ⟨k - 1, by omega⟩
          obtain ⟨y, hy⟩ : ∃ y, L[j]? = some y := ⟨_, List.getElem?_eq_getElem (by omega)⟩
          obtain ⟨hp1, hp2⟩ := HH.out.2.2.2.2.2.2.2.2.1 j y hj hy
          obtain ⟨b2, o2, he, y0, y1, y2, y3⟩ := dr_cells (H5.out.1.rdc.new (HI.out.trans H11.out (U := fun _ => False) (fun _ _ h => h) (fun _ _ h => h))) hy
          cases he
          obtain ⟨yd, yc, yb⟩ := y
          simp only at hp1 hp2 y1 y3
          have t2 : decide (xd ≤ yd) = false := decide_eq_false (by omega)
          have hwk : IntKind.i64.wrap ((k : Int) - 1) = (j : Int) := by rw [IntKind.wrap_i64]; omega
          have hji : (j : Int) < (L.length : Int) := by omega
          have hj0 : (0 : Int) ≤ j := by omega
          have HK := Lib.hid (And.intro hk1 hj)
          subst hp1
          clear hk1 hj hy y0 y2 hp2
          refine wp_region_line (fun w' => (w'.cell? ⟨wr.heap.size, 0, none⟩ = some (.string (bstr nm)) ∧ w'.cell? ⟨wr.heap.size, 1, none⟩ = some (.int .i64 xd) ∧ w'.cell? ⟨wr.heap.size, 2, none⟩ = some (.int .i64 xc) ∧ w'.cell? ⟨wr.heap.size, 3, none⟩ = some (.int .i64 xb)) ∧ w'.cell? ⟨b1, o1 + j * 4 + 1, none⟩ = some (.int .i64 yd) ∧ w'.cell? ⟨b1, o1 + j * 4 + 3, none⟩ = some (.int .i64 bf)) (pl := [(0, true), (1, true), (2, true), (3, true), (4, true), (5, true), (6, true), (7, true), (8, true), (9, true), (10, true), (11, true), (12, true), (13, true), (14, true), (15, true), (16, true), (17, true), (18, true), (19, true), (20, true), (21, true), (22, true), (23, true), (24, true), (25, true), (26, true), (27, true), (28, true), (29, true), (30, true), (31, true)]) hmo (by kernel_rfl) ⟨⟨by simpa using s0, by simpa using s1, by simpa using s2, by simpa using s3⟩, by simpa using y1, by simpa using y3⟩ ?_
          iterate 32 (refine line_get rfl rfl (fun K hK => ?_); apply Exists.intro; refine ⟨fun w hS => ?_, ?_⟩; (first | (have hS' := hS rfl; go_simp; with_reducible rfl) | (go_simp; with_reducible rfl)); (go_simp; refine hK _ ?_; clear hK K))
          refine line_nil ?_
          clear s0 s1 s2 s3 y1 y3
          go_wp2_with fail
          exact ⟨⟨k + 1, by go_num, by omega, Lib.hid ((HI.out.trans H11.out (fun _ _ h => h) (fun _ _ h => h)).trans (Kp.drew _ _) (fun _ _ h => h) (fun _ _ h => h))⟩, by simp [intOf]; omega⟩
      · obtain rfl : k = L.length := by omega
        go_wp2_with fail
        go_ret
        exact ⟨rfl, H5.out.2.1.trans HI.out (fun _ _ h => h) (fun _ _ h => h)⟩
  · have hg : decide (cut < fr) = false := decide_eq_false h1
    by_cases h2 : to ≤ cut
    · have hg2 : decide (to ≤ cut) = true := decide_eq_true h2
      have hl : ¬ (to < to) := Int.lt_irrefl _
      go_wp2_with fail
      refine (Between_calls W5 v O1 F1 ps.length nm fr to H5.out.2.2.1 (by omega)).mono ?_
      rintro e W6 ⟨A6, c6, rfl, hO6, hn6, hA6⟩
      rw [H5.out.2.2.2.2.2, List.length_map] at hO6 ⊢
      have H6 := Lib.hid (And.intro hO6 hn6)
      clear hO6 hn6 hA6
      go_wp2_with fail
      refine (same9_calls W6 A5 A6 L.length L.length c5 c6 (L.map (drOf nm)) (L.map (drOf nm)) (H5.out.1.rdc.new H6.out.2) H6.out.1.rdc (by rw [List.length_map]) (by rw [List.length_map]) (by omega)).mono ?_
      rintro e W7 ⟨r, rfl, hr, hn7⟩
      obtain rfl : r = true := hr.2 rfl
      have n57 : New W5 W7 := H6.out.2.trans hn7 (fun _ _ h => h) (fun _ _ h => h)
      have H7 := Lib.hid n57
      clear hr hn7 n57
      go_wp2_with fail
      go_loopw [16] (fun i wr => ∃ k : Nat, i = .int .i64 (k : Int) ∧ k ≤ L.length ∧ Hid (New W5 wr)) (fun i _ => L.length - (intOf i).toNat)
      case atStart => exact ⟨0, rfl, Nat.zero_le _, H7⟩
      case round =>
        obtain ⟨k, rfl, hk, HI⟩ := hrel
        have hk0 : (0 : Int) ≤ k := by omega
        by_cases hlt : k < L.length
        · have hki : (k : Int) < (L.length : Int) := by omega
          obtain ⟨x, hx⟩ : ∃ x, L[k]? = some x := ⟨_, List.getElem?_eq_getElem hlt⟩
          obtain ⟨hxd, hxf, hxt⟩ := H5.out.2.2.2.1 x (List.mem_of_getElem? hx)
          obtain ⟨hx1, hx2⟩ := H4.out.2.2 x hxd
          obtain ⟨hxc, hxn, hxb⟩ := days_mem hxd
          obtain ⟨b1, o1, rfl, q0, q1, q2, q3⟩ := dr_cells (H5.out.1.rdc.new HI.out) hx
          obtain ⟨xd, xc, xb⟩ := x
          simp only at hxf hxt hx1 hx2 hxc hxn hxb q1 q2 q3
          have hfit := ViewD.fit H5.out.2.2.1 nm
          have ham1 := (hfit xd).1
          have ham2 := (hfit xd).2
          have ham3 := (hfit (xd - 1)).2
          have hstp := bal_step (O1 nm) xd
          rw [← hxc] at ham1 hstp
          rw [← hxb] at ham2 hstp
          unfold amtD at ham1 ham2 ham3
          obtain ⟨bf, hbf⟩ : ∃ bf, bal (O1 nm) (xd - 1) = bf := ⟨_, rfl⟩
          rw [hbf] at ham3 hstp
          have hws : IntKind.i64.wrap (xd - 1) = xd - 1 := by rw [IntKind.wrap_i64]; omega
          obtain ⟨W8, hW8⟩ : ∃ W8, wr.alloc (.cells #[.string (bstr nm), .int .i64 xd, .int .i64 xc, .int .i64 xb] 62) = W8 := ⟨_, rfl⟩
          have n8 : New wr W8 := hW8 ▸ Kp.alloc _ _ _
          have b8 : W8.heap[wr.heap.size]? = some (.cells #[.string (bstr nm), .int .i64 xd, .int .i64 xc, .int .i64 xb] 62 (0, 0)) := hW8 ▸ heap_alloc_new wr _
          have v8 := (H5.out.2.2.1.new HI.out).new n8
          have hAt := At_calls W8 v O1 F1 ps.length nm (xd - 1) v8 (by omega)
          rw [hbf] at hAt
          have hprev : ∀ j y, k = j + 1 → L[j]? = some y → bf = y.2.2 ∧ y.1 < xd := fun j y e hy => by
            subst e
            have := H5.out.2.2.2.2.1 j _ y hy hx
            rw [hbf] at this
            exact this
          have HH := Lib.hid (And.intro hx (And.intro hxd (And.intro hxc (And.intro hxb (And.intro hstp (And.intro n8 (And.intro b8 (And.intro v8 (And.intro hprev hW8)))))))))
          clear hx hxd hxc hxb hstp n8 b8 v8 hprev hfit hbf hW8
          go_wp2_with fail
          rw [HH.out.2.2.2.2.2.2.2.2.2]
          refine hAt.mono ?_
          rintro e W9 ⟨rfl, hn9⟩
          have b9 := (hn9.block _ (Array.getElem?_eq_some_iff.1 HH.out.2.2.2.2.2.2.1).1 id).trans HH.out.2.2.2.2.2.2.1
          have r1 : W9.cell? ⟨wr.heap.size, 1, none⟩ = some (.int .i64 xd) := (cell_of_block b9).trans rfl
          have v9 := HH.out.2.2.2.2.2.2.2.1.new hn9
          have hB := Between_calls W9 v O1 F1 ps.length nm xd xd v9 (by omega)
          rw [betw_one (x := (xd, xc, xb)) HH.out.2.1] at hB
          have H9 := Lib.hid (And.intro hn9 (And.intro b9 v9))
          clear hn9 b9 v9 hAt q0 q1 q2 q3
          go_wp2_with fail
          refine hB.mono ?_
          rintro e W10 ⟨A10, c10, rfl, hO10, hn10, hA10⟩
          obtain ⟨g10, rfl⟩ := hO10.some_ (by simp)
          have p0 : W10.cell? ⟨g10, 0, none⟩ = some (.string (bstr nm)) := hO10.cell (by rfl)
          have p1 : W10.cell? ⟨g10, 1, none⟩ = some (.int .i64 xd) := hO10.cell (by rfl)
          have p2 : W10.cell? ⟨g10, 2, none⟩ = some (.int .i64 xc) := hO10.cell (by rfl)
          have p3 : W10.cell? ⟨g10, 3, none⟩ = some (.int .i64 xb) := hO10.cell (by rfl)
          have b10 := (hn10.block _ (Array.getElem?_eq_some_iff.1 H9.out.2.1).1 id).trans H9.out.2.1
          have n10 : New wr W10 := (HH.out.2.2.2.2.2.1.trans H9.out.1 (fun _ _ h => h) (fun _ _ h => h)).trans hn10 (fun _ _ h => h) (fun _ _ h => h)
          have hAt2 := At_calls W10.drew v O1 F1 ps.length nm xd ((H9.out.2.2.new hn10).new (Kp.drew _ _)) (by omega)
          rw [← HH.out.2.2.2.1] at hAt2
          have H10 := Lib.hid (And.intro n10 b10)
          have r0 : W10.cell? ⟨wr.heap.size, 0, none⟩ = some (.string (bstr nm)) := (cell_of_block b10).trans rfl
          have r1 : W10.cell? ⟨wr.heap.size, 1, none⟩ = some (.int .i64 xd) := (cell_of_block b10).trans rfl
          have r2 : W10.cell? ⟨wr.heap.size, 2, none⟩ = some (.int .i64 xc) := (cell_of_block b10).trans rfl
          have r3 : W10.cell? ⟨wr.heap.size, 3, none⟩ = some (.int .i64 xb) := (cell_of_block b10).trans rfl
          clear hn10 hA10 b10 n10 hO10 hB
          have t1 : decide (xd < fr) = false := decide_eq_false (by omega)
          have t2 : decide (to < xd) = false := decide_eq_false (by omega)
          have t3 : (xc == (0 : Int)) = false := by simpa using hxn
          go_wp2_with fail
          refine wp_region_line (fun w' => (w'.cell? ⟨wr.heap.size, 0, none⟩ = some (.string (bstr nm)) ∧ w'.cell? ⟨wr.heap.size, 1, none⟩ = some (.int .i64 xd) ∧ w'.cell? ⟨wr.heap.size, 2, none⟩ = some (.int .i64 xc) ∧ w'.cell? ⟨wr.heap.size, 3, none⟩ = some (.int .i64 xb)) ∧ (w'.cell? ⟨g10, 0, none⟩ = some (.string (bstr nm)) ∧ w'.cell? ⟨g10, 1, none⟩ = some (.int .i64 xd) ∧ w'.cell? ⟨g10, 2, none⟩ = some (.int .i64 xc) ∧ w'.cell? ⟨g10, 3, none⟩ = some (.int .i64 xb))) (pl := [(0, true), (1, true), (2, true), (3, true), (4, true), (5, true), (6, true), (7, true), (8, true), (9, true), (10, true), (11, true), (12, true), (13, true), (14, true), (15, true), (16, true), (17, true), (18, true), (19, true), (20, true), (21, true), (22, true), (23, true), (24, true), (25, true), (26, true), (27, true), (28, false), (29, true), (30, true), (31, true), (32, true), (33, true), (34, true), (35, true), (36, true), (37, true), (38, true), (39, true), (40, true), (41, true), (42, true)]) hmo (by kernel_rfl) ⟨⟨by simpa using r0, by simpa using r1, by simpa using r2, by simpa using r3⟩, by simpa using p0, by simpa using p1, by simpa using p2, by simpa using p3⟩ ?_
          iterate 28 (refine line_get rfl rfl (fun K hK => ?_); apply Exists.intro; refine ⟨fun w hS => ?_, ?_⟩; (first | (have hS' := hS rfl; go_simp; with_reducible rfl) | (go_simp; with_reducible rfl)); (go_simp; refine hK _ ?_; clear hK K))
          (refine line_do rfl rfl (fun K hK => ?_); go_simp)
          refine hAt2.mono ?_
          rintro e W11 ⟨rfl, hn11⟩
          have nd11 : New W10 W11 := (Kp.drew _ _).trans hn11 (fun _ _ h => h) (fun _ _ h => h)
          refine hK _ _ (fun _ => ⟨⟨nd11.cell r0, nd11.cell r1, nd11.cell r2, nd11.cell r3⟩, nd11.cell p0, nd11.cell p1, nd11.cell p2, nd11.cell p3⟩) ?_
          clear hK K
          have s0 := New.cell nd11 r0
          have s1 := New.cell nd11 r1
          have s2 := New.cell nd11 r2
          have s3 := New.cell nd11 r3
          have H11 := Lib.hid (H10.out.1.trans nd11 (fun _ _ h => h) (fun _ _ h => h))
          iterate 14 (refine line_get rfl rfl (fun K hK => ?_); apply Exists.intro; refine ⟨fun w hS => ?_, ?_⟩; (first | (have hS' := hS rfl; go_simp; with_reducible rfl) | (go_simp; with_reducible rfl)); (go_simp; refine hK _ ?_; clear hK K))
          refine line_nil ?_
          clear hn11 nd11 hAt2 r0 r1 r2 r3 p0 p1 p2 p3 t1 t2 t3
          go_wp2_with fail
          have hw2 : IntKind.i64.wrap (xb - bf) = xc := by have h := HH.out.2.2.2.2.1; rw [IntKind.wrap_i64]; omega
          by_cases hk1 : k = 0
          · have t1 : decide (0 < k) = false := decide_eq_false (by omega)
            have HK := Lib.hid hk1
            clear hk1
            refine wp_region_line (fun w' => w'.cell? ⟨wr.heap.size, 0, none⟩ = some (.string (bstr nm)) ∧ w'.cell? ⟨wr.heap.size, 1, none⟩ = some (.int .i64 xd) ∧ w'.cell? ⟨wr.heap.size, 2, none⟩ = some (.int .i64 xc) ∧ w'.cell? ⟨wr.heap.size, 3, none⟩ = some (.int .i64 xb)) (pl := [(0, true), (1, true), (2, true), (3, true), (4, true), (5, true), (6, true), (7, true), (8, true), (9, true), (10, true), (11, true), (12, true), (13, true), (14, true), (15, true), (16, true), (17, true), (18, true), (19, true), (20, true), (21, true), (22, true), (23, true), (24, true), (25, true), (26, true), (27, true), (28, true), (29, true), (30, true), (31, true)]) hmo (by kernel_rfl) ⟨by simpa using s0, by simpa using s1, by simpa using s2, by simpa using s3⟩ ?_
            iterate 32 (first | (refine line_get rfl rfl (fun K hK => ?_); apply Exists.intro; refine ⟨fun w hS => ?_, ?_⟩; (first | (have hS' := hS rfl; go_simp; with_reducible rfl) | (go_simp; with_reducible rfl)); (go_simp; refine hK _ ?_; clear hK K)) | (refine line_past rfl rfl (fun K hK => ?_); go_simp; refine hK _ ?_; clear hK K))
            refine line_nil ?_
            clear s0 s1 s2 s3
            go_wp2_with fail
            exact ⟨⟨k + 1, by go_num, by omega, Lib.hid ((HI.out.trans H11.out (fun _ _ h => h) (fun _ _ h => h)).trans (Kp.drew _ _) (fun _ _ h => h) (fun _ _ h => h))⟩, by simp [intOf]; omega⟩
          · have t1 : decide (0 < k) = true := decide_eq_true (by omega)
            obtain ⟨j, hj⟩ : ∃ j, k = j + 1 := ⟨k - 1, by omega⟩
            obtain ⟨y, hy⟩ : ∃ y, L[j]? = some y := ⟨_, List.getElem?_eq_getElem (by omega)⟩
            obtain ⟨hp1, hp2⟩ := HH.out.2.2.2.2.2.2.2.2.1 j y hj hy
            obtain ⟨b2, o2, he, y0, y1, y2, y3⟩ := dr_cells (H5.out.1.rdc.new (HI.out.trans H11.out (U := fun _ => False) (fun _ _ h => h) (fun _ _ h => h))) hy
            cases he
            obtain ⟨yd, yc, yb⟩ := y
            simp only at hp1 hp2 y1 y3
            have t2 : decide (xd ≤ yd) = false := decide_eq_false (by omega)
            have hwk : IntKind.i64.wrap ((k : Int) - 1) = (j : Int) := by rw [IntKind.wrap_i64]; omega
            have hji : (j : Int) < (L.length : Int) := by omega
            have hj0 : (0 : Int) ≤ j := by omega
            have HK := Lib.hid (And.intro hk1 hj)
            subst hp1
            clear hk1 hj hy y0 y2 hp2
            refine wp_region_line (fun w' => (w'.cell? ⟨wr.heap.size, 0, none⟩ = some (.string (bstr nm)) ∧ w'.cell? ⟨wr.heap.size, 1, none⟩ = some (.int .i64 xd) ∧ w'.cell? ⟨wr.heap.size, 2, none⟩ = some (.int .i64 xc) ∧ w'.cell? ⟨wr.heap.size, 3, none⟩ = some (.int .i64 xb)) ∧ w'.cell? ⟨b1, o1 + j * 4 + 1, none⟩ = some (.int .i64 yd) ∧ w'.cell? ⟨b1, o1 + j * 4 + 3, none⟩ = some (.int .i64 bf)) (pl := [(0, true), (1, true), (2, true), (3, true), (4, true), (5, true), (6, true), (7, true), (8, true), (9, true), (10, true), (11, true), (12, true), (13, true), (14, true), (15, true), (16, true), (17, true), (18, true), (19, true), (20, true), (21, true), (22, true), (23, true), (24, true), (25, true), (26, true), (27, true), (28, true), (29, true), (30, true), (31, true)]) hmo (by kernel_rfl) ⟨⟨by simpa using s0, by simpa using s1, by simpa using s2, by simpa using s3⟩, by simpa using y1, by simpa using y3⟩ ?_
            iterate 32 (refine line_get rfl rfl (fun K hK => ?_); apply Exists.intro; refine ⟨fun w hS => ?_, ?_⟩; (first | (have hS' := hS rfl; go_simp; with_reducible rfl) | (go_simp; with_reducible rfl)); (go_simp; refine hK _ ?_; clear hK K))
            refine line_nil ?_
            clear s0 s1 s2 s3 y1 y3
            go_wp2_with fail
            exact ⟨⟨k + 1, by go_num, by omega, Lib.hid ((HI.out.trans H11.out (fun _ _ h => h) (fun _ _ h => h)).trans (Kp.drew _ _) (fun _ _ h => h) (fun _ _ h => h))⟩, by simp [intOf]; omega⟩
        · obtain rfl : k = L.length := by omega
          go_wp2_with fail
          go_ret
          exact ⟨rfl, H5.out.2.1.trans HI.out (fun _ _ h => h) (fun _ _ h => h)⟩
    · have hg2 : decide (to ≤ cut) = false := decide_eq_false h2
      have hl : cut < to := by omega
      have hl2 : fr ≤ cut := by omega
      obtain ⟨L1, hL1⟩ : ∃ L1, betw (O1 nm) fr cut = L1 := ⟨_, rfl⟩
      obtain ⟨L2, hL2⟩ : ∃ L2, betw (O1 nm) (cut + 1) to = L2 := ⟨_, rfl⟩
      have hLL : L = L1 ++ L2 := by rw [← H5.out.2.2.2.2.2, betw_cut (O1 nm) hl2 hl, hL1, hL2]
      have hll : L1.length + L2.length = L.length := by rw [hLL, List.length_append]
      have HL := Lib.hid (And.intro hL1 (And.intro hL2 hLL))
      clear hL1 hL2 hLL
      have hwc : IntKind.i64.wrap (cut + 1) = cut + 1 := by rw [IntKind.wrap_i64]; omega
      go_wp2_with fail
      refine (Between_calls W5 v O1 F1 ps.length nm fr cut H5.out.2.2.1 (by omega)).mono ?_
      rintro e W5b ⟨A7, c7, rfl, hO7, hn7, hA7⟩
      rw [HL.out.1, List.length_map] at hO7 ⊢
      have H7 := Lib.hid (And.intro hO7 (And.intro hn7 hA7))
      clear hO7 hn7 hA7
      go_wp2_with fail
      refine (Between_calls W5b v O1 F1 ps.length nm (cut + 1) to (H5.out.2.2.1.new H7.out.2.1) (by omega)).mono ?_
      rintro e W5c ⟨A8, c8, rfl, hO8, hn8, hA8⟩
      rw [HL.out.2.1, List.length_map] at hO8 ⊢
      have H8 := Lib.hid (And.intro hO8 hn8)
      clear hO8 hn8 hA8
      go_wp2_with (at_builtin; refine wpList_append_src _ rfl (.tmp 54) (.tmp 60) 54 54 rfl 62 _ 4 40 Tryd.underlying54 Tryd.info_dr rfl A7 c7 L1.length ((L1.map (drOf nm)).flatMap Dr.cells) rfl (H7.out.1.new H8.out.2) (.slice A8 L2.length c8) rfl L2.length ((L2.map (drOf nm)).flatMap Dr.cells) (Src.ofRdC Tryd.underlying54 4 _ _ H8.out.1.rdc (by rw [flat_length Dr.len, List.length_map]) (by decide) (Dr.one _)) (by omega) (by omega) ?_; intro A6 c6 W6 h51 h52 h53; have h6 : New W5 W6 := (H7.out.2.1.trans H8.out.2 (fun _ _ h => h) (fun _ _ h => h)).trans h52 (fun _ _ h => h) (fun k hk h => by have := H7.out.2.2 k h; omega); have H6a := Lib.hid (And.intro h51 h6); clear h51 h52 h53 h6)
      have H6 : Hid (Own W6 62 4 A6 c6 L.length ((L.map (drOf nm)).flatMap Dr.cells) ∧ New W5 W6) := Lib.hid ⟨by
        have h := H6a.out.1
        rw [hll, ← List.flatMap_append, ← dr_map_app, ← HL.out.2.2] at h
        exact h, H6a.out.2⟩
      refine (same9_calls W6 A5 A6 L.length L.length c5 c6 (L.map (drOf nm)) (L.map (drOf nm)) (H5.out.1.rdc.new H6.out.2) H6.out.1.rdc (by rw [List.length_map]) (by rw [List.length_map]) (by omega)).mono ?_
      rintro e W7 ⟨r, rfl, hr, hn7⟩
      obtain rfl : r = true := hr.2 rfl
      have n57 : New W5 W7 := H6.out.2.trans hn7 (fun _ _ h => h) (fun _ _ h => h)
      have H7 := Lib.hid n57
      clear hr hn7 n57
      go_wp2_with fail
      go_loopw [16] (fun i wr => ∃ k : Nat, i = .int .i64 (k : Int) ∧ k ≤ L.length ∧ Hid (New W5 wr)) (fun i _ => L.length - (intOf i).toNat)
      case atStart => exact ⟨0, rfl, Nat.zero_le _, H7⟩
      case round =>
        obtain ⟨k, rfl, hk, HI⟩ := hrel
        have hk0 : (0 : Int) ≤ k := by omega
        by_cases hlt : k < L.length
        · have hki : (k : Int) < (L.length : Int) := by omega
          obtain ⟨x, hx⟩ : ∃ x, L[k]? = some x := ⟨_, List.getElem?_eq_getElem hlt⟩
          obtain ⟨hxd, hxf, hxt⟩ := H5.out.2.2.2.1 x (List.mem_of_getElem? hx)
          obtain ⟨hx1, hx2⟩ := H4.out.2.2 x hxd
          obtain ⟨hxc, hxn, hxb⟩ := days_mem hxd
          obtain ⟨b1, o1, rfl, q0, q1, q2, q3⟩ := dr_cells (H5.out.1.rdc.new HI.out) hx
          obtain ⟨xd, xc, xb⟩ := x
          simp only at hxf hxt hx1 hx2 hxc hxn hxb q1 q2 q3
          have hfit := ViewD.fit H5.out.2.2.1 nm
          have ham1 := (hfit xd).1
          have ham2 := (hfit xd).2
          have ham3 := (hfit (xd - 1)).2
          have hstp := bal_step (O1 nm) xd
          rw [← hxc] at ham1 hstp
          rw [← hxb] at ham2 hstp
          unfold amtD at ham1 ham2 ham3
          obtain ⟨bf, hbf⟩ : ∃ bf, bal (O1 nm) (xd - 1) = bf := ⟨_, rfl⟩
          rw [hbf] at ham3 hstp
          have hws : IntKind.i64.wrap (xd - 1) = xd - 1 := by rw [IntKind.wrap_i64]; omega
          obtain ⟨W8, hW8⟩ : ∃ W8, wr.alloc (.cells #[.string (bstr nm), .int .i64 xd, .int .i64 xc, .int .i64 xb] 62) = W8 := ⟨_, rfl⟩
          have n8 : New wr W8 := hW8 ▸ Kp.alloc _ _ _
          have b8 : W8.heap[wr.heap.size]? = some (.cells #[.string (bstr nm), .int .i64 xd, .int .i64 xc, .int .i64 xb] 62 (0, 0)) := hW8 ▸ heap_alloc_new wr _
          have v8 := (H5.out.2.2.1.new HI.out).new n8
          have hAt := At_calls W8 v O1 F1 ps.length nm (xd - 1) v8 (by omega)
          rw [hbf] at hAt
          have hprev : ∀ j y, k = j + 1 → L[j]? = some y → bf = y.2.2 ∧ y.1 < xd := fun j y e hy => by
            subst e
            have := H5.out.2.2.2.2.1 j _ y hy hx
            rw [hbf] at this
            exact this
          have HH := Lib.hid (And.intro hx (And.intro hxd (And.intro hxc (And.intro hxb (And.intro hstp (And.intro n8 (And.intro b8 (And.intro v8 (And.intro hprev hW8)))))))))
          clear hx hxd hxc hxb hstp n8 b8 v8 hprev hfit hbf hW8
          go_wp2_with fail
          rw [HH.out.2.2.2.2.2.2.2.2.2]
          refine hAt.mono ?_
          rintro e W9 ⟨rfl, hn9⟩
          have b9 := (hn9.block _ (Array.getElem?_eq_some_iff.1 HH.out.2.2.2.2.2.2.1).1 id).trans HH.out.2.2.2.2.2.2.1
          have r1 : W9.cell? ⟨wr.heap.size, 1, none⟩ = some (.int .i64 xd) := (cell_of_block b9).trans rfl
          have v9 := HH.out.2.2.2.2.2.2.2.1.new hn9
          have hB := Between_calls W9 v O1 F1 ps.length nm xd xd v9 (by omega)
          rw [betw_one (x := (xd, xc, xb)) HH.out.2.1] at hB
          have H9 := Lib.hid (And.intro hn9 (And.intro b9 v9))
          clear hn9 b9 v9 hAt q0 q1 q2 q3
          go_wp2_with fail
          refine hB.mono ?_
          rintro e W10 ⟨A10, c10, rfl, hO10, hn10, hA10⟩
          obtain ⟨g10, rfl⟩ := hO10.some_ (by simp)
          have p0 : W10.cell? ⟨g10, 0, none⟩ = some (.string (bstr nm)) := hO10.cell (by rfl)
          have p1 : W10.cell? ⟨g10, 1, none⟩ = some (.int .i64 xd) := hO10.cell (by rfl)
          have p2 : W10.cell? ⟨g10, 2, none⟩ = some (.int .i64 xc) := hO10.cell (by rfl)
          have p3 : W10.cell? ⟨g10, 3, none⟩ = some (.int .i64 xb) := hO10.cell (by rfl)
          have b10 := (hn10.block _ (Array.getElem?_eq_some_iff.1 H9.out.2.1).1 id).trans H9.out.2.1
          have n10 : New wr W10 := (HH.out.2.2.2.2.2.1.trans H9.out.1 (fun _ _ h => h) (fun _ _ h => h)).trans hn10 (fun _ _ h => h) (fun _ _ h => h)
          have hAt2 := At_calls W10.drew v O1 F1 ps.length nm xd ((H9.out.2.2.new hn10).new (Kp.drew _ _)) (by omega)
          rw [← HH.out.2.2.2.1] at hAt2
          have H10 := Lib.hid (And.intro n10 b10)
          have r0 : W10.cell? ⟨wr.heap.size, 0, none⟩ = some (.string (bstr nm)) := (cell_of_block b10).trans rfl
          have r1 : W10.cell? ⟨wr.heap.size, 1, none⟩ = some (.int .i64 xd) := (cell_of_block b10).trans rfl
          have r2 : W10.cell? ⟨wr.heap.size, 2, none⟩ = some (.int .i64 xc) := (cell_of_block b10).trans rfl
          have r3 : W10.cell? ⟨wr.heap.size, 3, none⟩ = some (.int .i64 xb) := (cell_of_block b10).trans rfl
          clear hn10 hA10 b10 n10 hO10 hB
          have t1 : decide (xd < fr) = false := decide_eq_false (by omega)
          have t2 : decide (to < xd) = false := decide_eq_false (by omega)
          have t3 : (xc == (0 : Int)) = false := by simpa using hxn
          go_wp2_with fail
          refine wp_region_line (fun w' => (w'.cell? ⟨wr.heap.size, 0, none⟩ = some (.string (bstr nm)) ∧ w'.cell? ⟨wr.heap.size, 1, none⟩ = some (.int .i64 xd) ∧ w'.cell? ⟨wr.heap.size, 2, none⟩ = some (.int .i64 xc) ∧ w'.cell? ⟨wr.heap.size, 3, none⟩ = some (.int .i64 xb)) ∧ (w'.cell? ⟨g10, 0, none⟩ = some (.string (bstr nm)) ∧ w'.cell? ⟨g10, 1, none⟩ = some (.int .i64 xd) ∧ w'.cell? ⟨g10, 2, none⟩ = some (.int .i64 xc) ∧ w'.cell? ⟨g10, 3, none⟩ = some (.int .i64 xb))) (pl := [(0, true), (1, true), (2, true), (3, true), (4, true), (5, true), (6, true), (7, true), (8, true), (9, true), (10, true), (11, true), (12, true), (13, true), (14, true), (15, true), (16, true), (17, true), (18, true), (19, true), (20, true), (21, true), (22, true), (23, true), (24, true), (25, true), (26, true), (27, true), (28, false), (29, true), (30, true), (31, true), (32, true), (33, true), (34, true), (35, true), (36, true), (37, true), (38, true), (39, true), (40, true), (41, true), (42, true)]) hmo (by kernel_rfl) ⟨⟨by simpa using r0, by simpa using r1, by simpa using r2, by simpa using r3⟩, by simpa using p0, by simpa using p1, by simpa using p2, by simpa using p3⟩ ?_
          iterate 28 (refine line_get rfl rfl (fun K hK => ?_); apply Exists.intro; refine ⟨fun w hS => ?_, ?_⟩; (first | (have hS' := hS rfl; go_simp; with_reducible rfl) | (go_simp; with_reducible rfl)); (go_simp; refine hK _ ?_; clear hK K))
          (refine line_do rfl rfl (fun K hK => ?_); go_simp)
          refine hAt2.mono ?_
          rintro e W11 ⟨rfl, hn11⟩
          have nd11 : New W10 W11 := (Kp.drew _ _).trans hn11 (fun _ _ h => h) (fun _ _ h => h)
          refine hK _ _ (fun _ => ⟨⟨nd11.cell r0, nd11.cell r1, nd11.cell r2, nd11.cell r3⟩, nd11.cell p0, nd11.cell p1, nd11.cell p2, nd11.cell p3⟩) ?_
          clear hK K
          have s0 := New.cell nd11 r0
          have s1 := New.cell nd11 r1
          have s2 := New.cell nd11 r2
          have s3 := New.cell nd11 r3
          have H11 := Lib.hid (H10.out.1.trans nd11 (fun _ _ h => h) (fun _ _ h => h))
          iterate 14 (refine line_get rfl rfl (fun K hK => ?_); apply Exists.intro; refine ⟨fun w hS => ?_, ?_⟩; (first | (have hS' := hS rfl; go_simp; with_reducible rfl) | (go_simp; with_reducible rfl)); (go_simp; refine hK _ ?_; clear hK K))
          refine line_nil ?_
          clear hn11 nd11 hAt2 r0 r1 r2 r3 p0 p1 p2 p3 t1 t2 t3
          go_wp2_with fail
          have hw2 : IntKind.i64.wrap (xb - bf) = xc := by have h := HH.out.2.2.2.2.1; rw [IntKind.wrap_i64]; omega
          by_cases hk1 : k = 0
          · have t1 : decide (0 < k) = false := decide_eq_false (by omega)
            have HK := Lib.hid hk1
            clear hk1
            refine wp_region_line (fun w' => w'.cell? ⟨wr.heap.size, 0, none⟩ = some (.string (bstr nm)) ∧ w'.cell? ⟨wr.heap.size, 1, none⟩ = some (.int .i64 xd) ∧ w'.cell? ⟨wr.heap.size, 2, none⟩ = some (.int .i64 xc) ∧ w'.cell? ⟨wr.heap.size, 3, none⟩ = some (.int .i64 xb)) (pl := [(0, true), (1, true), (2, true), (3, true), (4, true), (5, true), (6, true), (7, true), (8, true), (9, true), (10, true), (11, true), (12, true), (13, true), (14, true), (15, true), (16, true), (17, true), (18, true), (19, true), (20, true), (21, true), (22, true), (23, true), (24, true), (25, true), (26, true), (27, true), (28, true), (29, true), (30, true), (31, true)]) hmo (by kernel_rfl) ⟨by simpa using s0, by simpa using s1, by simpa using s2, by simpa using s3⟩ ?_
            iterate 32 (first | (refine line_get rfl rfl (fun K hK => ?_); apply Exists.intro; refine ⟨fun w hS => ?_, ?_⟩; (first | (have hS' := hS rfl; go_simp; with_reducible rfl) | (go_simp; with_reducible rfl)); (go_simp; refine hK _ ?_; clear hK K)) | (refine line_past rfl rfl (fun K hK => ?_); go_simp; refine hK _ ?_; clear hK K))
            refine line_nil ?_
            clear s0 s1 s2 s3
            go_wp2_with fail
            exact ⟨⟨k + 1, by go_num, by omega, Lib.hid ((HI.out.trans H11.out (fun _ _ h => h) (fun _ _ h => h)).trans (Kp.drew _ _) (fun _ _ h => h) (fun _ _ h => h))⟩, by simp [intOf]; omega⟩
          · have t1 : decide (0 < k) = true := decide_eq_true (by omega)
            obtain ⟨j, hj⟩ : ∃ j, k = j + 1 := ⟨k - 1, by omega⟩
            obtain ⟨y, hy⟩ : ∃ y, L[j]? = some y := ⟨_, List.getElem?_eq_getElem (by omega)⟩
            obtain ⟨hp1, hp2⟩ := HH.out.2.2.2.2.2.2.2.2.1 j y hj hy
            obtain ⟨b2, o2, he, y0, y1, y2, y3⟩ := dr_cells (H5.out.1.rdc.new (HI.out.trans H11.out (U := fun _ => False) (fun _ _ h => h) (fun _ _ h => h))) hy
            cases he
            obtain ⟨yd, yc, yb⟩ := y
            simp only at hp1 hp2 y1 y3
            have t2 : decide (xd ≤ yd) = false := decide_eq_false (by omega)
            have hwk : IntKind.i64.wrap ((k : Int) - 1) = (j : Int) := by rw [IntKind.wrap_i64]; omega
            have hji : (j : Int) < (L.length : Int) := by omega
            have hj0 : (0 : Int) ≤ j := by omega
            have HK := Lib.hid (And.intro hk1 hj)
            subst hp1
            clear hk1 hj hy y0 y2 hp2
            refine wp_region_line (fun w' => (w'.cell? ⟨wr.heap.size, 0, none⟩ = some (.string (bstr nm)) ∧ w'.cell? ⟨wr.heap.size, 1, none⟩ = some (.int .i64 xd) ∧ w'.cell? ⟨wr.heap.size, 2, none⟩ = some (.int .i64 xc) ∧ w'.cell? ⟨wr.heap.size, 3, none⟩ = some (.int .i64 xb)) ∧ w'.cell? ⟨b1, o1 + j * 4 + 1, none⟩ = some (.int .i64 yd) ∧ w'.cell? ⟨b1, o1 + j * 4 + 3, none⟩ = some (.int .i64 bf)) (pl := [(0, true), (1, true), (2, true), (3, true), (4, true), (5, true), (6, true), (7, true), (8, true), (9, true), (10, true), (11, true), (12, true), (13, true), (14, true), (15, true), (16, true), (17, true), (18, true), (19, true), (20, true), (21, true), (22, true), (23, true), (24, true), (25, true), (26, true), (27, true), (28, true), (29, true), (30, true), (31, true)]) hmo (by kernel_rfl) ⟨⟨by simpa using s0, by simpa using s1, by simpa using s2, by simpa using s3⟩, by simpa using y1, by simpa using y3⟩ ?_
            iterate 32 (refine line_get rfl rfl (fun K hK => ?_); apply Exists.intro; refine ⟨fun w hS => ?_, ?_⟩; (first | (have hS' := hS rfl; go_simp; with_reducible rfl) | (go_simp; with_reducible rfl)); (go_simp; refine hK _ ?_; clear hK K))
            refine line_nil ?_
            clear s0 s1 s2 s3 y1 y3
            go_wp2_with fail
            exact ⟨⟨k + 1, by go_num, by omega, Lib.hid ((HI.out.trans H11.out (fun _ _ h => h) (fun _ _ h => h)).trans (Kp.drew _ _) (fun _ _ h => h) (fun _ _ h => h))⟩, by simp [intOf]; omega⟩
        · obtain rfl : k = L.length := by omega
          go_wp2_with fail
          go_ret
          exact ⟨rfl, H5.out.2.1.trans HI.out (fun _ _ h => h) (fun _ _ h => h)⟩
end Go.Proofs.YtejmndfdmikfaaaDoor.Kit
