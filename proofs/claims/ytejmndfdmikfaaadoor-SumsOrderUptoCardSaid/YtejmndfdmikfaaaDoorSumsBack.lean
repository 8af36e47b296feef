/- SumsBack: rows and behind them their opposites leave the state as it was; rows elsewhere do not change a Rollup. -/
import Derived.Test.YtejmndfdmikfaaaDoorFirstS
import Derived.Test.YtejmndfdmikfaaaDoorSame8
import Derived.Test.YtejmndfdmikfaaaDoorRef8
namespace Go.Proofs.YtejmndfdmikfaaaDoor.Kit
open Go Go.RowKit

theorem Tryd.info_post : (Tryd.prog.info? 35).map (fun i => (i.zero, i.size, i.bytes)) = some (some (.agg #[.int .i64 0, .int .i64 0, .int .i64 0, .int .i64 0, .string ⟨#[]⟩, .string ⟨#[]⟩, .int .i64 0, .string ⟨#[]⟩, .string ⟨#[]⟩]), 9, 104) := by kernel_rfl
/-- A row's opposite. -/
def Pst.back (p : Pst) : Pst := { p with amt := wr (-p.amt) }
theorem back_rows {qs : List Pst} (h : ∀ q ∈ qs, q.Ok) (hr : rowsOk (qs.map Pst.row) = true) : (qs.map Pst.back).map Pst.row = (qs.map Pst.row).map fun r => (r.1, -r.2) := by
  rw [List.map_map, List.map_map]
  refine List.map_congr_left fun q hq => ?_
  have h1 := rowsOk_good hr (List.mem_map_of_mem hq)
  have h2 := (h q hq).2
  simp only [Function.comp, Pst.back]
  rw [wr_id (by have := h1.2; simp only at this; omega)]
theorem backOk {p : Pst} (h : p.Ok) : p.back.Ok := ⟨h.1, wr_range _⟩
/-- State told again of the same balances. -/
theorem told_same {K L N N' : List (List UInt8)} {O : List UInt8 → Int} (h : Told N O) (h' : Told N' O) (hK : Covers K O) (hL : Covers L O) : N.map (balOf K O) = N'.map (balOf L O) := by
  rw [h.same h']
  refine List.map_congr_left fun n _ => ?_
  unfold balOf
  rw [rollup_any hK hL]
def BackI (w W1 : World) (qs : List Pst) (nm : List UInt8) (k : Nat) (A1 : Option Addr) (c1 : Nat) (inb : Bool) (wr : World) : Prop :=
  Own wr 35 9 A1 c1 k (((qs.take k).map Pst.back).flatMap Pst.cells) ∧ inb = ((qs.take k).any fun q => under nm q.acct) ∧ New W1 wr ∧ (∀ j, Bk A1 j → W1.heap.size ≤ j) ∧ w.heap.size ≤ W1.heap.size
set_option maxRecDepth 100000 in
set_option maxHeartbeats 4000000 in
theorem SumsBack_calls (w : World) (A B : Option Addr) (c d : Nat) (ps qs : List Pst) (sP sC : Value) (nm : List UInt8) (hP : RdP w A ps) (hQ : RdP w B qs) (okP : ∀ p ∈ ps, p.Ok) (okQ : ∀ p ∈ qs, p.Ok) (lP : ps.length ≤ 1048576) (lQ : qs.length ≤ 1048576) :
    Calls Tryd.prog 3 #[.agg #[.slice A ps.length c, sP, sC], .slice B qs.length d, .string (bstr nm)] w fun e w' => e = .returned (.bool true) ∧ New w w' := by
  have HP := Lib.hid (And.intro hP (And.intro hQ (And.intro okP okQ)))
  clear hP hQ okP okQ
  go_enter Tryd.func3, Tryd.ntmps3
  go_wp2_with fail
  refine (first_calls _).mono ?_
  rintro e W1 ⟨rfl, hn1⟩
  have x0 : W1.cell? ⟨w.heap.size, 0, none⟩ = some (.slice A ps.length c) := New.cell hn1 ((cell_of_block (heap_alloc_new w _)).trans rfl)
  have n1 : New w W1 := (Kp.alloc _ _ _).trans hn1 (fun _ _ h => h) (fun _ _ h => h)
  have N1 := Lib.hid n1
  clear hn1 n1
  go_wp2_with fail
  refine (New_calls W1).mono ?_
  rintro e W2 ⟨v, F, rfl, hV, hn, hF⟩
  have x2 := New.cell hn x0
  have H2 := Lib.hid (And.intro hV (And.intro (N1.out.trans hn (fun _ _ h => h) (fun _ _ h => h)) (fun k hk => Nat.le_trans N1.out.size (hF k hk))))
  clear hV hn hF x0
  go_wp2_with (at_builtin; refine wpList_append_src _ rfl (.const (.slice none 0 0)) (.tmp 22) 22 22 rfl 35 _ 9 104 Tryd.underlying22 Tryd.info_post rfl none 0 0 [] rfl (Own.nil _ _ _) _ rfl ps.length (ps.flatMap Pst.cells) (Src.ofRdC Tryd.underlying22 9 _ _ (HP.out.1.new H2.out.2.1) (flat_length Pst.len ps) (by decide) (Pst.one ps)) (by omega) (by omega) ?_; intro A3 c3 W3 h31 h32 h33; simp only [Nat.zero_add, List.nil_append] at h31; have n23 := Kp.mono (U := fun _ => False) h32 (fun _ _ h => absurd h Bk.none_); have H3 := Lib.hid (And.intro h31 n23); clear h31 h32 h33 n23)
  have hvA := H2.out.1.new H3.out.2
  refine (Apply_calls W3 v [] (fun _ => 0) F A3 c3 ps hvA H3.out.1.rdc HP.out.2.2.1 (by simp; omega)).mono ?_
  clear hvA
  have nw3 : New w W3 := H2.out.2.1.trans H3.out.2 (fun _ _ h => h) (fun _ _ h => h)
  have NW3 := Lib.hid nw3
  clear nw3
  rintro e W4 (⟨hE, rfl, hv4, hk4⟩ | ⟨hE, z, hz, rfl, hn4⟩)
  case inr =>
    have hz' : (z == (0 : Int)) = false := by simpa using hz
    have HN := Lib.hid hn4
    clear hE hz hn4 x2
    go_wp2_with fail
    go_ret
    exact ⟨rfl, NW3.out.trans HN.out (fun _ _ h => h) (fun _ _ h => h)⟩
  obtain ⟨K1, hK1⟩ : ∃ K1, names2 [] (rowNames (ps.map Pst.row)) = K1 := ⟨_, rfl⟩
  obtain ⟨O1, hO1⟩ : ∃ O1, plusO (fun _ => 0) (rowsAt (ps.map Pst.row)) = O1 := ⟨_, rfl⟩
  have hK1l : K1.length ≤ 1048576 := by
    rw [← hK1]
    have h1 := names2_length [] (rowNames (ps.map Pst.row))
    have h2 := rowNames_length (ps.map Pst.row)
    simp at h1 h2
    omega
  rw [hK1, hO1] at hv4
  have nw4 : New w W4 := NW3.out.trans hk4 (fun _ _ h => h) (fun k hk h => by have := H2.out.2.2 k h; omega)
  have H4 := Lib.hid (And.intro hv4 nw4)
  clear hv4 nw4 hk4 hK1 hO1 x2 hE
  go_wp2_with fail
  refine (State_calls W4 v K1 O1 F H4.out.1 (by omega)).mono ?_
  rintro e W5 ⟨A5, c5, N, rfl, hT, hO, hn5, hb5⟩
  have hv5 := H4.out.1.new hn5
  have z45 := hn5.size
  have hNl := told_length (rise_nodup hT.1) (fun n h => (hT.2 n).1 h) hv5.cov hv5.good
  have n5 : New w W5 := H4.out.2.trans hn5 (fun _ _ h => h) (fun _ _ h => h)
  have H5 := Lib.hid (And.intro hT (And.intro hO (And.intro n5 (And.intro hv5 hb5))))
  have HR5 := Rollup_calls W5 v K1 O1 F nm hv5
  clear hT hO hn5 hb5 hv5 n5
  obtain ⟨was, hwas⟩ : ∃ was, rollup K1 O1 nm = was := ⟨_, rfl⟩
  rw [hwas] at HR5
  have HW := Lib.hid hwas
  clear hwas
  go_wp2_with fail
  refine HR5.mono ?_
  rintro e W6 ⟨rfl, rfl⟩
  clear HR5
  go_wp2_with fail
  go_loopw [11, 12, 13] (fun s b i wr => ∃ (k : Nat) (A1 : Option Addr) (c1 : Nat) (inb : Bool), s = .slice A1 k c1 ∧ b = .bool inb ∧ i = .int .i64 (k : Int) ∧ k ≤ qs.length ∧ Hid (BackI w W5 qs nm k A1 c1 inb wr)) (fun _ _ i _ => qs.length - (intOf i).toNat)
  case atStart => exact ⟨0, none, 0, false, rfl, rfl, rfl, Nat.zero_le _, Lib.hid ⟨Own.nil _ _ _, by simp, Kp.refl _ _, fun j h => absurd h Bk.none_, H5.out.2.2.1.size⟩⟩
  case round =>
    obtain ⟨k, A1, c1, inb, rfl, rfl, rfl, hk, HI⟩ := hrel
    have hk0 : (0 : Int) ≤ k := by omega
    by_cases hlt : k < qs.length
    · have hki : (k : Int) < (qs.length : Int) := by omega
      obtain ⟨p, hp⟩ : ∃ p, qs[k]? = some p := ⟨_, List.getElem?_eq_getElem hlt⟩
      have nwr : New w wr := H5.out.2.2.1.trans HI.out.2.2.1 (fun _ _ h => h) (fun _ _ h => h)
      obtain ⟨g, off, rfl, hat⟩ := RdP.at_ (HP.out.2.1.new nwr) hp
      obtain ⟨d0, d1, d2, d3, d4, d5, d6, d7, d8⟩ := hat
      obtain ⟨na, hna⟩ : ∃ na, IntKind.i64.wrap (-p.amt) = na := ⟨_, rfl⟩
      have hA1n : ¬ Bk A1 wr.heap.size := fun h => by have := HI.out.1.lt _ h; omega
      have hpk : qs[k] = p := by rw [List.getElem?_eq_getElem hlt] at hp; exact Option.some.inj hp
      have HK := Lib.hid (And.intro hp (And.intro hna (And.intro hA1n hpk)))
      clear hp nwr hA1n hpk
      go_wp2_with (at_builtin; refine wpList_append_src _ rfl (.tmp 45) (.tmp 47) 22 22 rfl 35 _ 9 104 Tryd.underlying22 Tryd.info_post rfl A1 c1 k (((qs.take k).map Pst.back).flatMap Pst.cells) rfl ((HI.out.1.new (Kp.alloc _ _ _)).new (Kp.alloc _ _ _)) (.slice (some ⟨wr.heap.size + 1, 0, none⟩) 1 1) rfl 1 _ (Src.ofRow Tryd.underlying22 (heap_alloc2_new wr _ _) 9 1 1 rfl (by simp [Value.oneCell'])) (by omega) (by omega) ?_; intro A3 c3 w3 h31 h32 h33; have y5 : w3.cell? ⟨wr.heap.size, 5, none⟩ = some (.string (bstr p.acct)) := Kp.cell_of h32 (New.cell (Kp.alloc _ _ _) ((cell_of_block (heap_alloc_new wr _)).trans rfl)) HK.out.2.2.1; have H3 := Lib.hid (And.intro h31 (And.intro h32 h33)); clear h31 h32 h33)
      refine (Below_calls w3 p.acct nm).mono ?_
      rintro e w4 ⟨rfl, rfl⟩
      obtain ⟨bl, hbl⟩ : ∃ bl, isBelow p.acct nm = bl := ⟨_, rfl⟩
      obtain ⟨qb, hqb⟩ : ∃ qb, ((bstr p.acct).toList == (bstr nm).toList) = qb := ⟨_, rfl⟩
      rw [hbl]
      have hin : (inb || bl || qb) = ((qs.take (k + 1)).any fun q => under nm q.acct) := by
        rw [take_snoc hlt, List.any_append, ← HI.out.2.1, HK.out.2.2.2, Bool.or_assoc]
        congr 1
        rw [List.any_cons, List.any_nil, Bool.or_false, under_below, hbl, ← hqb, bstr_beq, Bool.or_comm]
        congr 1
        by_cases h : p.acct = nm <;> simp [h]
      have fin : ∀ r : Bool, r = (inb || bl || qb) → Hid (BackI w W5 qs nm (k + 1) A3 c3 r w3) := by
        intro r hr
        have k3 : Kp (Bk A1) wr w3 := ((Kp.alloc _ _ _).trans (Kp.alloc _ _ _) (U := fun _ => False) (fun _ _ h => h) (fun _ _ h => h)).trans H3.out.2.1 (fun _ _ h => h.elim) (fun _ _ h => h)
        refine Lib.hid ⟨?_, hr.trans hin, HI.out.2.2.1.trans k3 (fun _ _ h => h) (fun j hj hb => by have := HI.out.2.2.2.1 j hb; omega), fun j hj => ?_, HI.out.2.2.2.2⟩
        · have e : ((qs.take (k + 1)).map Pst.back).flatMap Pst.cells = ((qs.take k).map Pst.back).flatMap Pst.cells ++ [.int .i64 p.s, .int .i64 p.ln, .int .i64 p.day, .int .i64 p.kind, .string (bstr p.key), .string (bstr p.acct), .int .i64 na, .string (bstr p.tag), .string (bstr p.memo)] := by
            rw [take_snoc hlt, List.map_append, List.flatMap_append, HK.out.2.2.2, ← HK.out.2.1]
            rfl
          rw [e]
          exact H3.out.1
        · rcases H3.out.2.2 j hj with h | h
          · exact HI.out.2.2.2.1 j h
          · have := HI.out.2.2.1.size
            simp at h
            omega
      have FIN := Lib.hid fin
      clear fin hin hbl hna
      cases inb with
      | true =>
        have HQ := Lib.hid hqb
        clear hqb
        go_wp2_with fail
        exact ⟨⟨k + 1, A3, c3, true, rfl, rfl, by go_num, by omega, FIN.out true (by simp)⟩, by simp [intOf]; omega⟩
      | false =>
        cases bl with
        | true =>
          have HQ := Lib.hid hqb
          clear hqb
          go_wp2_with fail
          exact ⟨⟨k + 1, A3, c3, true, rfl, rfl, by go_num, by omega, FIN.out true (by simp)⟩, by simp [intOf]; omega⟩
        | false =>
          go_wp2_with fail
          exact ⟨⟨k + 1, A3, c3, qb, rfl, by first | rfl | simp, by go_num, by omega, FIN.out qb (by simp)⟩, by simp [intOf]; omega⟩
    · obtain rfl : k = qs.length := by omega
      rename World => W7
      have hBI := HI.out
      have hFlt := ViewAt.lt H4.out.1
      have hz45 := H5.out.2.1.lt
      have n7 : New w W7 := H5.out.2.2.1.trans hBI.2.2.1 (fun _ _ h => h) (fun _ _ h => h)
      have v7 := H5.out.2.2.2.1.new hBI.2.2.1
      have H7 := Lib.hid (And.intro n7 v7)
      clear n7 v7 hBI
      go_wp2_with (at_builtin; refine wpList_append_src _ rfl (.const (.slice none 0 0)) (.tmp 64) 22 22 rfl 35 _ 9 104 Tryd.underlying22 Tryd.info_post rfl none 0 0 [] rfl (Own.nil _ _ _) _ rfl qs.length (qs.flatMap Pst.cells) (Src.ofRdC Tryd.underlying22 9 _ _ (HP.out.2.1.new H7.out.1) (flat_length Pst.len qs) (by decide) (Pst.one qs)) (by omega) (by omega) ?_; intro A3 c3 W8 h31 h32 h33; simp only [Nat.zero_add, List.nil_append] at h31; have n23 := Kp.mono (U := fun _ => False) h32 (fun _ _ h => absurd h Bk.none_); have H8 := Lib.hid (And.intro h31 n23); clear h31 h32 h33 n23)
      have hv8 := H7.out.2.new H8.out.2
      refine (Apply_calls W8 v K1 O1 F A3 c3 qs hv8 H8.out.1.rdc HP.out.2.2.2 (by omega)).mono ?_
      clear hv8
      have n58 : New W5 W8 := HI.out.2.2.1.trans H8.out.2 (fun _ _ h => h) (fun _ _ h => h)
      have n8 : New w W8 := H7.out.1.trans H8.out.2 (fun _ _ h => h) (fun _ _ h => h)
      have H8b := Lib.hid (And.intro n58 n8)
      clear n58 n8
      rintro e W9 (⟨hE, rfl, hv9, hk9⟩ | ⟨hE, z, hz, rfl, hn9⟩)
      case inr =>
        have hz' : (z == (0 : Int)) = false := by simpa using hz
        have n59 : New W5 W9 := H8b.out.1.trans hn9 (fun _ _ h => h) (fun _ _ h => h)
        have v9 := H5.out.2.2.2.1.new n59
        have H9 := Lib.hid (And.intro n59 (H8b.out.2.trans hn9 (fun _ _ h => h) (fun _ _ h => h)))
        have hS := State_calls W9 v K1 O1 F v9 (by omega)
        clear hE hz hn9 n59 v9
        go_wp2_with fail
        refine hS.mono ?_
        rintro e W10 ⟨A10, c10, N', rfl, hT', hO', hn10, hb10⟩
        have hsame := same_calls W10 A5 A10 N.length N'.length c5 c10 (N.map (balOf K1 O1)) (N'.map (balOf K1 O1)) (H5.out.2.1.rdc.new (H9.out.1.trans hn10 (fun _ _ h => h) (fun _ _ h => h))) hO'.rdc (by simp) (by simp) (by omega)
        have heq := told_same H5.out.1 hT' H4.out.1.cov H4.out.1.cov
        have H10 := Lib.hid (And.intro heq hn10)
        clear hT' hO' hn10 hb10 heq hS
        go_wp2_with fail
        refine hsame.mono ?_
        rintro e W11 ⟨r, rfl, hr, hn11⟩
        obtain rfl : r = true := hr.2 H10.out.1
        have N11 := Lib.hid hn11
        clear hr hn11 hsame
        go_wp2_with fail
        go_ret
        exact ⟨rfl, (H9.out.2.trans H10.out.2 (fun _ _ h => h) (fun _ _ h => h)).trans N11.out (fun _ _ h => h) (fun _ _ h => h)⟩
      obtain ⟨K2, hK2⟩ : ∃ K2, names2 K1 (rowNames (qs.map Pst.row)) = K2 := ⟨_, rfl⟩
      have hK2l : K2.length ≤ 2097152 := by
        rw [← hK2]
        have h1 := names2_length K1 (rowNames (qs.map Pst.row))
        have h2 := rowNames_length (qs.map Pst.row)
        simp at h2
        omega
      have hcov1 := H4.out.1.cov
      have hcov2 := hcov1.plus (qs.map Pst.row)
      rw [hK2] at hv9 hcov2
      have hz9 := hk9.size
      have hz8 := H8b.out.1.size
      have hback : okE K2 (plusO O1 (rowsAt (qs.map Pst.row))) ((qs.map Pst.back).map Pst.row) := by
        rw [back_rows HP.out.2.2.2 hE.1]
        exact back_ok hcov1 H4.out.1.fit hE.1 (fun r hr => by
          obtain ⟨q, hq, rfl⟩ := List.mem_map.1 hr
          exact (HP.out.2.2.2 q hq).2.2) hcov2
      have hO3 : plusO (plusO O1 (rowsAt (qs.map Pst.row))) (rowsAt ((qs.map Pst.back).map Pst.row)) = O1 := by
        rw [back_rows HP.out.2.2.2 hE.1]
        exact plusO_back O1 _
      have hA1F : ∀ j, Bk A1 j → j ∉ F := fun j hj hm => by have := HI.out.2.2.2.1 j hj; have := hFlt j hm; omega
      have hA5F : ∀ j, Bk A5 j → j ∉ F := fun j hj hm => by have := H5.out.2.2.2.2 j hj; have := hFlt j hm; omega
      have hBk : RdP W9 A1 (qs.map Pst.back) := by
        have h1 := HI.out.1
        rw [List.take_length] at h1
        exact ((h1.new H8.out.2).kp hk9 hA1F).rdc
      have hBe : RdBal W9 A5 (N.map (balOf K1 O1)) := ((H5.out.2.1.new H8b.out.1).kp hk9 hA5F).rdc
      have n9 : New w W9 := H8b.out.2.trans hk9 (fun _ _ h => h) (fun k hk h => by have := H2.out.2.2 k h; omega)
      have hEl : inb = false → rollup K2 (plusO O1 (rowsAt (qs.map Pst.row))) nm = was := by
        intro hi
        rw [rollup_elsewhere hcov1 hcov2 fun r hr => ?_]
        · exact HW.out
        · obtain ⟨q, hq, rfl⟩ := List.mem_map.1 hr
          have h2 := HI.out.2.1
          rw [hi, List.take_length] at h2
          exact (List.any_eq_false.1 h2.symm q hq) |> Bool.eq_false_iff.2
      generalize plusO O1 (rowsAt (qs.map Pst.row)) = O2 at hv9 hback hO3 hEl
      have H9 := Lib.hid (And.intro hv9 (And.intro hback (And.intro hO3 (And.intro hBk (And.intro hBe n9)))))
      clear hv9 hback hO3 hBk hBe n9 hk9 hE hcov1 hcov2 hK2 hA1F hA5F hz9 hz8
      have hAp := Apply_calls W9 v K2 O2 F A1 c1 (qs.map Pst.back) H9.out.1 H9.out.2.2.2.1 (fun p hp => by
        obtain ⟨q, hq, rfl⟩ := List.mem_map.1 hp
        exact backOk (HP.out.2.2.2 q hq)) (by rw [List.length_map]; omega)
      rw [List.length_map] at hAp
      cases inb with
      | true =>
        clear hEl
        go_wp2_with fail
        refine hAp.mono ?_
        rintro e W12 (⟨hE, rfl, hv12, hk12⟩ | ⟨hno, _⟩)
        case inr => exact absurd H9.out.2.1 hno
        rw [H9.out.2.2.1] at hv12
        have hA5F : ∀ j, Bk A5 j → j ∉ F := fun j hj hm => by have := H5.out.2.2.2.2 j hj; have := hFlt j hm; omega
        have hBe : RdBal W12 A5 (N.map (balOf K1 O1)) := H9.out.2.2.2.2.1.kp hk12 hA5F
        have n12 : New w W12 := H9.out.2.2.2.2.2.trans hk12 (fun _ _ h => h) (fun k hk h => by have := H2.out.2.2 k h; omega)
        have hKl : (names2 K2 (rowNames ((qs.map Pst.back).map Pst.row))).length ≤ 4194304 := by
          have h1 := names2_length K2 (rowNames ((qs.map Pst.back).map Pst.row))
          have h2 := rowNames_length ((qs.map Pst.back).map Pst.row)
          simp only [List.length_map] at h2
          omega
        have H12 := Lib.hid (And.intro hv12 (And.intro hBe n12))
        have hS := State_calls W12 v _ O1 F hv12 (by omega)
        clear hE hv12 hk12 hA5F hBe n12 hAp
        go_wp2_with fail
        refine hS.mono ?_
        rintro e W13 ⟨A13, c13, N', rfl, hT', hO', hn13, hb13⟩
        have hsame := same_calls W13 A5 A13 N.length N'.length c5 c13 (N.map (balOf K1 O1)) (N'.map (balOf _ O1)) (H12.out.2.1.new hn13) hO'.rdc (by simp) (by simp) (by omega)
        have heq := told_same H5.out.1 hT' H4.out.1.cov H12.out.1.cov
        have H13 := Lib.hid (And.intro heq hn13)
        clear hT' hO' hn13 hb13 heq hS
        go_wp2_with fail
        refine hsame.mono ?_
        rintro e W14 ⟨r, rfl, hr, hn14⟩
        obtain rfl : r = true := hr.2 H13.out.1
        have N14 := Lib.hid hn14
        clear hr hn14 hsame
        go_wp2_with fail
        go_ret
        exact ⟨rfl, (H12.out.2.2.trans H13.out.2 (fun _ _ h => h) (fun _ _ h => h)).trans N14.out (fun _ _ h => h) (fun _ _ h => h)⟩
      | false =>
        have hR := Rollup_calls W9 v K2 O2 F nm H9.out.1
        rw [hEl rfl] at hR
        clear hEl
        go_wp2_with fail
        refine hR.mono ?_
        rintro e W10 ⟨rfl, rfl⟩
        clear hR
        go_wp2_with fail
        refine hAp.mono ?_
        rintro e W12 (⟨hE, rfl, hv12, hk12⟩ | ⟨hno, _⟩)
        case inr => exact absurd H9.out.2.1 hno
        rw [H9.out.2.2.1] at hv12
        have hA5F : ∀ j, Bk A5 j → j ∉ F := fun j hj hm => by have := H5.out.2.2.2.2 j hj; have := hFlt j hm; omega
        have hBe : RdBal W12 A5 (N.map (balOf K1 O1)) := H9.out.2.2.2.2.1.kp hk12 hA5F
        have n12 : New w W12 := H9.out.2.2.2.2.2.trans hk12 (fun _ _ h => h) (fun k hk h => by have := H2.out.2.2 k h; omega)
        have hKl : (names2 K2 (rowNames ((qs.map Pst.back).map Pst.row))).length ≤ 4194304 := by
          have h1 := names2_length K2 (rowNames ((qs.map Pst.back).map Pst.row))
          have h2 := rowNames_length ((qs.map Pst.back).map Pst.row)
          simp only [List.length_map] at h2
          omega
        have H12 := Lib.hid (And.intro hv12 (And.intro hBe n12))
        have hS := State_calls W12 v _ O1 F hv12 (by omega)
        clear hE hv12 hk12 hA5F hBe n12 hAp
        go_wp2_with fail
        refine hS.mono ?_
        rintro e W13 ⟨A13, c13, N', rfl, hT', hO', hn13, hb13⟩
        have hsame := same_calls W13 A5 A13 N.length N'.length c5 c13 (N.map (balOf K1 O1)) (N'.map (balOf _ O1)) (H12.out.2.1.new hn13) hO'.rdc (by simp) (by simp) (by omega)
        have heq := told_same H5.out.1 hT' H4.out.1.cov H12.out.1.cov
        have H13 := Lib.hid (And.intro heq hn13)
        clear hT' hO' hn13 hb13 heq hS
        go_wp2_with fail
        refine hsame.mono ?_
        rintro e W14 ⟨r, rfl, hr, hn14⟩
        obtain rfl : r = true := hr.2 H13.out.1
        have N14 := Lib.hid hn14
        clear hr hn14 hsame
        go_wp2_with fail
        go_ret
        exact ⟨rfl, (H12.out.2.2.trans H13.out.2 (fun _ _ h => h) (fun _ _ h => h)).trans N14.out (fun _ _ h => h) (fun _ _ h => h)⟩
end Go.Proofs.YtejmndfdmikfaaaDoor.Kit
