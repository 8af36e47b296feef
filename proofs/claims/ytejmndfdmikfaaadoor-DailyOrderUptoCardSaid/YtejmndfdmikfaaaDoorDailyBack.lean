/- DailyBack: rows, and behind them their opposites. -/
import Derived.Test.YtejmndfdmikfaaaDoorFirst9
import Derived.Test.YtejmndfdmikfaaaDoorSame9
namespace Go.Proofs.YtejmndfdmikfaaaDoor.Kit
open Go Go.RowKit

section
variable {P : Program} (w : World)
/-- append at an operation that is guarded, and wanted. -/
theorem wpList_append_srcW {ops : Array Oper} {rest : List Oper} {o : Oper} {a : Act} {Q : Exit → Act → World → Prop} (hw : Region.wanted o (yielded ops a.tmps) = true) (s xo : Operand) (t tx : TypeId)
    (ho : o.op = .call { callee := .builtin .append, args := #[s, xo], argTypes := #[t, tx] })
    (e : TypeId) (z : Value) (size bytes : Nat) (ht : P.underlying t = some (.slice e)) (hi : (P.info? e).map (fun i => (i.zero, i.size, i.bytes)) = some (some z, size, bytes)) (hzs : z.cells.size = size)
    (A : Option Addr) (c n : Nat) (xs : List Value) (hs : a.eval s = .slice A n c) (hown : Own w e size A c n xs)
    (x : Value) (hx : a.eval xo = x) (m : Nat) (news : List Value) (hsrc : Src P size tx x m news w)
    (hbytes : (n + m) * bytes ≤ 140737488355328) (h63 : n + m ≤ 4611686018427387904)
    (h : ∀ A' c' w', Own w' e size A' c' (n + m) (xs ++ news) → Kp (Bk A) w w' → (∀ k, Bk A' k → Bk A k ∨ k = w.heap.size) → wpList P ops Q rest (a.put o.dst (.slice A' (n + m) c')) w') : wpList P ops Q (o :: rest) a w :=
  BigFrame.wpList_want hw fun _ hK => wp_append_src w s xo t tx ho e z size bytes ht hi hzs A c n xs hs hown x hx m news hsrc hbytes h63 fun A' c' w' h1 h2 h3 => hK _ _ (h A' c' w' h1 h2 h3)
end
theorem ViewD.small {w : World} {v M : Nat} {O : DO} {F : Nat → Prop} (h : ViewD w v O F M) : ∃ F0, ViewD w v O F0 M ∧ (∀ k, F0 k → F k) ∧ ∀ k, F0 k → k < w.heap.size := by
  obtain ⟨m, ms, h⟩ := h
  refine ⟨_, ⟨m, ms, h.small⟩, h.foot, fun k hk => ?_⟩
  obtain ⟨h1, h2, h3⟩ := h.lt
  rcases hk with rfl | rfl | hk
  · exact h1
  · exact h2
  · exact h3 k hk
theorem ViewD.cov {w : World} {v M : Nat} {O : DO} {F : Nat → Prop} (h : ViewD w v O F M) : ∃ N, CovD N O := by
  obtain ⟨m, ms, h⟩ := h
  exact ⟨_, h.cov⟩
theorem ViewD.fit {w : World} {v M : Nat} {O : DO} {F : Nat → Prop} (h : ViewD w v O F M) : ∀ n, FitD (O n) := by
  obtain ⟨m, ms, h⟩ := h
  exact h.fit
/-- The opposite of a row. -/
def Pst.opp (p : Pst) : Pst := { p with amt := IntKind.i64.wrap (-p.amt) }
theorem opp_ok {p : Pst} (h : p.Ok9) : p.opp.Ok9 := ⟨h.1, by unfold Pst.opp; simp only; rw [IntKind.wrap_i64]; omega, by unfold Pst.opp; simp only; rw [IntKind.wrap_i64]; omega⟩
theorem opp_rows {ps : List Pst} (h : ∀ p ∈ ps, p.Ok9) (hr : (ps.map Pst.dr).all rowD = true) : (ps.map Pst.opp).map Pst.dr = negR (ps.map Pst.dr) := by
  unfold negR
  rw [List.map_map, List.map_map]
  refine List.map_congr_left fun p hp => ?_
  have h1 := List.all_eq_true.1 hr p.dr (List.mem_map.2 ⟨p, hp, rfl⟩)
  unfold rowD at h1
  simp only [Bool.and_eq_true, bne_iff_ne, ne_eq] at h1
  have h2 : ¬ p.amt = -9223372036854775808 := h1.2
  have h3 := h p hp
  unfold Pst.Ok9 at h3
  have hw : IntKind.i64.wrap (-p.amt) = -p.amt := by rw [IntKind.wrap_i64]; omega
  show (p.acct, p.day, IntKind.i64.wrap (-p.amt)) = (p.acct, p.day, -p.amt)
  rw [hw]
theorem neg_ok {O : DO} {R : List DR} (hfit : ∀ n, FitD (O n)) (hr : R.all rowD = true) (hb : ∀ r ∈ R, r.2.2 ≤ 9223372036854775807) : okD (plusD O R) (negR R) := by
  refine ⟨?_, fun n => (hfit n).congr fun d => (sameD_back O R n d).symm⟩
  unfold negR
  rw [List.all_eq_true]
  intro r hr2
  obtain ⟨q, hq, rfl⟩ := List.mem_map.1 hr2
  have h1 := List.all_eq_true.1 hr q hq
  have h2 := hb q hq
  unfold rowD at *
  simp only [Bool.and_eq_true, bne_iff_ne, ne_eq] at *
  exact ⟨h1.1, by omega⟩
def OppI (W : World) (qs : List Pst) (k : Nat) (A1 : Option Addr) (c1 : Nat) (wr : World) : Prop :=
  Own wr 35 9 A1 c1 k (((qs.take k).map Pst.opp).flatMap Pst.cells) ∧ New W wr ∧ ∀ j, Bk A1 j → W.heap.size ≤ j
set_option maxRecDepth 100000 in
set_option maxHeartbeats 8000000 in
theorem DailyBack_calls (w : World) (A B : Option Addr) (c d : Nat) (ps qs : List Pst) (hP : RdP w A ps) (hQ : RdP w B qs) (okP : ∀ p ∈ ps, p.Ok9) (okQ : ∀ p ∈ qs, p.Ok9) (lP : ps.length ≤ 1048576) (lQ : qs.length ≤ 1048576) :
    Calls Tryd.prog 7 #[.slice A ps.length c, .slice B qs.length d] w fun e w' => e = .returned (.bool true) ∧ New w w' := by
  have HP := Lib.hid (And.intro hP (And.intro hQ (And.intro okP okQ)))
  clear hP hQ okP okQ
  go_enter Tryd.func7, Tryd.ntmps7
  go_wp2_with fail
  refine (first9_calls _).mono ?_
  rintro e W1 ⟨rfl, hn1⟩
  have N1 := Lib.hid hn1
  clear hn1
  go_wp2_with fail
  refine (New9_calls W1).mono ?_
  rintro e W2 ⟨v, F, rfl, hV, hn, hF⟩
  have H2 := Lib.hid (And.intro hV (And.intro (N1.out.trans hn (fun _ _ h => h) (fun _ _ h => h)) (fun k hk => Nat.le_trans N1.out.size (hF k hk))))
  clear hV hn hF
  go_wp2_with (at_builtin; refine wpList_append_srcW _ rfl (.const (.slice none 0 0)) (.tmp 17) 22 22 rfl 35 _ 9 104 Tryd.underlying22 Tryd.info_post9 rfl none 0 0 [] rfl (Own.nil _ _ _) _ rfl ps.length (ps.flatMap Pst.cells) (Src.ofRdC Tryd.underlying22 9 _ _ (HP.out.1.new H2.out.2.1) (flat_length Pst.len ps) (by decide) (Pst.one ps)) (by omega) (by omega) ?_; intro A3 c3 W3 h31 h32 h33; simp only [Nat.zero_add, List.nil_append] at h31; have n23 := Kp.mono (U := fun _ => False) h32 (fun _ _ h => absurd h Bk.none_); have H3 := Lib.hid (And.intro h31 n23); clear h31 h32 h33 n23)
  refine (Apply9_calls W3 v (fun _ => []) F 0 A3 ps.length c3 ps (H2.out.1.new H3.out.2) H3.out.1.rdc rfl HP.out.2.2.1 (by omega)).mono ?_
  have nw3 : New w W3 := H2.out.2.1.trans H3.out.2 (fun _ _ h => h) (fun _ _ h => h)
  have NW3 := Lib.hid nw3
  clear nw3
  rintro e W4 (⟨hE, rfl, hk4, F1, hv4, hF1⟩ | ⟨hE, z, hz, rfl, hn4⟩)
  case inr =>
    have hz' : (z == (0 : Int)) = false := by simpa using hz
    have HN := Lib.hid hn4
    clear hE hz hn4
    go_wp2_with fail
    go_ret
    exact ⟨rfl, NW3.out.trans HN.out (fun _ _ h => h) (fun _ _ h => h)⟩
  obtain ⟨O1, hO1⟩ : ∃ O1, plusD (fun _ => []) (ps.map Pst.dr) = O1 := ⟨_, rfl⟩
  rw [hO1, List.length_map, Nat.zero_add] at hv4
  obtain ⟨F2, hv4, hs1, hs2⟩ := hv4.small
  have nw4 : New w W4 := NW3.out.trans hk4 (fun _ _ h => h) (fun k hk h => by have := H2.out.2.2 k h; omega)
  have hF2 : ∀ k, F2 k → w.heap.size ≤ k := fun k hk => by
    rcases hF1 k (hs1 k hk) with h | h
    · exact H2.out.2.2 k h
    · exact Nat.le_trans NW3.out.size h
  have H4 := Lib.hid (And.intro hv4 (And.intro nw4 (And.intro hF2 hs2)))
  clear hv4 nw4 hk4 hO1 hE hF1 hs1 hs2 hF2
  go_wp2_with fail
  refine (State9_calls W4 v O1 F2 ps.length H4.out.1 (by omega)).mono ?_
  rintro e W5 ⟨A5, c5, N, hcov, rfl, hO, hn5, hb5, hl5⟩
  have H5 := Lib.hid (And.intro hcov (And.intro hO (And.intro (H4.out.2.1.trans hn5 (fun _ _ h => h) (fun _ _ h => h)) (And.intro (H4.out.1.new hn5) (And.intro hb5 hn5.size)))))
  obtain ⟨ln, hln⟩ : ∃ ln, (stateD N O1).length = ln := ⟨_, rfl⟩
  have hlb : ln ≤ 1099511627776 := by omega
  rw [hln]
  have HLn := Lib.hid hln
  clear hcov hO hn5 hb5 hl5 hln
  go_wp2_with fail
  go_loopw [8, 9] (fun s i wr => ∃ (k : Nat) (A1 : Option Addr) (c1 : Nat), s = .slice A1 k c1 ∧ i = .int .i64 (k : Int) ∧ k ≤ qs.length ∧ Hid (OppI W5 qs k A1 c1 wr)) (fun _ i _ => qs.length - (intOf i).toNat)
  case atStart => exact ⟨0, none, 0, rfl, rfl, Nat.zero_le _, Lib.hid ⟨Own.nil _ _ _, Kp.refl _ _, fun j h => absurd h Bk.none_⟩⟩
  case round =>
    obtain ⟨k, A1, c1, rfl, rfl, hk, HI⟩ := hrel
    have hk0 : (0 : Int) ≤ k := by omega
    by_cases hlt : k < qs.length
    · have hki : (k : Int) < (qs.length : Int) := by omega
      obtain ⟨p, hp⟩ : ∃ p, qs[k]? = some p := ⟨_, List.getElem?_eq_getElem hlt⟩
      have nwr : New w wr := H5.out.2.2.1.trans HI.out.2.1 (fun _ _ h => h) (fun _ _ h => h)
      obtain ⟨g, off, rfl, hat⟩ := RdP.at_ (HP.out.2.1.new nwr) hp
      obtain ⟨d0, d1, d2, d3, d4, d5, d6, d7, d8⟩ := hat
      obtain ⟨na, hna⟩ : ∃ na, IntKind.i64.wrap (-p.amt) = na := ⟨_, rfl⟩
      have HK := Lib.hid (And.intro hp hna)
      clear hp nwr
      go_wp2_with (at_builtin; refine wpList_append_src _ rfl (.tmp 39) (.tmp 41) 22 22 rfl 35 _ 9 104 Tryd.underlying22 Tryd.info_post9 rfl A1 c1 k (((qs.take k).map Pst.opp).flatMap Pst.cells) rfl ((HI.out.1.new (Kp.alloc _ _ _)).new (Kp.alloc _ _ _)) (.slice (some ⟨wr.heap.size + 1, 0, none⟩) 1 1) rfl 1 _ (Src.ofRow Tryd.underlying22 (alloc2_new wr _ _) 9 1 1 rfl (by simp [Value.oneCell'])) (by omega) (by omega) ?_; intro A3 c3 w3 h31 h32 h33; have H3 := Lib.hid (And.intro h31 (And.intro h32 h33)); clear h31 h32 h33)
      have k3 : Kp (Bk A1) wr w3 := ((Kp.alloc _ _ _).trans (Kp.alloc _ _ _) (U := fun _ => False) (fun _ _ h => h) (fun _ _ h => h)).trans H3.out.2.1 (fun _ _ h => h.elim) (fun _ _ h => h)
      refine ⟨⟨k + 1, A3, c3, rfl, by go_num, by omega, Lib.hid ⟨?_, HI.out.2.1.trans k3 (fun _ _ h => h) (fun j hj hb => by have := HI.out.2.2 j hb; omega), fun j hj => ?_⟩⟩, by simp [intOf]; omega⟩
      · have e : ((qs.take (k + 1)).map Pst.opp).flatMap Pst.cells = ((qs.take k).map Pst.opp).flatMap Pst.cells ++ [.int .i64 p.s, .int .i64 p.ln, .int .i64 p.day, .int .i64 p.kind, .string (bstr p.key), .string (bstr p.acct), .int .i64 na, .string (bstr p.tag), .string (bstr p.memo)] := by
          rw [take_get HK.out.1, List.map_append, List.flatMap_append, ← HK.out.2]
          rfl
        rw [e]
        exact H3.out.1
      · rcases H3.out.2.2 j hj with h | h
        · exact HI.out.2.2 j h
        · have := HI.out.2.1.size
          simp at h
          omega
    · obtain rfl : k = qs.length := by omega
      rename World => W7
      have n7 : New w W7 := H5.out.2.2.1.trans HI.out.2.1 (fun _ _ h => h) (fun _ _ h => h)
      have v7 := H5.out.2.2.2.1.new HI.out.2.1
      have H7 := Lib.hid (And.intro n7 v7)
      clear n7 v7
      go_wp2_with (at_builtin; refine wpList_append_src _ rfl (.const (.slice none 0 0)) (.tmp 44) 22 22 rfl 35 _ 9 104 Tryd.underlying22 Tryd.info_post9 rfl none 0 0 [] rfl (Own.nil _ _ _) _ rfl qs.length (qs.flatMap Pst.cells) (Src.ofRdC Tryd.underlying22 9 _ _ (HP.out.2.1.new H7.out.1) (flat_length Pst.len qs) (by decide) (Pst.one qs)) (by omega) (by omega) ?_; intro A3 c3 W8 h31 h32 h33; simp only [Nat.zero_add, List.nil_append] at h31; have n23 := Kp.mono (U := fun _ => False) h32 (fun _ _ h => absurd h Bk.none_); have H8 := Lib.hid (And.intro h31 n23); clear h31 h32 h33 n23)
      refine (Apply9_calls W8 v O1 F2 ps.length A3 qs.length c3 qs (H7.out.2.new H8.out.2) H8.out.1.rdc rfl HP.out.2.2.2 (by omega)).mono ?_
      have n58 : New W5 W8 := HI.out.2.1.trans H8.out.2 (fun _ _ h => h) (fun _ _ h => h)
      have n8 : New w W8 := H7.out.1.trans H8.out.2 (fun _ _ h => h) (fun _ _ h => h)
      have H8b := Lib.hid (And.intro n58 n8)
      clear n58 n8
      rintro e W9 (⟨hE, rfl, hk9, F3, hv9, hF3⟩ | ⟨hE, z, hz, rfl, hn9⟩)
      case inr =>
        have hz' : (z == (0 : Int)) = false := by simpa using hz
        have n59 : New W5 W9 := H8b.out.1.trans hn9 (fun _ _ h => h) (fun _ _ h => h)
        have H9 := Lib.hid (And.intro n59 (H8b.out.2.trans hn9 (fun _ _ h => h) (fun _ _ h => h)))
        have hS := State9_calls W9 v O1 F2 ps.length (H5.out.2.2.2.1.new n59) (by omega)
        clear hE hz hn9 n59
        go_wp2_with fail
        refine hS.mono ?_
        rintro e W10 ⟨A10, c10, N', hcov', rfl, hO', hn10, hb10⟩
        have hsame := same9_calls W10 A5 A10 ln (stateD N' O1).length c5 c10 (stateD N O1) (stateD N' O1) (H5.out.2.1.rdc.new (H9.out.1.trans hn10 (fun _ _ h => h) (fun _ _ h => h))) hO'.rdc HLn.out.symm rfl (by omega)
        have H10 := Lib.hid (And.intro (state_same H5.out.1 hcov' (SameD.refl O1)) hn10)
        clear hcov' hO' hn10 hb10 hS
        go_wp2_with fail
        refine hsame.mono ?_
        rintro e W11 ⟨r, rfl, hr, hn11⟩
        obtain rfl : r = true := hr.2 H10.out.1
        have N11 := Lib.hid hn11
        clear hr hn11 hsame
        go_wp2_with fail
        go_ret
        exact ⟨rfl, (H9.out.2.trans H10.out.2 (fun _ _ h => h) (fun _ _ h => h)).trans N11.out (fun _ _ h => h) (fun _ _ h => h)⟩
      have hokB : okD (plusD O1 (qs.map Pst.dr)) ((qs.map Pst.opp).map Pst.dr) := by
        rw [opp_rows HP.out.2.2.2 hE.1]
        exact neg_ok H4.out.1.fit hE.1 fun r hr => by
          obtain ⟨q, hq, rfl⟩ := List.mem_map.1 hr
          exact (HP.out.2.2.2 q hq).2.2
      have hsameB : SameD (plusD (plusD O1 (qs.map Pst.dr)) ((qs.map Pst.opp).map Pst.dr)) O1 := by
        rw [opp_rows HP.out.2.2.2 hE.1]
        exact sameD_back _ _
      have hA1F : ∀ j, Bk A1 j → ¬ F2 j := fun j hj hm => by have h1 := HI.out.2.2 j hj; have h2 := H4.out.2.2.2 j hm; have h3 := H5.out.2.2.2.2.2; omega
      have hA5F : ∀ j, Bk A5 j → ¬ F2 j := fun j hj hm => by have h1 := H5.out.2.2.2.2.1 j hj; have h2 := H4.out.2.2.2 j hm; omega
      have hBk : RdP W9 A1 (qs.map Pst.opp) := by
        have h1 := HI.out.1
        rw [List.take_length] at h1
        exact ((h1.new H8.out.2).kp hk9 hA1F).rdc
      have hBe : Own W9 62 4 A5 c5 (stateD N O1).length ((stateD N O1).flatMap Dr.cells) := (H5.out.2.1.new H8b.out.1).kp hk9 hA5F
      have hA5l := hBe.lt
      have n9 : New w W9 := H8b.out.2.trans hk9 (fun _ _ h => h) (fun k hk h => by have := H4.out.2.2.1 k h; omega)
      obtain ⟨F4, hv9, hs1, hs2⟩ := hv9.small
      have hF4 : ∀ k, F4 k → w.heap.size ≤ k ∧ ¬ Bk A5 k := fun k hk => by
        rcases hF3 k (hs1 k hk) with h | h
        · exact ⟨H4.out.2.2.1 k h, fun hb => hA5F k hb h⟩
        · refine ⟨Nat.le_trans H8b.out.2.size h, fun hb => ?_⟩
          have h1 := (H5.out.2.1.new H8b.out.1).lt k hb
          omega
      rw [List.length_map] at hv9
      generalize plusD O1 (qs.map Pst.dr) = O2 at hv9 hokB hsameB
      obtain ⟨O3, hO3⟩ : ∃ O3, plusD O2 ((qs.map Pst.opp).map Pst.dr) = O3 := ⟨_, rfl⟩
      rw [hO3] at hsameB
      have HO3 := Lib.hid hO3
      clear hO3
      have H9 := Lib.hid (And.intro hv9 (And.intro hokB (And.intro hsameB (And.intro hBk (And.intro hBe (And.intro n9 hF4))))))
      clear hv9 hokB hsameB hBk hBe n9 hk9 hE hA1F hA5F hF3 hs1 hs2 hF4 hA5l
      have hAp := Apply9_calls W9 v O2 F4 (ps.length + qs.length) A1 qs.length c1 (qs.map Pst.opp) H9.out.1 H9.out.2.2.2.1 (by rw [List.length_map]) (fun p hp => by
        obtain ⟨q, hq, rfl⟩ := List.mem_map.1 hp
        exact opp_ok (HP.out.2.2.2 q hq)) (by omega)
      go_wp2_with fail
      refine hAp.mono ?_
      rintro e W12 (⟨hE, rfl, hk12, F5, hv12, hF5⟩ | ⟨hno, _⟩)
      case inr => exact absurd H9.out.2.1 hno
      rw [HO3.out] at hv12
      have hBe := H9.out.2.2.2.2.1.kp hk12 fun k hb hf => (H9.out.2.2.2.2.2.2 k hf).2 hb
      have n12 : New w W12 := H9.out.2.2.2.2.2.1.trans hk12 (fun _ _ h => h) (fun k hk h => by have := (H9.out.2.2.2.2.2.2 k h).1; omega)
      have hS := State9_calls W12 v O3 F5 _ hv12 (by simp only [List.length_map]; omega)
      have H12 := Lib.hid (And.intro hBe n12)
      clear hE hk12 hBe n12 hAp hv12 hF5
      go_wp2_with fail
      refine hS.mono ?_
      rintro e W13 ⟨A13, c13, N', hcov', rfl, hO', hn13, hb13⟩
      have hsame := same9_calls W13 A5 A13 ln (stateD N' O3).length c5 c13 (stateD N O1) (stateD N' O3) (H12.out.1.rdc.new hn13) hO'.rdc HLn.out.symm rfl (by omega)
      have H13 := Lib.hid (And.intro (state_same H5.out.1 hcov' H9.out.2.2.1.symm) hn13)
      clear hcov' hO' hn13 hb13 hS
      go_wp2_with fail
      refine hsame.mono ?_
      rintro e W14 ⟨r, rfl, hr, hn14⟩
      obtain rfl : r = true := hr.2 H13.out.1
      have N14 := Lib.hid hn14
      clear hr hn14 hsame
      go_wp2_with fail
      go_ret
      exact ⟨rfl, (H12.out.2.trans H13.out.2 (fun _ _ h => h) (fun _ _ h => h)).trans N14.out (fun _ _ h => h) (fun _ _ h => h)⟩
end Go.Proofs.YtejmndfdmikfaaaDoor.Kit
