/- sums.From: the view that balances tell, or none. -/
import Derived.Test.YtejmndfdmikfaaaDoorSumsBack
import Derived.Test.YtejmndfdmikfaaaDoorEqual8
namespace Go.Proofs.YtejmndfdmikfaaaDoor.Kit
open Go Go.RowKit

/-- The row that a balance makes. -/
def Bal.pst (b : Bal) : Pst := ⟨0, 0, 0, 0, [], b.acct, b.own, [], []⟩
def rowsB (bs : List Bal) : List Pst := (bs.filter fun b => b.own != 0).map Bal.pst
def Bal.Ok (b : Bal) : Prop := b.acct.length < 4611686018427387904 ∧ -9223372036854775808 ≤ b.own ∧ b.own ≤ 9223372036854775807
theorem rowsB_ok {bs : List Bal} (h : ∀ b ∈ bs, b.Ok) : ∀ p ∈ rowsB bs, p.Ok := by
  intro p hp
  obtain ⟨b, hb, rfl⟩ := List.mem_map.1 hp
  exact h b (List.mem_filter.1 hb).1
theorem rowsB_snoc {bs : List Bal} {k : Nat} (hk : k < bs.length) : rowsB (bs.take (k + 1)) = rowsB (bs.take k) ++ if bs[k].own = 0 then [] else [bs[k].pst] := by
  rw [take_snoc hk, rowsB, List.filter_append, List.map_append]
  congr 1
  by_cases h : bs[k].own = 0 <;> simp [h]
theorem rowsB_le (bs : List Bal) : (rowsB bs).length ≤ bs.length := by
  unfold rowsB
  rw [List.length_map]
  exact List.length_filter_le _ _
abbrev stO (bs : List Bal) : List UInt8 → Int := plusO (fun _ => 0) (rowsAt ((rowsB bs).map Pst.row))
abbrev stK (bs : List Bal) : List (List UInt8) := names2 [] (rowNames ((rowsB bs).map Pst.row))
/-- Balances that are a view's state. -/
def isSt (bs : List Bal) : Prop := okE [] (fun _ => 0) ((rowsB bs).map Pst.row) ∧ ∃ N, Told N (stO bs) ∧ N.map (balOf (stK bs) (stO bs)) = bs
def FromPost (w : World) (bs : List Bal) (e : Ending) (w' : World) : Prop :=
  (¬ isSt bs ∧ e = .returned (.tuple #[.pointer none, .int .i64 80]) ∧ New w w') ∨
  (isSt bs ∧ ∃ v F, e = .returned (.tuple #[.pointer (some ⟨v, 0, none⟩), .int .i64 0]) ∧ ViewAt w' v (stK bs) (stO bs) F ∧ New w w' ∧ ∀ k ∈ F, w.heap.size ≤ k)
def FromI (W1 : World) (bs : List Bal) (k : Nat) (A1 : Option Addr) (c1 m : Nat) (wr : World) : Prop :=
  Own wr 35 9 A1 c1 m ((rowsB (bs.take k)).flatMap Pst.cells) ∧ m = (rowsB (bs.take k)).length ∧ New W1 wr ∧ ∀ j, Bk A1 j → W1.heap.size ≤ j
set_option maxRecDepth 100000 in
set_option maxHeartbeats 4000000 in
theorem From_calls (w : World) (A : Option Addr) (n c : Nat) (bs : List Bal) (hB : RdBal w A bs) (hn : n = bs.length) (okB : ∀ b ∈ bs, b.Ok) (lB : bs.length ≤ 2147483648) :
    Calls Tryd.prog 21 #[.slice A n c] w (FromPost w bs) := by
  subst hn
  have HB := Lib.hid (And.intro hB okB)
  clear hB okB
  go_enter Tryd.func21, Tryd.ntmps21
  go_wp2_with fail
  refine (New_calls w).mono ?_
  rintro e W1 ⟨v, F, rfl, hV, hn, hF⟩
  have H1 := Lib.hid (And.intro hV (And.intro hn hF))
  clear hV hn hF
  go_wp2_with fail
  go_loopw [5, 11] (fun s i wr => ∃ (k m : Nat) (A1 : Option Addr) (c1 : Nat), s = .slice A1 m c1 ∧ i = .int .i64 (k : Int) ∧ k ≤ bs.length ∧ m ≤ k ∧ Hid (FromI W1 bs k A1 c1 m wr)) (fun _ i _ => bs.length - (intOf i).toNat)
  case atStart => exact ⟨0, 0, none, 0, rfl, rfl, Nat.zero_le _, Nat.le_refl _, Lib.hid ⟨Own.nil _ _ _, rfl, Kp.refl _ _, fun j h => absurd h Bk.none_⟩⟩
  case round =>
    obtain ⟨k, m, A1, c1, rfl, rfl, hk, hm, HI⟩ := hrel
    have hk0 : (0 : Int) ≤ k := by omega
    by_cases hlt : k < bs.length
    · have hki : (k : Int) < (bs.length : Int) := by omega
      obtain ⟨b, hb⟩ : ∃ b, bs[k] = b := ⟨_, rfl⟩
      have nwr : New w wr := H1.out.2.1.trans HI.out.2.2.1 (fun _ _ h => h) (fun _ _ h => h)
      obtain ⟨g, off, rfl, hat⟩ := RdBal.at_ (HB.out.1.new nwr) (List.getElem?_eq_getElem hlt)
      rw [hb] at hat
      obtain ⟨d0, d1, d2⟩ := hat
      have hA1n : ¬ Bk A1 wr.heap.size := fun h => by have := HI.out.1.lt _ h; omega
      have hsn := rowsB_snoc hlt
      rw [hb] at hsn
      by_cases h0 : b.own = 0
      · have q0 : (b.own == (0 : Int)) = true := by simp [h0]
        rw [if_pos h0, List.append_nil] at hsn
        have HK := Lib.hid (And.intro hb (And.intro hA1n hsn))
        clear hb nwr hA1n hsn
        go_wp2_with fail
        refine ⟨⟨k + 1, m, A1, c1, rfl, by go_num, by omega, by omega, Lib.hid ⟨?_, ?_, HI.out.2.2.1.trans (Kp.alloc _ _ _) (fun _ _ h => h) (fun _ _ h => h), HI.out.2.2.2⟩⟩, by simp [intOf]; omega⟩
        · rw [HK.out.2.2]; exact HI.out.1.new (Kp.alloc _ _ _)
        · rw [HK.out.2.2]; exact HI.out.2.1
      · have q0 : (b.own == (0 : Int)) = false := by simp [h0]
        rw [if_neg h0] at hsn
        have HK := Lib.hid (And.intro hb (And.intro hA1n (And.intro hsn h0)))
        clear hb nwr hA1n hsn h0
        go_wp2_with (at_builtin; refine wpList_append_src _ rfl (.tmp 18) (.tmp 24) 22 22 rfl 35 _ 9 104 Tryd.underlying22 Tryd.info_post rfl A1 c1 m ((rowsB (bs.take k)).flatMap Pst.cells) rfl ((HI.out.1.new (Kp.alloc _ _ _)).new (Kp.alloc _ _ _)) (.slice (some ⟨wr.heap.size + 1, 0, none⟩) 1 1) rfl 1 _ (Src.ofRow Tryd.underlying22 (heap_alloc2_new wr _ _) 9 1 1 rfl (by simp [Value.oneCell'])) (by omega) (by omega) ?_; intro A3 c3 w3 h31 h32 h33; have H3 := Lib.hid (And.intro h31 (And.intro h32 h33)); clear h31 h32 h33)
        refine ⟨⟨k + 1, m + 1, A3, c3, rfl, by go_num, by omega, by omega, Lib.hid ⟨?_, ?_, ?_, fun j hj => ?_⟩⟩, by simp [intOf]; omega⟩
        · have e : (rowsB (bs.take (k + 1))).flatMap Pst.cells = (rowsB (bs.take k)).flatMap Pst.cells ++ [.int .i64 0, .int .i64 0, .int .i64 0, .int .i64 0, .string ⟨#[]⟩, .string (bstr b.acct), .int .i64 b.own, .string ⟨#[]⟩, .string ⟨#[]⟩] := by
            rw [HK.out.2.2.1, List.flatMap_append]
            rfl
          rw [e]
          exact H3.out.1
        · rw [HK.out.2.2.1, List.length_append, ← HI.out.2.1]
          rfl
        · have k3 : Kp (Bk A1) wr w3 := ((Kp.alloc _ _ _).trans (Kp.alloc _ _ _) (U := fun _ => False) (fun _ _ h => h) (fun _ _ h => h)).trans H3.out.2.1 (fun _ _ h => h.elim) (fun _ _ h => h)
          exact HI.out.2.2.1.trans k3 (fun _ _ h => h) (fun j hj hb => by have := HI.out.2.2.2 j hb; omega)
        · rcases H3.out.2.2 j hj with h | h
          · exact HI.out.2.2.2 j h
          · have := HI.out.2.2.1.size
            simp at h
            omega
    · obtain rfl : k = bs.length := by omega
      rename World => W2
      have hI := HI.out
      rw [FromI, List.take_length] at hI
      obtain ⟨hO2, rfl, hn2, hb2⟩ := hI
      have hl2 := rowsB_le bs
      have H2 := Lib.hid (And.intro hO2 (And.intro (H1.out.1.new hn2) (And.intro (H1.out.2.1.trans hn2 (fun _ _ h => h) (fun _ _ h => h)) (rowsB_ok HB.out.2))))
      clear hO2 hn2 hb2 HI
      go_wp2_with fail
      refine (Apply_calls W2 v [] (fun _ => 0) F A1 c1 (rowsB bs) H2.out.2.1 H2.out.1.rdc H2.out.2.2.2 (by simp; omega)).mono ?_
      rintro e W3 (⟨hE, rfl, hv3, hk3⟩ | ⟨hE, z, hz, rfl, hn3⟩)
      case inr =>
        have hz2 : (z != (0 : Int)) = true := by simpa using hz
        have HN := Lib.hid (And.intro hE hn3)
        clear hE hz hn3
        go_wp2_with fail
        go_ret2
        exact .inl ⟨fun h => HN.out.1 h.1, rfl, H2.out.2.2.1.trans HN.out.2 (fun _ _ h => h) (fun _ _ h => h)⟩
      have hMl : (stK bs).length ≤ 2147483648 := by
        have h1 := names2_length [] (rowNames ((rowsB bs).map Pst.row))
        have h2 := rowNames_length ((rowsB bs).map Pst.row)
        simp at h1 h2
        show (names2 [] (rowNames ((rowsB bs).map Pst.row))).length ≤ _
        omega
      have nw3 : New w W3 := H2.out.2.2.1.trans hk3 (fun _ _ h => h) (fun k hk h => by have := H1.out.2.2 k h; omega)
      have H3 := Lib.hid (And.intro hE (And.intro hv3 nw3))
      clear hE hv3 nw3 hk3
      go_wp2_with fail
      refine (State_calls W3 v (stK bs) (stO bs) F H3.out.2.1 (by omega)).mono ?_
      rintro e W4 ⟨A4, c4, N, rfl, hT, hO, hn4, hb4⟩
      have hNl : N.length ≤ 103 * (stK bs).length := told_length (rise_nodup hT.1) (fun n h => (hT.2 n).1 h) H3.out.2.1.cov H3.out.2.1.good
      have hsame := equal_calls W4 A4 A N.length bs.length c4 c (N.map (balOf (stK bs) (stO bs))) bs hO.rdc (HB.out.1.new (H3.out.2.2.trans hn4 (fun _ _ h => h) (fun _ _ h => h))) (by simp) rfl (by omega)
      have H4 := Lib.hid (And.intro hT (And.intro (H3.out.2.1.new hn4) (H3.out.2.2.trans hn4 (fun _ _ h => h) (fun _ _ h => h))))
      clear hT hO hn4 hb4 hNl
      go_wp2_with fail
      refine hsame.mono ?_
      clear hsame
      rintro e W5 ⟨r, rfl, hr, hn5⟩
      have H5 := Lib.hid (And.intro hr hn5)
      clear hr hn5
      cases r with
      | true =>
        go_wp2_with fail
        go_ret2
        exact .inr ⟨⟨H3.out.1, N, H4.out.1, H5.out.1.mp (by simp)⟩, v, F, rfl, H4.out.2.1.new H5.out.2, H4.out.2.2.trans H5.out.2 (fun _ _ h => h) (fun _ _ h => h), H1.out.2.2⟩
      | false =>
        go_wp2_with fail
        go_ret2
        refine .inl ⟨fun h => ?_, rfl, H4.out.2.2.trans H5.out.2 (fun _ _ h => h) (fun _ _ h => h)⟩
        obtain ⟨_, N', hN', e⟩ := h
        rw [H4.out.1.same hN'] at H5
        exact absurd (H5.out.1.2 e) (by decide)
end Go.Proofs.YtejmndfdmikfaaaDoor.Kit
