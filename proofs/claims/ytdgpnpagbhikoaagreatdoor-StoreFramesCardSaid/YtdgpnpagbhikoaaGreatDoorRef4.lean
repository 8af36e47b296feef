/- The document's own sum, and its frames. -/
import Derived.Test.YtdgpnpagbhikoaaGreatDoorFrame1
import Derived.Test.YtdgpnpagbhikoaaGreatDoorOwn2
namespace Go.Proofs.YtdgpnpagbhikoaaGreatDoor.Kit
open Go Go.RowKit

theorem lsb_iff (s : BitVec 32) : s.getLsbD 0 = decide (s.toNat % 2 = 1) := by
  rw [BitVec.getLsbD, Nat.testBit_zero]
theorem half32 (s : BitVec 32) : ((s.toNat : Int) / (2 : Int)) = ((s >>> (1 : Nat)).toNat : Int) := by
  rw [BitVec.toNat_ushiftRight, Nat.shiftRight_eq_div_pow]
  omega
theorem crcBit_one (s : BitVec 32) (h : s.toNat % 2 = 1) : bits BinOp.xor IntKind.u32 ((s.toNat : Int) / 2) 3988292384 = ((crcBit s).toNat : Int) := by
  have h4 := bits_xor32 (s >>> 1) 3988292384#32
  have e4 : (((3988292384#32 : BitVec 32).toNat : Nat) : Int) = 3988292384 := rfl
  rw [e4] at h4
  rw [half32, h4]
  unfold crcBit
  rw [lsb_iff, decide_eq_true h]
  rfl
theorem crcBit_zero (s : BitVec 32) (h : ¬ s.toNat % 2 = 1) : ((s.toNat : Int) / (2 : Int)) = ((crcBit s).toNat : Int) := by
  rw [half32]
  unfold crcBit
  rw [lsb_iff, decide_eq_false h]
  simp
theorem flip32 (s : BitVec 32) : bits BinOp.xor IntKind.u32 (s.toNat : Int) 4294967295 = ((~~~ s).toNat : Int) := by
  have h := bits_xor32 s 4294967295#32
  have e : (((4294967295#32 : BitVec 32).toNat : Nat) : Int) = 4294967295 := rfl
  rw [e] at h
  rw [h]
  have : s ^^^ 4294967295#32 = ~~~ s := by
    have h1 : (4294967295#32 : BitVec 32) = BitVec.allOnes 32 := by decide
    rw [h1, BitVec.xor_allOnes]
  rw [this]

set_option maxHeartbeats 1000000 in
theorem Sum_calls (w : World) (A : Option Addr) (n cap : Nat) (l : List UInt8) (hx : RdB w A l) (hn : n = l.length) (hl : n ≤ 4611686018427387904) :
    Calls Tryz.prog 33 #[.slice A n cap] w fun e w' => e = .returned (.int .u32 ((crc l).toNat : Int)) ∧ w = w' := by
  subst hn
  have H := Lib.hid hx
  clear hx
  go_enter Tryz.func33, Tryz.ntmps33
  go_wp2
  go_loop [3, 4] (fun s i => ∃ (k : Nat), k ≤ l.length ∧ i = .int .i64 k ∧ s = .int .u32 ((crcRaw (l.take k)).toNat : Int)) (fun _ i => l.length - (intOf i).toNat)
  case atStart => exact ⟨0, Nat.zero_le _, rfl, rfl⟩
  case round =>
    obtain ⟨k, hk, rfl, rfl⟩ := hrel
    by_cases hlt : k < l.length
    · obtain ⟨b, off, rfl, hc⟩ := H.out.at_ hlt
      have hcell := hc k hlt
      have HC := Lib.hid (crcRaw_take l k hlt)
      clear hc H
      go_wp2
      go_loop [3, 5] (fun s i => ∃ (m : Nat), m ≤ 8 ∧ i = .int .i64 m ∧ s = .int .u32 ((crcBits m (crcRaw (l.take k) ^^^ BitVec.ofNat 32 (l[k]).toNat)).toNat : Int)) (fun _ i => 8 - (intOf i).toNat)
      case atStart => exact ⟨0, by omega, rfl, by rw [crcStart_walk]; rfl⟩
      case round =>
        obtain ⟨m, hm, rfl, rfl⟩ := hrel
        by_cases hlt2 : m < 8
        · generalize hS : crcBits m (crcRaw (l.take k) ^^^ BitVec.ofNat 32 (l[k]).toNat) = S
          have hsl := u32_toNat S
          by_cases hbit : S.toNat % 2 = 1
          · have hb : ((S.toNat : Int) % 2 == 1) = true := by rw [beq_iff_eq]; omega
            have HS := Lib.hid (And.intro hS hbit)
            clear hS hbit
            go_wp2
            exact ⟨⟨m + 1, by omega, by go_num, by rw [crcBit_one S HS.out.2, ← HS.out.1]; rfl⟩, by simp [intOf]; omega⟩
          · have hb : ((S.toNat : Int) % 2 == 1) = false := by rw [beq_eq_false_iff_ne]; omega
            have HS := Lib.hid (And.intro hS hbit)
            clear hS hbit
            go_wp2
            exact ⟨⟨m + 1, by omega, by go_num, by rw [crcBit_zero S HS.out.2, ← HS.out.1]; rfl⟩, by simp [intOf]; omega⟩
        · obtain rfl : m = 8 := by omega
          go_wp2
          exact ⟨⟨k + 1, by omega, by go_num, by rw [HC.out]; rfl⟩, by simp [intOf]; omega⟩
    · obtain rfl : k = l.length := by omega
      go_wp2
      go_ret
      exact ⟨by rw [flip32]; rfl, rfl⟩

/-- What low answers. -/
def LowPost (w : World) (n : Nat) (x : BitVec 32) (e : Ending) (w' : World) : Prop := ∃ A c, e = .returned (.slice A n c) ∧ NewBytes w (low n x) w' A n c

set_option maxHeartbeats 1000000 in
theorem low_calls (w : World) (v : Int) (x : BitVec 32) (j : Int) (n : Nat) (hv : v = (x.toNat : Int)) (hj : j = n) (hn : n ≤ 64) :
    Calls Tryz.prog 32 #[.int .u32 v, .int .i64 j] w (LowPost w n x) := by
  subst hv
  subst hj
  go_enter Tryz.func32, Tryz.ntmps32
  go_wp2
  go_loopw [0, 5, 6] (fun v b i wr => ∃ (k : Nat) (A' : Option Addr) (c' : Nat), k ≤ n ∧ i = .int .i64 k ∧ v = .int .u32 ((sh8 x k).toNat : Int) ∧ b = .slice A' k c' ∧
      Hid (Own wr 5 1 A' c' k (bcs (low k x)) ∧ New w wr ∧ (∀ j, Bk A' j → w.heap.size ≤ j))) (fun _ _ i _ => n - (intOf i).toNat)
  case atStart => exact ⟨0, none, 0, Nat.zero_le _, rfl, by rw [sh8_zero], rfl, Lib.hid ⟨Own.nil _ _ _, Kp.refl _ _, fun j hj => absurd hj Bk.none_⟩⟩
  case round =>
    obtain ⟨k, A', c', hk, rfl, rfl, rfl, HI⟩ := hrel
    by_cases hlt : k < n
    · go_wp2_with (at_builtin; refine wpList_append_src _ rfl (.tmp 12) (.tmp 15) 22 22 rfl 5 (.int .u8 0) 1 1 Tryz.underlying22 Tryz.info_u8 rfl A' c' k (bcs (low k x)) rfl (HI.out.1.new (Kp.alloc _ _ _)) _ rfl 1 _ (Src.ofNew _ Tryz.underlying22 #[.int .u8 (((sh8 x k).toNat : Int) % 256)] 5 1 1 1 rfl (by simp [Value.oneCell'])) (by omega) (by omega) ?_; intro A2 c2 w2 h1 h2 h3)
      refine ⟨⟨k + 1, A2, c2, by omega, by go_num, by rw [sh8_walk], rfl, Lib.hid ⟨?_, ?_, ?_⟩⟩, by simp [intOf]; omega⟩
      · rw [low_snoc, bcs_append, ← byte_walk_list]
        exact h1
      · exact HI.out.2.1.trans ((Kp.alloc _ wr _).trans h2 (fun _ _ => id) (fun _ _ => id)) (fun _ _ => False.elim) (fun j hj hb => by have := HI.out.2.2 j hb; omega)
      · intro j hj
        have hs := HI.out.2.1.size
        rcases h3 j hj with hb | rfl
        · exact HI.out.2.2 j hb
        · simp
          omega
    · obtain rfl : k = n := by omega
      go_wp2
      go_ret
      exact ⟨A', c', rfl, by rw [low_length], HI.out⟩

theorem RefFrame_long (w : World) (A : Option Addr) (c n : Nat) (hl : 2048 < n) :
    Calls Tryz.prog 9 #[.slice A n c] w fun e w' => e = .returned (.tuple #[.slice none 0 0, .int .i64 3]) ∧ w = w' := by
  go_enter Tryz.func9, Tryz.ntmps9
  go_wp2
  go_ret2
  exact ⟨rfl, rfl⟩

set_option maxHeartbeats 1000000 in
theorem RefFrame_calls (w : World) (A : Option Addr) (n c : Nat) (l : List UInt8) (hx : RdB w A l) (hn : n = l.length) (hl : n ≤ 2048) :
    Calls Tryz.prog 9 #[.slice A n c] w (FramePost w l) := by
  subst hn
  have H := Lib.hid hx
  clear hx
  go_enter Tryz.func9, Tryz.ntmps9
  go_wp2_with fail
  refine (low_calls _ _ (BitVec.ofNat 32 l.length) _ 2 ?_ rfl (by omega)).mono ?_
  · rw [BitVec.toNat_ofNat]
    omega
  rintro e w1 ⟨A1, c1, rfl, hp⟩
  have H1 := Lib.hid hp
  clear hp
  go_wp2_with (at_builtin; refine wpList_append_src _ rfl (.tmp 8) (.tmp 12) 22 22 rfl 5 (.int .u8 0) 1 1 Tryz.underlying22 Tryz.info_u8 rfl none 0 0 _ rfl (Own.nil _ _ _) _ rfl 2 (bcs (low 2 (BitVec.ofNat 32 l.length))) (Src.ofOwnB _ Tryz.underlying22 c1 H1.out.2.1.rd2 (by rw [low_length])) (by omega) (by omega) ?_; intro A2 c2 w2 h1 h2 h3; have H2 := Lib.hid (And.intro h1 (And.intro h2 h3)); clear h1 h2 h3)
  have n2 : New w w2 := H1.out.2.2.1.trans H2.out.2.1 (fun _ _ h => h) (fun _ _ h => absurd h Bk.none_)
  have f2 : ∀ k, Bk A2 k → w.heap.size ≤ k := fun k h => (H2.out.2.2 k h).elim (fun h => absurd h Bk.none_) (fun h => by have := H1.out.2.2.1.size; omega)
  have N2 := Lib.hid (And.intro n2 f2)
  clear n2 f2
  refine (low_calls _ _ (BitVec.ofNat 32 (65535 - l.length)) _ 2 ?_ rfl (by omega)).mono ?_
  · rw [BitVec.toNat_ofNat]
    omega
  rintro e w3 ⟨A3, c3, rfl, hp⟩
  have H3 := Lib.hid hp
  clear hp
  go_wp2_with (at_builtin; refine wpList_append_src _ rfl (.tmp 14) (.tmp 19) 22 22 rfl 5 (.int .u8 0) 1 1 Tryz.underlying22 Tryz.info_u8 rfl A2 c2 2 _ rfl (H2.out.1.new H3.out.2.2.1) _ rfl 2 (bcs (low 2 (BitVec.ofNat 32 (65535 - l.length)))) (Src.ofOwnB _ Tryz.underlying22 c3 H3.out.2.1.rd2 (by rw [low_length])) (by omega) (by omega) ?_; intro A4 c4 w4 h1 h2 h3; have H4 := Lib.hid (And.intro h1 (And.intro h2 h3)); clear h1 h2 h3)
  have n4 : New w w4 := (N2.out.1.trans H3.out.2.2.1 (fun _ _ h => h) (fun _ _ h => h)).trans H4.out.2.1 (fun _ _ h => h) (fun k hk h => by have := N2.out.2 k h; omega)
  have f4 : ∀ k, Bk A4 k → w.heap.size ≤ k := fun k h => (H4.out.2.2 k h).elim (N2.out.2 k) (fun h => by have := H3.out.2.2.1.size; have := N2.out.1.size; omega)
  have N4 := Lib.hid (And.intro n4 f4)
  clear n4 f4
  refine (Sum_calls _ A l.length c l (H.out.new N4.out.1) rfl (by omega)).mono ?_
  rintro e w' ⟨rfl, rfl⟩
  go_wp2_with fail
  refine (low_calls _ _ (crc l) _ 4 rfl rfl (by omega)).mono ?_
  rintro e w5 ⟨A5, c5, rfl, hp⟩
  have H5 := Lib.hid hp
  clear hp
  have hz5 := H5.out.2.2.1.size
  have hn5 : Own w5 5 1 A4 c4 4 (bcs (low 2 (BitVec.ofNat 32 l.length) ++ low 2 (BitVec.ofNat 32 (65535 - l.length)))) := by
    rw [bcs_append]
    exact H4.out.1.new H5.out.2.2.1
  have HO5 := Lib.hid hn5
  clear hn5
  go_wp2_with (first
    | (at_builtin; refine wpList_append_src _ rfl (.tmp 21) (.tmp 24) 22 22 rfl 5 (.int .u8 0) 1 1 Tryz.underlying22 Tryz.info_u8 rfl A4 c4 4 _ rfl HO5.out _ rfl 4 (bcs (low 4 (crc l))) (Src.ofOwnB _ Tryz.underlying22 c5 H5.out.2.1.rd2 (by rw [low_length])) (by omega) (by omega) ?_; intro A6 c6 w6 h1 h2 h3; have H6 := Lib.hid (And.intro h1 (And.intro h2 h3)); clear h1 h2 h3; have n6 : New w w6 := (N4.out.1.trans H5.out.2.2.1 (fun _ _ h => h) (fun _ _ h => h)).trans H6.out.2.1 (fun _ _ h => h) (fun k hk h => by have := N4.out.2 k h; omega); have N6 := Lib.hid n6; clear n6)
    | (at_builtin; refine wpList_append_src _ rfl (.tmp 26) (.tmp 27) 22 22 rfl 5 (.int .u8 0) 1 1 Tryz.underlying22 Tryz.info_u8 rfl A6 c6 8 _ rfl H6.out.1 _ rfl l.length (bcs l) (Src.ofRdB _ Tryz.underlying22 c (H.out.new N6.out)) (by omega) (by omega) ?_; intro A7 c7 w7 h1 h2 h3; have H7 := Lib.hid (And.intro h1 (And.intro h2 h3)); clear h1 h2 h3))
  go_ret2
  have f6 : ∀ k, Bk A6 k → w.heap.size ≤ k := fun k h => (H6.out.2.2 k h).elim (N4.out.2 k) (fun h => by have := N4.out.1.size; omega)
  refine ⟨A7, _, c7, rfl, by rw [frame_length], ?_, N6.out.trans H7.out.2.1 (fun _ _ h => h) (fun k hk h => by have := f6 k h; omega), fun k h => (H7.out.2.2 k h).elim (f6 k) (fun h => by have := N6.out.size; omega)⟩
  have e : bcs (frame l) = bcs (low 2 (BitVec.ofNat 32 l.length) ++ low 2 (BitVec.ofNat 32 (65535 - l.length))) ++ bcs (low 4 (crc l)) ++ bcs l := by rw [← bcs_append, ← bcs_append]; rfl
  rw [e]
  exact H7.out.1
end Go.Proofs.YtdgpnpagbhikoaaGreatDoor.Kit
