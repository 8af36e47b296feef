/- The walks of the sum of bytes and of the bytes of a number. -/
import Derived.Test.YtdgpnpagbhikoaaGreatDoorProg
import Derived.Test.YtdgpnpagbhikoaaGreatDoorCrc
import Derived.Test.YtdgpnpagbhikoaaGreatDoorOwn
namespace Go.Proofs.YtdgpnpagbhikoaaGreatDoor.Kit
open Go Go.RowKit

set_option maxHeartbeats 1000000 in
theorem check_calls (w : World) (A : Option Addr) (cap : Nat) (l : List UInt8) (hx : RdB w A l) (hl : l.length ≤ 4611686018427387904) :
    Calls Tryz.prog 31 #[.slice A l.length cap] w fun e w' => e = .returned (.int .u32 ((crc l).toNat : Int)) ∧ w = w' := by
  have H := Lib.hid hx
  clear hx
  go_enter Tryz.func31, Tryz.ntmps31
  go_wp2
  go_loop [3, 8] (fun s i => ∃ (k : Nat), k ≤ l.length ∧ i = .int .i64 k ∧ s = .int .u32 ((crcRaw (l.take k)).toNat : Int)) (fun _ i => l.length - (intOf i).toNat)
  case atStart => exact ⟨0, Nat.zero_le _, rfl, rfl⟩
  case round =>
    obtain ⟨k, hk, rfl, rfl⟩ := hrel
    by_cases hlt : k < l.length
    · obtain ⟨b, off, rfl, hc⟩ := H.out.at_ hlt
      have hcell := hc k hlt
      have HC := Lib.hid (crcRaw_take l k hlt)
      clear hc H
      go_wp2
      go_loop [3, 16] (fun s i => ∃ (m : Nat), m ≤ 8 ∧ i = .int .i64 m ∧ s = .int .u32 ((crcBits m (crcRaw (l.take k) ^^^ BitVec.ofNat 32 (l[k]).toNat)).toNat : Int)) (fun _ i => 8 - (intOf i).toNat)
      case atStart => exact ⟨0, by omega, rfl, by rw [crcStart_walk]; rfl⟩
      case round =>
        obtain ⟨m, hm, rfl, rfl⟩ := hrel
        by_cases hlt2 : m < 8
        · go_wp2
          exact ⟨⟨m + 1, by omega, by go_num, by rw [crcBit_walk]; rfl⟩, by simp [intOf]; omega⟩
        · obtain rfl : m = 8 := by omega
          go_wp2
          exact ⟨⟨k + 1, by omega, by go_num, by rw [HC.out]; rfl⟩, by simp [intOf]; omega⟩
    · obtain rfl : k = l.length := by omega
      have HT := Lib.hid (show l.take l.length = l from List.take_length)
      go_wp2
      go_ret
      exact ⟨by simp only [crcEnd_walk]; rfl, rfl⟩
/-- check, however its argument is spelt. -/
theorem check_calls' (w : World) (A : Option Addr) (n cap : Nat) (l : List UInt8) (hx : RdB w A l) (hn : n = l.length) (hl : n ≤ 4611686018427387904) :
    Calls Tryz.prog 31 #[.slice A n cap] w fun e w' => e = .returned (.int .u32 ((crc l).toNat : Int)) ∧ w = w' := by
  subst hn
  exact check_calls w A cap l hx hl

/-- A number without its k lowest bytes. -/
def sh8 (x : BitVec 32) (k : Nat) : BitVec 32 := x >>> (8 * k)
/-- The k-th byte of a number. -/
def byteAt (x : BitVec 32) (k : Nat) : UInt8 := UInt8.ofNat ((sh8 x k).toNat % 256)
/-- The n lowest bytes of a number, the lowest first. -/
def low (n : Nat) (x : BitVec 32) : List UInt8 := (List.range n).map (byteAt x)
theorem low_length (n : Nat) (x : BitVec 32) : (low n x).length = n := by simp [low]
theorem low_snoc (n : Nat) (x : BitVec 32) : low (n + 1) x = low n x ++ [byteAt x n] := by simp [low, List.range_succ]
theorem sh8_zero (x : BitVec 32) : sh8 x 0 = x := by simp [sh8]
theorem byte_walk (x : BitVec 32) (k : Nat) : (((sh8 x k).toNat : Int) % 256) = ((byteAt x k).toNat : Int) := by
  unfold byteAt
  rw [UInt8.toNat_ofNat']
  omega
theorem byte_walk_list (x : BitVec 32) (k : Nat) : (#[Value.int .u8 (((sh8 x k).toNat : Int) % 256)] : Array Value).toList = bcs [byteAt x k] := by
  rw [byte_walk]
  rfl
theorem sh8_walk (x : BitVec 32) (k : Nat) : (((sh8 x k).toNat : Int) / (256 : Int)) = ((sh8 x (k + 1)).toNat : Int) := by
  unfold sh8
  rw [show 8 * (k + 1) = 8 * k + 8 by omega, BitVec.shiftRight_add]
  generalize x >>> (8 * k) = y
  rw [BitVec.toNat_ushiftRight, Nat.shiftRight_eq_div_pow]
  omega

theorem Tryz.info_u8 : (Tryz.prog.info? 5).map (fun i => (i.zero, i.size, i.bytes)) = some (some (.int .u8 0), 1, 1) := by kernel_rfl

/-- What put leaves: the number's bytes behind the old ones. -/
def PutPost (w : World) (A : Option Addr) (l : List UInt8) (n : Nat) (x : BitVec 32) (e : Ending) (w' : World) : Prop :=
  ∃ A' c', e = .returned (.slice A' (l.length + n) c') ∧ Own w' 5 1 A' c' (l.length + n) (bcs (l ++ low n x)) ∧ Kp (Bk A) w w' ∧ (∀ k, Bk A' k → Bk A k ∨ w.heap.size ≤ k)

set_option maxHeartbeats 1000000 in
theorem put_calls0 (w : World) (A : Option Addr) (c : Nat) (l : List UInt8) (x : BitVec 32) (n : Nat) (hown : Own w 5 1 A c l.length (bcs l)) (hn : n ≤ 64) (hl : l.length ≤ 70368744177664) :
    Calls Tryz.prog 30 #[.slice A l.length c, .int .u32 (x.toNat : Int), .int .i64 (n : Int)] w (PutPost w A l n x) := by
  have H := Lib.hid hown
  clear hown
  go_enter Tryz.func30, Tryz.ntmps30
  go_wp2
  go_loopw [0, 1, 8] (fun b v i wr => ∃ (k : Nat) (A' : Option Addr) (c' : Nat), k ≤ n ∧ i = .int .i64 k ∧ v = .int .u32 ((sh8 x k).toNat : Int) ∧ b = .slice A' (l.length + k) c' ∧
      Hid (Own wr 5 1 A' c' (l.length + k) (bcs (l ++ low k x)) ∧ Kp (Bk A) w wr ∧ (∀ j, Bk A' j → Bk A j ∨ w.heap.size ≤ j))) (fun _ _ i _ => n - (intOf i).toNat)
  case atStart => exact ⟨0, A, c, Nat.zero_le _, rfl, by rw [sh8_zero], rfl, Lib.hid ⟨by simpa [low] using H.out, Kp.refl _ _, fun j hj => .inl hj⟩⟩
  case round =>
    obtain ⟨k, A', c', hk, rfl, rfl, rfl, HI⟩ := hrel
    by_cases hlt : k < n
    · have hb : (l.length + k + 1) * 1 ≤ 140737488355328 := by omega
      have hb2 : l.length + k + 1 ≤ 4611686018427387904 := by omega
      go_wp2_with (at_builtin; refine wpList_append_src _ rfl (.tmp 10) (.tmp 13) 22 22 rfl 5 (.int .u8 0) 1 1 Tryz.underlying22 Tryz.info_u8 rfl A' c' (l.length + k) (bcs (l ++ low k x)) rfl (HI.out.1.new (Kp.alloc _ _ _)) _ rfl 1 _ (Src.ofNew _ Tryz.underlying22 #[.int .u8 (((sh8 x k).toNat : Int) % 256)] 5 1 1 1 rfl (by simp [Value.oneCell'])) hb hb2 ?_; intro A2 c2 w2 h1 h2 h3)
      refine ⟨⟨k + 1, A2, c2, by omega, by go_num, by rw [sh8_walk], rfl, Lib.hid ⟨?_, ?_, ?_⟩⟩, by simp [intOf]; omega⟩
      · rw [low_snoc, ← List.append_assoc, bcs_append, ← byte_walk_list]
        exact h1
      · exact HI.out.2.1.trans ((Kp.alloc _ wr _).trans h2 (fun _ _ => id) (fun _ _ => id)) (fun _ _ => id) (fun j hj hb => (HI.out.2.2 j hb).elim id (fun h => absurd hj (by omega)))
      · intro j hj
        have hs := HI.out.2.1.size
        rcases h3 j hj with hb | rfl
        · exact HI.out.2.2 j hb
        · exact .inr (by simp; omega)
    · obtain rfl : k = n := by omega
      go_wp2
      go_ret
      exact ⟨A', c', rfl, HI.out⟩
/-- put, however its arguments are spelt. -/
theorem put_calls (w : World) (A : Option Addr) (c m : Nat) (l : List UInt8) (v : Int) (x : BitVec 32) (k : Int) (n : Nat) (hm : m = l.length) (hv : v = (x.toNat : Int)) (hk : k = n) (hown : Own w 5 1 A c m (bcs l)) (hn : n ≤ 64) (hl : m ≤ 70368744177664) :
    Calls Tryz.prog 30 #[.slice A m c, .int .u32 v, .int .i64 k] w (PutPost w A l n x) := by
  subst hm
  subst hv
  subst hk
  exact put_calls0 w A c l x n hown hn hl

/-- A record's frame. -/
def frame (l : List UInt8) : List UInt8 := low 2 (BitVec.ofNat 32 l.length) ++ low 2 (BitVec.ofNat 32 (65535 - l.length)) ++ low 4 (crc l) ++ l
theorem frame_length (l : List UInt8) : (frame l).length = 8 + l.length := by simp [frame, low_length]; omega

/-- A new slice of bytes. -/
def NewBytes (w : World) (l : List UInt8) (w' : World) (A : Option Addr) (n c : Nat) : Prop :=
  n = l.length ∧ Own w' 5 1 A c n (bcs l) ∧ New w w' ∧ (∀ k, Bk A k → w.heap.size ≤ k)

/-- What Frame answers of a record that is not too long. -/
def FramePost (w : World) (l : List UInt8) (e : Ending) (w' : World) : Prop :=
  ∃ A n c, e = .returned (.tuple #[.slice A n c, .int .i64 0]) ∧ NewBytes w (frame l) w' A n c

set_option maxHeartbeats 1000000 in
theorem Frame_long (w : World) (A : Option Addr) (c n : Nat) (hl : 2048 < n) :
    Calls Tryz.prog 8 #[.slice A n c] w fun e w' => e = .returned (.tuple #[.slice none 0 0, .int .i64 3]) ∧ w = w' := by
  go_enter Tryz.func8, Tryz.ntmps8
  go_wp2
  go_ret2
  exact ⟨rfl, rfl⟩

set_option maxHeartbeats 1000000 in
theorem Frame_calls (w : World) (A : Option Addr) (c : Nat) (l : List UInt8) (hx : RdB w A l) (hl : l.length ≤ 2048) :
    Calls Tryz.prog 8 #[.slice A l.length c] w (FramePost w l) := by
  have H := Lib.hid hx
  clear hx
  go_enter Tryz.func8, Tryz.ntmps8
  go_wp2_with fail
  refine (put_calls _ none 0 0 [] _ (BitVec.ofNat 32 l.length) _ 2 rfl ?_ rfl (Own.nil _ _ _) (by omega) (by omega)).mono ?_
  · rw [BitVec.toNat_ofNat]
    omega
  rintro e w1 ⟨A1, c1, rfl, hp⟩
  have H1 := Lib.hid hp
  clear hp
  go_wp2_with fail
  refine (put_calls _ A1 c1 2 (low 2 (BitVec.ofNat 32 l.length)) _ (BitVec.ofNat 32 (65535 - l.length)) _ 2 (by rw [low_length]) ?_ rfl H1.out.1 (by omega) (by omega)).mono ?_
  · rw [BitVec.toNat_ofNat]
    omega
  rintro e w2 ⟨A2, c2, rfl, hp⟩
  have H2 := Lib.hid hp
  clear hp
  have n2 : New w w2 := H1.out.2.1.trans H2.out.2.1 (fun k _ h => absurd h Bk.none_) (fun k hk h => (H1.out.2.2 k h).elim (fun h => absurd h Bk.none_) (fun h => absurd hk (by omega)))
  have N2 := Lib.hid n2
  clear n2
  go_wp2_with fail
  refine (check_calls _ A c l (H.out.new N2.out) (by omega)).mono ?_
  rintro e w' ⟨rfl, rfl⟩
  go_wp2_with fail
  refine (put_calls _ A2 c2 4 (low 2 (BitVec.ofNat 32 l.length) ++ low 2 (BitVec.ofNat 32 (65535 - l.length))) _ (crc l) _ 4 (by rw [List.length_append, low_length, low_length]) rfl rfl H2.out.1 (by omega) (by omega)).mono ?_
  rintro e w3 ⟨A3, c3, rfl, hp⟩
  have H3 := Lib.hid hp
  clear hp
  have f2 : ∀ k, Bk A2 k → w.heap.size ≤ k := fun k h => (H2.out.2.2 k h).elim (fun h => (H1.out.2.2 k h).elim (fun h => absurd h Bk.none_) id) (fun h => Nat.le_trans H1.out.2.1.size h)
  have f3 : ∀ k, Bk A3 k → w.heap.size ≤ k := fun k h => (H3.out.2.2 k h).elim (f2 k) (fun h => Nat.le_trans N2.out.size h)
  have n3 : New w w3 := N2.out.trans H3.out.2.1 (fun k _ h => h) (fun k hk h => absurd hk (by have := f2 k h; omega))
  have N3 := Lib.hid (And.intro n3 f3)
  clear n3 f2 f3
  have hb : (8 + l.length) * 1 ≤ 140737488355328 := by omega
  have hb2 : 8 + l.length ≤ 4611686018427387904 := by omega
  go_wp2_with (at_builtin; refine wpList_append_src _ rfl (.tmp 22) (.tmp 23) 22 22 rfl 5 (.int .u8 0) 1 1 Tryz.underlying22 Tryz.info_u8 rfl A3 c3 8 _ rfl H3.out.1 _ rfl l.length _ (Src.ofRdB _ Tryz.underlying22 c (H.out.new N3.out.1)) hb hb2 ?_; intro A4 c4 w4 h1 h2 h3)
  go_ret2
  refine ⟨A4, _, c4, rfl, by rw [frame_length], ?_, N3.out.1.trans h2 (fun k _ h => h) (fun k hk h => absurd hk (by have := N3.out.2 k h; omega)), fun k h => ?_⟩
  · have e : bcs (frame l) = bcs (low 2 (BitVec.ofNat 32 l.length) ++ low 2 (BitVec.ofNat 32 (65535 - l.length)) ++ low 4 (crc l)) ++ bcs l := by rw [← bcs_append]; rfl
    rw [e]
    exact h1
  · rcases h3 k h with h | rfl
    · exact N3.out.2 k h
    · exact N3.out.1.size
/-- Frame, however its argument is spelt. -/
theorem Frame_calls' (w : World) (A : Option Addr) (n c : Nat) (l : List UInt8) (hx : RdB w A l) (hn : n = l.length) (hl : l.length ≤ 2048) :
    Calls Tryz.prog 8 #[.slice A n c] w (FramePost w l) := by
  subst hn
  exact Frame_calls w A c l hx hl
end Go.Proofs.YtdgpnpagbhikoaaGreatDoor.Kit
