/- store.length: the number at a frame's head, and whether a frame begins so. -/
import Derived.Test.YtdgpnpagbhikoaaBytes
import Derived.Test.YtdgpnpagbhikoaaFrame1
import Derived.BigQuiet
import Derived.Deep.QuietTactic
import Derived.Laws.BitsLemmas
namespace Go.Proofs.Ytdgpnpagbhikoaa.Kit
open Go Go.RowKit

/-- The number in the first two bytes. -/
def num2 (l : List UInt8) : Nat := (l.getD 0 0).toNat + 256 * (l.getD 1 0).toNat
/-- Does a frame begin so (as far as it goes)? -/
def headOk (l : List UInt8) : Bool := decide (num2 l ≤ 2048) && decide ((low 2 (BitVec.ofNat 32 (65535 - num2 l))).take ((l.drop 2).take 2).length = (l.drop 2).take 2)
theorem num2_lt (l : List UInt8) : num2 l < 65536 := by
  unfold num2
  have h0 := (l.getD 0 0).toNat_lt
  have h1 := (l.getD 1 0).toNat_lt
  omega
theorem num2_walk (x y : UInt8) : bits BinOp.or IntKind.i64 (x.toNat : Int) ((y.toNat : Int) * 256) = ((x.toNat + 256 * y.toNat : Nat) : Int) := by
  have h0 := x.toNat_lt
  have h1 := y.toNat_lt
  have h := (bits_nat .i64 16 (by decide) (fun n h0 h1 => by rw [IntKind.wrap_i64]; omega) x.toNat (y.toNat * 256) (by omega) (by omega)).2
  have e : x.toNat ||| (y.toNat * 256) = x.toNat + 256 * y.toNat := by
    rw [Nat.or_comm, show y.toNat * 256 = y.toNat <<< 8 by rw [Nat.shiftLeft_eq], ← Nat.shiftLeft_add_eq_or_of_lt (by omega), Nat.shiftLeft_eq]
    omega
  rw [e, show ((y.toNat * 256 : Nat) : Int) = (y.toNat : Int) * 256 by omega] at h
  exact h

/-- What length answers. -/
def LengthPost (w : World) (l : List UInt8) (e : Ending) (w' : World) : Prop := e = .returned (.tuple #[.int .i64 (num2 l : Int), .bool (headOk l)]) ∧ New w w'

set_option maxHeartbeats 1000000 in
theorem length_calls (w : World) (A : Option Addr) (n c : Nat) (l : List UInt8) (hl : RdB w A l) (hn : n = l.length) (h2 : 2 ≤ l.length) (hc : n ≤ c) (hb : n ≤ 4611686018427387904) :
    Calls Try.prog 16 #[.slice A n c] w (LengthPost w l) := by
  subst hn
  have H := Lib.hid hl
  obtain ⟨b, off, rfl, hcell⟩ := hl.at_ (k := 0) (by omega)
  have hc0 := hcell 0 (by omega)
  have hc1 := hcell 1 (by omega)
  rw [Nat.add_zero] at hc0
  have h0 : (0 : Int) < (l.length : Int) := by omega
  have h1 : (1 : Int) < (l.length : Int) := by omega
  have e0 : num2 l = l[0].toNat + 256 * l[1].toNat := by
    unfold num2
    rw [List.getD_eq_getElem?_getD, List.getD_eq_getElem?_getD, List.getElem?_eq_getElem (by omega), List.getElem?_eq_getElem (by omega)]
    rfl
  have E0 := Lib.hid e0
  clear e0
  have hnum := num2_lt l
  generalize hm : num2 l = m at *
  have HM := Lib.hid hm
  generalize l[0] = x at *
  generalize l[1] = y at *
  have hx := x.toNat_lt
  have hy := y.toNat_lt
  have k0 : IntKind.i64.wrap (x.toNat : Int) = (x.toNat : Int) := by rw [IntKind.wrap_i64]; omega
  have k1 : IntKind.i64.wrap (y.toNat : Int) = (y.toNat : Int) := by rw [IntKind.wrap_i64]; omega
  have k2 : IntKind.i64.wrap ((y.toNat : Int) * 256) = (y.toNat : Int) * 256 := by rw [IntKind.wrap_i64]; omega
  have k3 : bits BinOp.or IntKind.i64 (x.toNat : Int) ((y.toNat : Int) * 256) = (m : Int) := by rw [num2_walk, ← E0.out]
  clear hm hl hcell
  go_enter Try.func16, Try.ntmps16
  go_wp2_with fail
  go_quiet (fail)
  clear k0 k1 k2 k3
  go_wp2_with fail
  refine (put_calls _ none 0 0 [] _ (BitVec.ofNat 32 (65535 - m)) _ 2 rfl ?_ rfl (Own.nil _ _ _) (by omega) (by omega)).mono ?_
  · rw [BitVec.toNat_ofNat]
    omega
  rintro e w1 ⟨A1, c1, rfl, hp⟩
  have H1 := Lib.hid hp
  clear hp
  have n1 : New w w1 := (Kp.drewN _ _ _).trans H1.out.2.1 (fun _ _ h => h) (fun k _ h => absurd h Bk.none_)
  have N1 := Lib.hid n1
  clear n1
  have hf : ∀ k, k = min 4 l.length → RdB w1 (adv (some ⟨b, off, none⟩) c 2 1) ((l.drop 2).take 2) ∧ k - 2 = ((l.drop 2).take 2).length := by
    intro k hk
    have h := (H.out.new N1.out).adv c 2 k (by omega) hc
    have e : (l.drop 2).take (k - 2) = (l.drop 2).take 2 := by
      by_cases h4 : 4 ≤ l.length
      · rw [show k = 4 by omega]
      · rw [List.take_of_length_le (by simp; omega), List.take_of_length_le (by simp; omega)]
    rw [e] at h
    refine ⟨h, ?_⟩
    simp
    omega
  have HF := Lib.hid hf
  clear hf
  have hok : (decide (m ≤ 2048) && decide ((low 2 (BitVec.ofNat 32 (65535 - m))).take ((l.drop 2).take 2).length = (l.drop 2).take 2)) = headOk l := by
    unfold headOk
    rw [HM.out]
  have HO := Lib.hid hok
  clear hok
  have fin : ∀ (q : Bool), headOk l = q → ∀ w2, w1 = w2 → LengthPost w l (.returned (.tuple #[.int .i64 (m : Int), .bool q])) w2 := by
    rintro q rfl w2 rfl
    exact ⟨by rw [HM.out], N1.out⟩
  have FIN := Lib.hid fin
  clear fin
  by_cases h4 : 4 ≤ l.length
  · have h4' : (4 : Int) ≤ (l.length : Int) := by omega
    have hs : ∀ w, (Instr.slice 26 (.slice (some ⟨b, off, none⟩) l.length c) (some (.int .i64 2)) (some (.int .i64 4)) none).run Try.prog w = .ok (.slice (adv (some ⟨b, off, none⟩) c 2 1) 2 (c - 2)) w := run_slice_mid 26 5 Try.underlying26 1 Try.size_u8 _ _ _ 2 4 (by omega) (by omega)
    by_cases hbig : m ≤ 2048
    · go_wp2_with fail
      refine (HasPrefix_calls w1 A1 (adv (some ⟨b, off, none⟩) c 2 1) 2 2 c1 (c - 2) (low 2 (BitVec.ofNat 32 (65535 - m))) ((l.drop 2).take 2) H1.out.1.rd2 (HF.out 4 (by omega)).1 (by rw [low_length]) (HF.out 4 (by omega)).2 H1.out.1.cap.1 (by omega) (by omega)).mono ?_
      rintro e w' ⟨rfl, rfl⟩
      go_wp2_with fail
      go_ret2
      exact FIN.out _ (by rw [← HO.out, decide_eq_true hbig, Bool.true_and, List.length_take, List.length_drop]) _ rfl
    · go_wp2_with fail
      go_ret2
      exact FIN.out false (by rw [← HO.out, decide_eq_false hbig, Bool.false_and]) _ rfl
  · have h4' : (l.length : Int) < 4 := by omega
    have hs : ∀ w, (Instr.slice 26 (.slice (some ⟨b, off, none⟩) l.length c) (some (.int .i64 2)) (some (.int .i64 (l.length : Int))) none).run Try.prog w = .ok (.slice (adv (some ⟨b, off, none⟩) c 2 1) (l.length - 2) (c - 2)) w := run_slice_mid 26 5 Try.underlying26 1 Try.size_u8 _ _ _ 2 l.length (by omega) (by omega)
    by_cases hbig : m ≤ 2048
    · go_wp2_with fail
      refine (HasPrefix_calls w1 A1 (adv (some ⟨b, off, none⟩) c 2 1) 2 (l.length - 2) c1 (c - 2) (low 2 (BitVec.ofNat 32 (65535 - m))) ((l.drop 2).take 2) H1.out.1.rd2 (HF.out l.length (by omega)).1 (by rw [low_length]) (HF.out l.length (by omega)).2 H1.out.1.cap.1 (by omega) (by omega)).mono ?_
      rintro e w' ⟨rfl, rfl⟩
      go_wp2_with fail
      go_ret2
      exact FIN.out _ (by rw [← HO.out, decide_eq_true hbig, Bool.true_and, List.length_take, List.length_drop]) _ rfl
    · go_wp2_with fail
      go_ret2
      exact FIN.out false (by rw [← HO.out, decide_eq_false hbig, Bool.false_and]) _ rfl
end Go.Proofs.Ytdgpnpagbhikoaa.Kit
