/- The sum of bytes, bit by bit, as a plain function; and how the walk writes its steps. -/
import Derived.Test.YtdgpnpagbhikoaaGreatDoorKit
import Derived.Laws.Entries
namespace Go.Proofs.YtdgpnpagbhikoaaGreatDoor.Kit
open Go Go.RowKit

/-- One bit's step. -/
def crcBit (s : BitVec 32) : BitVec 32 := (s >>> 1) ^^^ (if s.getLsbD 0 then 0xedb88320#32 else 0#32)
/-- Several of them. -/
def crcBits : Nat → BitVec 32 → BitVec 32
  | 0, s => s
  | n + 1, s => crcBit (crcBits n s)
/-- One byte's. -/
def crcByte (s : BitVec 32) (c : UInt8) : BitVec 32 := crcBits 8 (s ^^^ BitVec.ofNat 32 c.toNat)
/-- Of bytes, before the last turn. -/
def crcRaw (l : List UInt8) : BitVec 32 := l.foldl crcByte 0xffffffff#32
/-- The sum. -/
def crc (l : List UInt8) : BitVec 32 := ~~~ (crcRaw l)

theorem crcRaw_snoc (l : List UInt8) (c : UInt8) : crcRaw (l ++ [c]) = crcByte (crcRaw l) c := by simp [crcRaw]
theorem crcRaw_take (l : List UInt8) (k : Nat) (h : k < l.length) : crcRaw (l.take (k + 1)) = crcByte (crcRaw (l.take k)) (l[k]'h) := by
  rw [List.take_succ_eq_append_getElem h, crcRaw_snoc]

theorem u32_toNat (s : BitVec 32) : (0 : Int) ≤ (s.toNat : Int) ∧ (s.toNat : Int) < 4294967296 := by have := s.isLt; omega
theorem ofInt_toNat32 (s : BitVec 32) : BitVec.ofInt 32 (s.toNat : Int) = s := by simp

theorem wrap_u32_toNat (s : BitVec 32) : IntKind.u32.wrap (s.toNat : Int) = (s.toNat : Int) := by
  have := u32_toNat s
  simp [IntKind.wrap, IntKind.bits, IntKind.signed]
  omega

theorem bits_xor32 (s t : BitVec 32) : bits BinOp.xor IntKind.u32 (s.toNat : Int) (t.toNat : Int) = ((s ^^^ t).toNat : Int) := by
  show IntKind.u32.wrap (((BitVec.ofInt 32 (s.toNat : Int)) ^^^ (BitVec.ofInt 32 (t.toNat : Int)) : BitVec 32).toNat : Int) = _
  rw [ofInt_toNat32, ofInt_toNat32, wrap_u32_toNat]
theorem bits_and32 (s t : BitVec 32) : bits BinOp.and IntKind.u32 (s.toNat : Int) (t.toNat : Int) = ((s &&& t).toNat : Int) := by
  show IntKind.u32.wrap (((BitVec.ofInt 32 (s.toNat : Int)) &&& (BitVec.ofInt 32 (t.toNat : Int)) : BitVec 32).toNat : Int) = _
  rw [ofInt_toNat32, ofInt_toNat32, wrap_u32_toNat]

theorem and_one32 (s : BitVec 32) : s &&& 1#32 = if s.getLsbD 0 then 1#32 else 0#32 := by
  apply BitVec.eq_of_getLsbD_eq
  intro i hi
  rw [BitVec.getLsbD_and]
  by_cases h0 : i = 0
  · subst h0
    cases h : s.getLsbD 0 <;> simp
  · have : (1#32).getLsbD i = false := by
      rw [BitVec.getLsbD_one]
      simp [h0]
    cases h : s.getLsbD 0 <;> simp [this]

/-- One bit's step, as the walk writes it. -/
theorem crcBit_walk (s : BitVec 32) : bits BinOp.xor IntKind.u32 ((s.toNat : Int) / 2) (bits BinOp.and IntKind.u32 (-bits BinOp.and IntKind.u32 (s.toNat : Int) 1 % 4294967296) 3988292384) = ((crcBit s).toNat : Int) := by
  have h1 : ((s.toNat : Int) / (2 : Int)) = ((s >>> (1 : Nat)).toNat : Int) := by
    rw [BitVec.toNat_ushiftRight, Nat.shiftRight_eq_div_pow]
    omega
  have h2 := bits_and32 s 1#32
  rw [and_one32] at h2
  have e1 : (((1#32 : BitVec 32).toNat : Nat) : Int) = 1 := rfl
  rw [e1] at h2
  rw [h2, h1]
  cases h : s.getLsbD 0
  · have h3 := bits_and32 0#32 3988292384#32
    have h4 := bits_xor32 (s >>> 1) 0#32
    simp only [Bool.false_eq_true, if_false] at *
    have e2 : (-(((0#32 : BitVec 32).toNat : Nat) : Int) % 4294967296) = (((0#32 : BitVec 32).toNat : Nat) : Int) := rfl
    have e3 : ((((0#32 &&& 3988292384#32) : BitVec 32).toNat : Nat) : Int) = (((0#32 : BitVec 32).toNat : Nat) : Int) := rfl
    have e4 : (((3988292384#32 : BitVec 32).toNat : Nat) : Int) = 3988292384 := rfl
    rw [e4, e3] at h3
    rw [e2, h3, h4]
    simp only [crcBit, h, Bool.false_eq_true, if_false]
  · have h3 := bits_and32 4294967295#32 3988292384#32
    have h4 := bits_xor32 (s >>> 1) 3988292384#32
    simp only [if_true] at *
    have e2 : (-(((1#32 : BitVec 32).toNat : Nat) : Int) % 4294967296) = (((4294967295#32 : BitVec 32).toNat : Nat) : Int) := by decide
    have e3 : ((((4294967295#32 &&& 3988292384#32) : BitVec 32).toNat : Nat) : Int) = (((3988292384#32 : BitVec 32).toNat : Nat) : Int) := by decide
    have e4 : (((3988292384#32 : BitVec 32).toNat : Nat) : Int) = 3988292384 := rfl
    rw [e4, e3] at h3
    rw [e2, h3, h4]
    simp only [crcBit, h, if_true]

theorem u8_32 (c : UInt8) : ((c.toNat : Int) % 4294967296) = ((BitVec.ofNat 32 c.toNat).toNat : Int) := by
  have := c.toNat_lt
  rw [BitVec.toNat_ofNat]
  omega

/-- Where a byte's steps begin, as the walk writes it. -/
theorem crcStart_walk (s : BitVec 32) (c : UInt8) : bits BinOp.xor IntKind.u32 (s.toNat : Int) ((c.toNat : Int) % 4294967296) = ((s ^^^ BitVec.ofNat 32 c.toNat).toNat : Int) := by
  rw [u8_32, bits_xor32]

/-- The last turn, as the walk writes it. -/
theorem crcEnd_walk (s : BitVec 32) : bits BinOp.xor IntKind.u32 IntKind.u32.max (s.toNat : Int) = ((~~~ s).toNat : Int) := by
  have h := bits_xor32 (BitVec.allOnes 32) s
  rw [BitVec.allOnes_xor] at h
  exact h

end Go.Proofs.YtdgpnpagbhikoaaGreatDoor.Kit
