/- Words that the walks of this seat share: bytes as cells, slices that are read, what a call may change. -/
import Derived.WalkKit
import Derived.ProofKit
import Derived.OpenShut
import Derived.Below
import Derived.SizedLaws
import Derived.WalkLawsBesides
import Derived.WalkSpells
import Derived.Lib.Hide
import Derived.Deep.AppendSrc
import Derived.Deep.DeepMust
import Derived.Deep.DeepFit
import Derived.Outline
namespace Go.Proofs.YtejmndfdmikfaaaDoor.Kit
open Go Go.RowKit

/-- A byte's cell. -/
abbrev bc (c : UInt8) : Value := .int .u8 (c.toNat : Int)
/-- Bytes as cells. -/
def bcs (l : List UInt8) : List Value := l.map bc
theorem bcs_length (l : List UInt8) : (bcs l).length = l.length := by simp [bcs]
theorem bcs_append (l m : List UInt8) : bcs (l ++ m) = bcs l ++ bcs m := by simp [bcs]

/-- The slice that begins at A shows the bytes l. -/
def RdB (w : World) (A : Option Addr) (l : List UInt8) : Prop :=
  l ≠ [] → ∃ b off, A = some ⟨b, off, none⟩ ∧ ∀ (j : Nat) (h : j < l.length), w.cell? ⟨b, off + j, none⟩ = some (.int .u8 ((l[j]'h).toNat : Int))

theorem RdB.at_ {w : World} {A : Option Addr} {l : List UInt8} (h : RdB w A l) {k : Nat} (hk : k < l.length) :
    ∃ b off, A = some ⟨b, off, none⟩ ∧ ∀ (j : Nat) (h : j < l.length), w.cell? ⟨b, off + j, none⟩ = some (.int .u8 ((l[j]'h).toNat : Int)) :=
  h (by intro e; subst e; simp at hk)

/-- What a call may change: blocks of S alone; new blocks may come. -/
structure Kp (S : Nat → Prop) (w w' : World) : Prop where
  os : w'.os = w.os
  tape : w'.tape = w.tape
  output : w'.output = w.output
  size : w.heap.size ≤ w'.heap.size
  block : ∀ k, k < w.heap.size → ¬ S k → w'.heap[k]? = w.heap[k]?

end Go.Proofs.YtejmndfdmikfaaaDoor.Kit
