/- 5 texts in one: Words that the walks of this seat share: bytes as cells, slices that are read, what a call may change.; Slices of a call's own: a row of cells in a block that nobody else writes; append onto it, from whatever source.; A row without cells.; New slices of bytes; what this program's table says of a byte.; A region whose order is open, walked once: what only computes or reads is taken as soon as it may come up; of the others there is never a choice. -/
import Derived.WalkKit
import Derived.ProofKit
import Derived.OpenShut
import Derived.Below
import Derived.SizedLaws
import Derived.WalkLawsBesides
import Derived.WalkSpells
import Derived.Lib.Hide
import Derived.Deep.AppendSrc
import Derived.Deep.DeepMust
import Derived.Deep.DeepFit
import Derived.Outline
import Derived.Laws.CopyRow
import Derived.Laws.AppendOwn
import Derived.Maps.AppendAt
import Derived.Test.YtekcoeonlfmebaaGreatDoorProg
import Derived.OrdersHeld
import Derived.Deep.RegionHeld3
import Derived.OrdersIn
import Derived.RangeFuncCalls
namespace Go.Proofs.YtekcoeonlfmebaaGreatDoor.Kit
open Go Go.RowKit
abbrev bc (c : UInt8) : Value := .int .u8 (c.toNat : Int)
def bcs (l : List UInt8) : List Value := l.map bc
theorem bcs_length (l : List UInt8) : (bcs l).length = l.length := by simp [bcs]
theorem bcs_append (l m : List UInt8) : bcs (l ++ m) = bcs l ++ bcs m := by simp [bcs]
def RdB (w : World) (A : Option Addr) (l : List UInt8) : Prop :=
 l ≠ [] → ∃ b off, A = some ⟨b, off, none⟩ ∧ ∀ (j : Nat) (h : j < l.length), w.cell? ⟨b, off + j, none⟩ = some (.int .u8 ((l[j]'h).toNat : Int))
theorem RdB.at_ {w : World} {A : Option Addr} {l : List UInt8} (h : RdB w A l) {k : Nat} (hk : k < l.length) :
  ∃ b off, A = some ⟨b, off, none⟩ ∧ ∀ (j : Nat) (h : j < l.length), w.cell? ⟨b, off + j, none⟩ = some (.int .u8 ((l[j]'h).toNat : Int)) :=
 h (by intro e; subst e; simp at hk)
theorem fid {S : Nat → Prop} {n : Nat} : ∀ i, i < n → S i → S i := fun _ _ h => h
structure Kp (S : Nat → Prop) (w w' : World) : Prop where
 os : w'.os = w.os
 tape : w'.tape = w.tape
 output : w'.output = w.output
 size : w.heap.size ≤ w'.heap.size
 block : ∀ k, k < w.heap.size → ¬ S k → w'.heap[k]? = w.heap[k]?
def Bk (A : Option Addr) (k : Nat) : Prop := A.map Addr.block = some k
theorem Bk.none_ {k : Nat} : ¬ Bk none k := by simp [Bk]
theorem Bk.some_ {a : Addr} {k : Nat} : Bk (some a) k ↔ a.block = k := by simp [Bk]
def Own (w : World) (e : TypeId) (sz : Nat) (A : Option Addr) (c n : Nat) (xs : List Value) : Prop :=
 xs.length = n * sz ∧ ((A = none ∧ c = 0 ∧ n = 0) ∨
  ∃ g cur, A = some ⟨g, 0, none⟩ ∧ w.heap[g]? = some (.cells cur e (0, 0)) ∧ n ≤ c ∧ c ≤ maxLen ∧ c * sz ≤ cur.size ∧ cur.toList.take (n * sz) = xs)
theorem Own.nil (w : World) (e : TypeId) (sz : Nat) : Own w e sz none 0 0 [] := ⟨by simp, .inl ⟨rfl, rfl, rfl⟩⟩
theorem Own.len {w : World} {e : TypeId} {sz n c : Nat} {A : Option Addr} {xs : List Value} (h : Own w e sz A c n xs) : xs.length = n * sz := h.1
theorem Own.lt {w : World} {e : TypeId} {sz n c : Nat} {A : Option Addr} {xs : List Value} (h : Own w e sz A c n xs) : ∀ k, Bk A k → k < w.heap.size := by
 intro k hk
 rcases h.2 with ⟨rfl, _⟩ | ⟨g, cur, rfl, hg, _⟩
 ·exact absurd hk Bk.none_
 ·obtain rfl : g = k := Bk.some_.1 hk
  exact (Array.getElem?_eq_some_iff.1 hg).1
theorem Own.max {w : World} {e : TypeId} {sz n c : Nat} {A : Option Addr} {xs : List Value} (h : Own w e sz A c n xs) : n ≤ maxLen := by
 rcases h.2 with ⟨_, _, rfl⟩ | ⟨g, cur, _, _, h1, h2, _⟩ <;> omega
theorem Own.cap {w : World} {e : TypeId} {sz n c : Nat} {A : Option Addr} {xs : List Value} (h : Own w e sz A c n xs) : n ≤ c ∧ c ≤ maxLen := by
 rcases h.2 with ⟨_, rfl, rfl⟩ | ⟨g, cur, _, _, h1, h2, _⟩
 ·exact ⟨Nat.le_refl _, by simp [maxLen]⟩
 ·exact ⟨h1, h2⟩
theorem Own.form {w : World} {e : TypeId} {sz n c : Nat} {A : Option Addr} {xs : List Value} (h : Own w e sz A c n xs) : (A = none ∧ c = 0 ∧ n = 0) ∨ ∃ g, A = some ⟨g, 0, none⟩ := by
 rcases h.2 with h | ⟨g, _, rfl, _⟩
 ·exact .inl h
 ·exact .inr ⟨g, rfl⟩
theorem Own.some_ {w : World} {e : TypeId} {sz n c : Nat} {A : Option Addr} {xs : List Value} (h : Own w e sz A c n xs) (hn : 0 < n) : ∃ g, A = some ⟨g, 0, none⟩ := by
 rcases h.form with ⟨_, _, h0⟩ | h
 ·omega
 ·exact h
theorem Own.keep {w w' : World} {e : TypeId} {sz n c : Nat} {A : Option Addr} {xs : List Value} (h : Own w e sz A c n xs) (hb : ∀ k, Bk A k → w'.heap[k]? = w.heap[k]?) : Own w' e sz A c n xs := by
 refine ⟨h.1, ?_⟩
 rcases h.2 with h | ⟨g, cur, rfl, hg, r⟩
 ·exact .inl h
 ·exact .inr ⟨g, cur, rfl, by rw [hb g (Bk.some_.2 rfl)]; exact hg, r⟩
theorem cell_of_block {w : World} {g j : Nat} {cur : Array Value} {e : TypeId} {fr : Nat × Nat} (hg : w.heap[g]? = some (.cells cur e fr)) : w.cell? ⟨g, j, none⟩ = cur[j]? := by
 simp [World.cell?, hg]
theorem Own.cell {w : World} {e : TypeId} {sz n c : Nat} {g : Nat} {xs : List Value} (h : Own w e sz (some ⟨g, 0, none⟩) c n xs) {j : Nat} {u : Value} (hu : xs[j]? = some u) : w.cell? ⟨g, j, none⟩ = some u := by
 rcases h.2 with ⟨h, _⟩ | ⟨g', cur, e', hg, h1, h2, h3, h4⟩
 ·cases h
 ·cases e'
  rw [cell_of_block hg]
  rw [← h4, List.getElem?_take] at hu
  split at hu
  ·simpa using hu
  ·cases hu
theorem Own.frozen {w : World} {e : TypeId} {sz n c : Nat} {g : Nat} {xs : List Value} (h : Own w e sz (some ⟨g, 0, none⟩) c n xs) (j : Nat) : w.frozen? ⟨g, j, none⟩ = false := by
 rcases h.2 with ⟨h, _⟩ | ⟨g', cur, e', hg, _⟩
 ·cases h
 ·cases e'
  simp [World.frozen?, hg]
/-! ### What changes -/
theorem Kp.refl (S : Nat → Prop) (w : World) : Kp S w w := ⟨rfl, rfl, rfl, Nat.le_refl _, fun _ _ _ => rfl⟩
theorem Kp.trans {S T U : Nat → Prop} {a b c : World} (h : Kp S a b) (k : Kp T b c) (hS : ∀ i, i < a.heap.size → S i → U i) (hT : ∀ i, i < a.heap.size → T i → U i) : Kp U a c :=
 ⟨k.os.trans h.os, k.tape.trans h.tape, k.output.trans h.output, Nat.le_trans h.size k.size, fun i hi hu =>
  (k.block i (Nat.lt_of_lt_of_le hi h.size) (fun t => hu (hT i hi t))).trans (h.block i hi (fun s => hu (hS i hi s)))⟩
theorem Kp.mono {S U : Nat → Prop} {a b : World} (h : Kp S a b) (hS : ∀ i, i < a.heap.size → S i → U i) : Kp U a b := ⟨h.os, h.tape, h.output, h.size, fun i hi hu => h.block i hi (fun s => hu (hS i hi s))⟩
theorem Kp.alloc (S : Nat → Prop) (w : World) (o : Obj) : Kp S w (w.alloc o) := ⟨rfl, rfl, rfl, by simp, fun k hk _ => Below.heap_alloc _ _ _ hk⟩
theorem Kp.drew (S : Nat → Prop) (w : World) : Kp S w w.drew := ⟨rfl, rfl, rfl, Nat.le_refl _, fun _ _ _ => rfl⟩
theorem Kp.drewN (S : Nat → Prop) (w : World) (n : Nat) : Kp S w (w.drewN n) := ⟨rfl, rfl, rfl, Nat.le_refl _, fun _ _ _ => rfl⟩
theorem Kp.setCell {S : Nat → Prop} (w : World) (a : Addr) (v : Value) (h : S a.block) : Kp S w (w.setCell a v) :=
 ⟨rfl, rfl, rfl, by simp [World.setCell], fun k _ hk => Below.heap_setCell _ _ _ _ (fun e => hk (e ▸ h))⟩
theorem Kp.of_grown {w w' : World} {row : Option Nat} (h : w.grownBy w' row) : Kp (fun k => row = some k) w w' := ⟨h.os, h.tape, h.output, h.size, fun k hk hn => h.block k hk (fun e => hn e.symm)⟩
theorem Kp.below {w w' : World} {S : Nat → Prop} (h : Kp S w w') {B : Nat} (hB : B ≤ w.heap.size) (hS : ∀ k, k < B → ¬ S k) : Below B w w' := ⟨h.os, h.tape, h.output, h.size, fun k hk => h.block k (by omega) (hS k hk)⟩
theorem Kp.cell {w w' : World} {S : Nat → Prop} (h : Kp S w w') {a : Addr} (hl : a.block < w.heap.size) (hS : ¬ S a.block) : w'.cell? a = w.cell? a := World.cell?_of_block (w := w) (h.block a.block hl hS)
theorem Kp.cell_of {w w' : World} {S : Nat → Prop} (h : Kp S w w') {a : Addr} {v : Value} (hc : w.cell? a = some v) (hS : ¬ S a.block) : w'.cell? a = some v := (h.cell (World.block_lt_of_cell? w a hc) hS).trans hc
theorem Own.kp {w w' : World} {S : Nat → Prop} {e : TypeId} {sz n c : Nat} {A : Option Addr} {xs : List Value} (h : Own w e sz A c n xs) (hk : Kp S w w') (hS : ∀ k, Bk A k → ¬ S k) : Own w' e sz A c n xs :=
 h.keep fun k hb => hk.block k (h.lt k hb) (hS k hb)
abbrev New (w w' : World) : Prop := Kp (fun _ => False) w w'
theorem New.below {w w' : World} (h : New w w') : Below w.heap.size w w' := Kp.below h (Nat.le_refl _) (fun _ _ => id)
theorem Own.new {w w' : World} {e : TypeId} {sz n c : Nat} {A : Option Addr} {xs : List Value} (h : Own w e sz A c n xs) (hk : New w w') : Own w' e sz A c n xs := h.kp hk (fun _ _ => id)
theorem New.cell {w w' : World} (h : New w w') {a : Addr} {v : Value} (hc : w.cell? a = some v) : w'.cell? a = some v := Kp.cell_of h hc id
theorem RdB.kp {w w' : World} {S : Nat → Prop} {A : Option Addr} {l : List UInt8} (h : RdB w A l) (hk : Kp S w w') (hS : ∀ k, Bk A k → ¬ S k) : RdB w' A l := by
 intro hl
 obtain ⟨b, off, rfl, hc⟩ := h hl
 exact ⟨b, off, rfl, fun j hj => hk.cell_of (hc j hj) (hS b (Bk.some_.2 rfl))⟩
theorem RdB.new {w w' : World} {A : Option Addr} {l : List UInt8} (h : RdB w A l) (hk : New w w') : RdB w' A l := h.kp hk (fun _ _ => id)
theorem Own.rd {w : World} {e : TypeId} {c : Nat} {A : Option Addr} {l : List UInt8} (h : Own w e 1 A c l.length (bcs l)) : RdB w A l := by
 intro hl
 rcases h.form with ⟨_, _, h0⟩ | ⟨g, rfl⟩
 ·exact absurd (List.eq_nil_of_length_eq_zero h0) hl
 ·exact ⟨g, 0, rfl, fun j hj => by rw [Nat.zero_add]; exact h.cell (by simp [bcs, List.getElem?_eq_getElem hj])⟩
theorem Own.rd2 {w : World} {e : TypeId} {c n : Nat} {A : Option Addr} {l : List UInt8} (h : Own w e 1 A c n (bcs l)) : RdB w A l := by
 have hn : n = l.length := by have := h.1; simp [bcs] at this; exact this.symm
 subst hn
 exact h.rd
/-! ### slice expressions -/
def adv (A : Option Addr) (c lo sz : Nat) : Option Addr := if c = lo then A else A.map (·.add (lo * sz))
theorem adv_zero (A : Option Addr) (c sz : Nat) : adv A c 0 sz = A := by
 unfold adv
 split
 ·rfl
 ·cases A <;> simp [Addr.add]
theorem Bk.adv {A : Option Addr} {c lo sz k : Nat} : Bk (adv A c lo sz) k ↔ Bk A k := by
 unfold Kit.adv
 split
 ·exact Iff.rfl
 ·cases A with
  | none => simp [Bk]
  | some a => simp [Bk, Addr.add]; split <;> rfl
theorem RdB.adv {w : World} {A : Option Addr} {l : List UInt8} (h : RdB w A l) (c lo hi : Nat) (h2 : hi ≤ l.length) (hc : l.length ≤ c) : RdB w (adv A c lo 1) ((l.drop lo).take (hi - lo)) := by
 intro hne
 have hlen : 0 < ((l.drop lo).take (hi - lo)).length := List.length_pos_iff.2 hne
 rw [List.length_take, List.length_drop] at hlen
 obtain ⟨b, off, rfl, hcell⟩ := h (by intro e; subst e; simp at hlen)
 refine ⟨b, off + lo, ?_, fun j hj => ?_⟩
 ·unfold Kit.adv
  rw [if_neg (by omega)]
  simp [Addr.add_lit]
 ·rw [List.length_take, List.length_drop] at hj
  have := hcell (lo + j) (by omega)
  rw [show off + lo + j = off + (lo + j) by omega, this]
  simp
theorem RdB.from_ {w : World} {A : Option Addr} {l : List UInt8} (h : RdB w A l) (c lo : Nat) (hc : l.length ≤ c) : RdB w (Kit.adv A c lo 1) (l.drop lo) := by
 have := h.adv c lo l.length (Nat.le_refl _) hc
 rwa [List.take_of_length_le (by simp)] at this
theorem RdB.upto {w : World} {A : Option Addr} {l : List UInt8} (h : RdB w A l) (hi : Nat) : RdB w A (l.take hi) := by
 intro hne
 obtain ⟨b, off, rfl, hcell⟩ := h (by intro e; subst e; simp at hne)
 refine ⟨b, off, rfl, fun j hj => ?_⟩
 rw [List.length_take] at hj
 rw [hcell j (by omega)]
 simp
section
variable {P : Program} (t e : TypeId) (ht : P.underlying t = some (.slice e)) (sz : Nat) (hsz : (P.info? e).map (·.size) = some sz) (A : Option Addr) (n c : Nat)
include ht hsz
theorem run_slice_from (lo : Nat) (h1 : lo ≤ n) (w : World) : (Instr.slice t (.slice A n c) (some (.int .i64 lo)) none none).run P w = .ok (.slice (adv A c lo sz) (n - lo) (c - lo)) w := by
 obtain ⟨i, hi, rfl⟩ := Option.map_eq_some_iff.1 hsz
 simp [Instr.slice, run_underlying ht, Instr.sliceBounds, run_sliceBound, sizeOf, typeInfo, hi, adv, h1]
theorem run_slice_upto (hi : Nat) (h2 : hi ≤ c) (w : World) : (Instr.slice t (.slice A n c) none (some (.int .i64 hi)) none).run P w = .ok (.slice A hi c) w := by
 obtain ⟨i, hi0, rfl⟩ := Option.map_eq_some_iff.1 hsz
 simp [Instr.slice, run_underlying ht, Instr.sliceBounds, run_sliceBound, sizeOf, typeInfo, hi0, h2]
 cases A <;> simp [Addr.add]
theorem run_slice_mid (lo hi : Nat) (h1 : lo ≤ hi) (h2 : hi ≤ c) (w : World) : (Instr.slice t (.slice A n c) (some (.int .i64 lo)) (some (.int .i64 hi)) none).run P w = .ok (.slice (adv A c lo sz) (hi - lo) (c - lo)) w := by
 obtain ⟨i, hi0, rfl⟩ := Option.map_eq_some_iff.1 hsz
 simp [Instr.slice, run_underlying ht, Instr.sliceBounds, run_sliceBound, sizeOf, typeInfo, hi0, adv, h1, h2]
theorem run_slice_mid3 (lo hi mx : Nat) (h1 : lo ≤ hi) (h2 : hi ≤ mx) (h3 : mx ≤ c) (w : World) : (Instr.slice t (.slice A n c) (some (.int .i64 lo)) (some (.int .i64 hi)) (some (.int .i64 mx))).run P w = .ok (.slice (adv A mx lo sz) (hi - lo) (mx - lo)) w := by
 obtain ⟨i, hi0, rfl⟩ := Option.map_eq_some_iff.1 hsz
 simp [Instr.slice, run_underlying ht, Instr.sliceBounds, run_sliceBound, sizeOf, typeInfo, hi0, adv, h1, h2, h3]
end
/-! ### append -/
theorem setRow_size (w : World) (g : Nat) (cs : Array Value) : (w.setRow g cs).heap.size = w.heap.size := by simp [World.setRow]
theorem Kp.setRow (w : World) (g : Nat) (cs : Array Value) : Kp (fun k => g = k) w (w.setRow g cs) :=
 ⟨rfl, rfl, rfl, by rw [setRow_size]; exact Nat.le_refl _, fun k _ hk => setRow_other w g k cs (fun e => hk e.symm)⟩
section
variable {P : Program} (w : World)
theorem run_append_own_src (t tx ty e : TypeId) (i : TypeInfo) (z : Value) (ht : P.underlying t = some (.slice e)) (hi : P.info? e = some i) (hz : i.zero = some z) (hzs : z.cells.size = i.size)
  (A : Option Addr) (c n : Nat) (xs : List Value) (hown : Own w e i.size A c n xs) (x : Value) (m : Nat) (news : List Value) (hs : Src P i.size tx x m news w)
  (hbytes : (n + m) * i.bytes ≤ 140737488355328) (h63 : n + m ≤ 4611686018427387904) :
  ∃ A' c' w', (Builtin.append_ #[t, tx] ty #[.slice A n c, x]).run P w = .ok (.slice A' (n + m) c') w' ∧ Own w' e i.size A' c' (n + m) (xs ++ news) ∧ Kp (Bk A) w w' ∧ (∀ k, Bk A' k → Bk A k ∨ k = w.heap.size) := by
 have hlen : (xs ++ news).length = (n + m) * i.size := by rw [List.length_append, hown.1, hs.newsLen, Nat.add_mul]
 have hcap := hown.cap
 by_cases hroom : n + m ≤ c
 ·rcases hown.2 with ⟨rfl, rfl, rfl⟩ | ⟨g, cur, rfl, hg, hnc, hcm, hcs, htake⟩
  ·obtain rfl : m = 0 := by omega
   have hn : news = [] := List.eq_nil_of_length_eq_zero (by have := hs.newsLen; omega)
   have hx : xs = [] := List.eq_nil_of_length_eq_zero (by have := hown.1; omega)
   subst hn
   subst hx
   refine ⟨none, 0, w, ?_, Own.nil _ _ _, Kp.refl _ _, fun k hk => absurd hk Bk.none_⟩
   rcases hs.kind with ⟨e', hk⟩ | hk <;> simp [Builtin.append_, run_underlying ht, run_underlying hk, sizeOf, typeInfo, hi, hs.len, hs.cells]
  ·have hfit : n * i.size + news.length ≤ cur.size := by
    rw [hs.newsLen, ← Nat.add_mul]
    exact Nat.le_trans (Nat.mul_le_mul_right _ hroom) hcs
   have hst := run_storeCells_at P g (n * i.size) e news 0 cur w hg (by simpa using hfit) hs.one
   simp only [Nat.add_zero] at hst
   refine ⟨_, c, _, ?_, ⟨hlen, .inr ⟨g, _, rfl, setRow_heap w g cur (cur.toList.take (n * i.size) ++ news ++ cur.toList.drop (n * i.size + news.length)).toArray e _ hg, hroom, hcm, ?_, ?_⟩⟩, (Kp.setRow _ _ _).mono (fun k _ e => Bk.some_.2 e), fun k hk => .inl hk⟩
   ·rcases hs.kind with ⟨e', hk⟩ | hk <;> simp [Builtin.append_, run_underlying ht, run_underlying hk, sizeOf, typeInfo, hi, hs.len, hroom, hs.cells, Addr.add_lit, hst]
   ·simp only [List.size_toArray, List.length_append, List.length_take, List.length_drop, Array.length_toList]
    omega
   ·rw [htake, ← hlen]
    exact List.take_left
 ·have hold : (Builtin.firstCells i.size n (.slice A n c)).run P w.drew = .ok xs.toArray w.drew := by
   rcases hown.form with ⟨rfl, rfl, rfl⟩ | ⟨g, rfl⟩
   ·have hx : xs = [] := List.eq_nil_of_length_eq_zero (by have := hown.1; omega)
    subst hx
    exact run_firstCells_none w.drew i.size 0 0 0
   ·refine run_firstCells_some w.drew i.size n ⟨g, 0, none⟩ n c xs hown.1 (fun j u hu => ?_)
    have := hown.cell hu
    simpa [Addr.add_lit] using this
  have hr := run_append_grow_src (P := P) w t tx ty e i z ht hi hz A n c xs hold x m news hs (by omega) (by omega) (growslice_fits (by omega) hbytes)
  have hge := grownCap_ge w (n + m) c e
  have hcm : grownCap w (n + m) c e ≤ maxLen := grownCap_le_maxLen w (n + m) c e (by simp only [maxLen]; omega)
  refine ⟨_, _, _, hr, ⟨hlen, .inr ⟨w.heap.size, _, rfl, heap_alloc_new w.drew _, hge, hcm, ?_, ?_⟩⟩, ⟨rfl, rfl, rfl, by simp, fun k hk _ => Below.heap_alloc w.drew _ k hk⟩, fun k hk => .inr (Bk.some_.1 hk).symm⟩
  ·simp only [Array.size_append, List.size_toArray, size_zeroCells, hzs, hlen, ← Nat.add_mul]
   exact Nat.mul_le_mul_right _ (by omega)
  ·simp only [Array.toList_append, ← hlen]
   exact List.take_left
theorem wp_append_src {o : Oper} {a : Act} {K : Act → World → Prop} {Q : Exit → Act → World → Prop} (s xo : Operand) (t tx : TypeId)
  (ho : o.op = .call { callee := .builtin .append, args := #[s, xo], argTypes := #[t, tx] })
  (e : TypeId) (z : Value) (size bytes : Nat) (ht : P.underlying t = some (.slice e)) (hi : (P.info? e).map (fun i => (i.zero, i.size, i.bytes)) = some (some z, size, bytes)) (hzs : z.cells.size = size)
  (A : Option Addr) (c n : Nat) (xs : List Value) (hs : a.eval s = .slice A n c) (hown : Own w e size A c n xs)
  (x : Value) (hx : a.eval xo = x) (m : Nat) (news : List Value) (hsrc : Src P size tx x m news w)
  (hbytes : (n + m) * bytes ≤ 140737488355328) (h63 : n + m ≤ 4611686018427387904)
  (h : ∀ A' c' w', Own w' e size A' c' (n + m) (xs ++ news) → Kp (Bk A) w w' → (∀ k, Bk A' k → Bk A k ∨ k = w.heap.size) → K (a.put o.dst (.slice A' (n + m) c')) w') : o.wp P a w K Q := by
 obtain ⟨i, hi0, hz, rfl, rfl⟩ := info_parts hi
 obtain ⟨A', c', w', hr, h2, h3, h4⟩ := run_append_own_src (P := P) w t tx o.type e i z ht hi0 hz hzs A c n xs hown x m news hsrc hbytes h63
 unfold Oper.wp execOp
 simp only [ho, resolve, invoke, builtin, Sem.run_bind, Sem.run_pure, Result.andThen_ok, List.map_toArray, List.map_cons, List.map_nil, hs, hx, hr]
 exact h A' c' w' h2 h3 h4
theorem wpList_append_src {ops : Array Oper} {rest : List Oper} {o : Oper} {a : Act} {Q : Exit → Act → World → Prop} (hgd : o.guard = none) (s xo : Operand) (t tx : TypeId)
  (ho : o.op = .call { callee := .builtin .append, args := #[s, xo], argTypes := #[t, tx] })
  (e : TypeId) (z : Value) (size bytes : Nat) (ht : P.underlying t = some (.slice e)) (hi : (P.info? e).map (fun i => (i.zero, i.size, i.bytes)) = some (some z, size, bytes)) (hzs : z.cells.size = size)
  (A : Option Addr) (c n : Nat) (xs : List Value) (hs : a.eval s = .slice A n c) (hown : Own w e size A c n xs)
  (x : Value) (hx : a.eval xo = x) (m : Nat) (news : List Value) (hsrc : Src P size tx x m news w)
  (hbytes : (n + m) * bytes ≤ 140737488355328) (h63 : n + m ≤ 4611686018427387904)
  (h : ∀ A' c' w', Own w' e size A' c' (n + m) (xs ++ news) → Kp (Bk A) w w' → (∀ k, Bk A' k → Bk A k ∨ k = w.heap.size) → wpList P ops Q rest (a.put o.dst (.slice A' (n + m) c')) w') : wpList P ops Q (o :: rest) a w := by
 obtain ⟨i, hi0, hz, rfl, rfl⟩ := info_parts hi
 obtain ⟨A', c', w', hr, h2, h3, h4⟩ := run_append_own_src (P := P) w t tx o.type e i z ht hi0 hz hzs A c n xs hown x m news hsrc hbytes h63
 refine wpList_plain hgd fun K hK => ?_
 unfold Oper.wp execOp
 simp only [ho, resolve, invoke, builtin, Sem.run_bind, Sem.run_pure, Result.andThen_ok, List.map_toArray, List.map_cons, List.map_nil, hs, hx, hr]
 exact hK _ _ (h A' c' w' h2 h3 h4)
theorem bcs_one (l : List UInt8) : ∀ u ∈ bcs l, u.oneCell' = true := fun u hu => by
 obtain ⟨_, _, rfl⟩ := List.mem_map.1 hu
 rfl
theorem Src.ofRdB {tx e' : TypeId} (hk : P.underlying tx = some (.slice e')) {A : Option Addr} (c : Nat) {l : List UInt8} (h : RdB w A l) : Src P 1 tx (.slice A l.length c) l.length (bcs l) w := by
 cases A with
 | none =>
  have : l = [] := Classical.byContradiction fun hl => by obtain ⟨_, _, e, _⟩ := h hl; cases e
  subst this
  exact Src.ofNil w hk c
 | some a =>
  refine Src.ofSlice w hk a l.length c (bcs l) (by simp [bcs]) (fun j u hu => ?_) (bcs_one l)
  have hj : j < l.length := by have := (List.getElem?_eq_some_iff.1 hu).1; simpa [bcs] using this
  obtain ⟨b, off, e, hc⟩ := h.at_ hj
  cases e
  have := hc j hj
  rw [Addr.add_lit, this]
  simp only [bcs, List.getElem?_map, List.getElem?_eq_getElem hj, Option.map_some, Option.some.injEq] at hu
  exact congrArg some hu
theorem Src.ofOwnB {tx e' : TypeId} (hk : P.underlying tx = some (.slice e')) {A : Option Addr} {n : Nat} (c : Nat) {l : List UInt8} (h : RdB w A l) (hn : n = l.length) : Src P 1 tx (.slice A n c) n (bcs l) w := by
 subst hn
 exact Src.ofRdB w hk c h
theorem Src.ofNew {tx e' : TypeId} (hk : P.underlying tx = some (.slice e')) (cs : Array Value) (e : TypeId) (size n c : Nat) (hn : cs.size = n * size) (h1 : ∀ u ∈ cs.toList, u.oneCell' = true) :
  Src P size tx (.slice (some ⟨w.heap.size, 0, none⟩) n c) n cs.toList (w.alloc (.cells cs e)) := by
 refine Src.ofSlice _ hk ⟨w.heap.size, 0, none⟩ n c cs.toList (by simp [hn]) (fun j u hu => ?_) h1
 rw [Addr.add_lit, Nat.zero_add, cell_of_block (heap_alloc_new w _)]
 simpa using hu
end
theorem Own.bare (w : World) (e : TypeId) (sz : Nat) : Own (w.alloc (.cells #[] e)) e sz (some ⟨w.heap.size, 0, none⟩) 0 0 [] :=
 ⟨by simp, .inr ⟨w.heap.size, #[], rfl, heap_alloc_new w _, Nat.le_refl _, by simp [maxLen], by simp, by simp⟩⟩
theorem Tryz.info_u8 : (Tryz.prog.info? 5).map (fun i => (i.zero, i.size, i.bytes)) = some (some (.int .u8 0), 1, 1) := by kernel_rfl
theorem Tryz.size_u8 : (Tryz.prog.info? 5).map (·.size) = some 1 := by kernel_rfl
def NewBytes (w : World) (l : List UInt8) (w' : World) (A : Option Addr) (n c : Nat) : Prop :=
 n = l.length ∧ Own w' 5 1 A c n (bcs l) ∧ New w w' ∧ (∀ k, Bk A k → w.heap.size ≤ k)
section
variable {P : Program} {ops : Array Oper} {Q : Exit → Act → World → Prop} {S : World → Prop}
def maskOf (acc : Array Nat) (o : Oper) : Nat := o.after.foldl (fun s e => if Region.binds .any e then s ||| 2 ^ e.on ||| acc.getD e.on 0 else s) 0
theorem before_eq (ops : Array Oper) : Region.before ops = ops.toList.foldl (fun acc o => acc.push (maskOf acc o)) #[] := by
 unfold Region.before maskOf
 rw [← Array.foldl_toList]
theorem mask_bit {acc : Array Nat} {o : Oper} {k : Nat} (h : (maskOf acc o).testBit k = true) : ∃ e ∈ o.after, Region.binds .any e = true ∧ (e.on = k ∨ (acc.getD e.on 0).testBit k = true) := by
 unfold maskOf at h
 rw [← Array.foldl_toList] at h
 have key : ∀ (l : List Edge) (s : Nat), (l.foldl (fun s e => if Region.binds .any e then s ||| 2 ^ e.on ||| acc.getD e.on 0 else s) s).testBit k = true → s.testBit k = true ∨ ∃ e ∈ l, Region.binds .any e = true ∧ (e.on = k ∨ (acc.getD e.on 0).testBit k = true) := by
  intro l
  induction l with
  | nil => intro s h; exact .inl h
  | cons e l ih =>
   intro s h
   rw [List.foldl_cons] at h
   rcases ih _ h with h | ⟨e', he', r⟩
   ·split at h
    ·rename_i hb
     rw [Nat.testBit_or, Nat.testBit_or, Bool.or_eq_true, Bool.or_eq_true] at h
     rcases h with (h | h) | h
     ·exact .inl h
     ·rw [Nat.testBit_two_pow] at h
      exact .inr ⟨e, List.mem_cons_self, hb, .inl (of_decide_eq_true h)⟩
     ·exact .inr ⟨e, List.mem_cons_self, hb, .inr h⟩
    ·exact .inl h
   ·exact .inr ⟨e', List.mem_cons_of_mem _ he', r⟩
 rcases key _ _ h with h | ⟨e, he, r⟩
 ·simp at h
 ·exact ⟨e, by simpa using he, r⟩
theorem masks (l : List Oper) : ∀ (acc : Array Nat) (i v : Nat), (l.foldl (fun acc o => acc.push (maskOf acc o)) acc)[i]? = some v →
  acc[i]? = some v ∨ ∃ (o : Oper) (acc' : Array Nat), acc.size ≤ i ∧ l[i - acc.size]? = some o ∧ v = maskOf acc' o ∧ acc'.size = i ∧ ∀ (k u : Nat), acc'[k]? = some u → (l.foldl (fun acc o => acc.push (maskOf acc o)) acc)[k]? = some u := by
 induction l with
 | nil => intro acc i v h; exact .inl h
 | cons o l ih =>
  intro acc i v h
  rw [List.foldl_cons] at h
  have keep : ∀ (l : List Oper) (acc : Array Nat) (k u : Nat), acc[k]? = some u → (l.foldl (fun acc o => acc.push (maskOf acc o)) acc)[k]? = some u := by
   intro l
   induction l with
   | nil => intro acc k u h; exact h
   | cons o l ih =>
    intro acc k u h
    rw [List.foldl_cons]
    refine ih _ _ _ ?_
    rw [Array.getElem?_push, if_neg (by have := (Array.getElem?_eq_some_iff.1 h).1; omega)]
    exact h
  rcases ih _ _ _ h with h1 | ⟨o', acc', hle, ho, hv, hs, hk⟩
  ·rw [Array.getElem?_push] at h1
   split at h1
   ·rename_i e
    cases h1
    refine .inr ⟨o, acc, by omega, ?_, rfl, by omega, fun k u hk => ?_⟩
    ·rw [show i - acc.size = 0 by omega]
     rfl
    ·exact keep (o :: l) acc k u hk
   ·exact .inl h1
  ·rw [Array.size_push] at hle ho
   refine .inr ⟨o', acc', by omega, ?_, hv, hs, hk⟩
   rw [show i - acc.size = (i - (acc.size + 1)) + 1 by omega]
   exact ho
def Closed (ops : Array Oper) (listed : Array Bool) : Prop := ∀ (k : Nat) (o : Oper), ops[k]? = some o → listed.getD k false = true → ∀ e ∈ o.after, Region.binds .any e = true → listed.getD e.on false = true
theorem before_listed {listed : Array Bool} (hc : Closed ops listed) : ∀ (n i : Nat), i ≤ n → ∀ (o : Oper), ops[i]? = some o → (∀ e ∈ o.after, Region.binds .any e = true → listed.getD e.on false = true) →
  ∀ k, ((Region.before ops).getD i 0).testBit k = true → listed.getD k false = true := by
 intro n
 induction n with
 | zero =>
  intro i hi o ho hall k hk
  obtain rfl : i = 0 := by omega
  rw [before_eq] at hk
  cases hb : (ops.toList.foldl (fun acc o => acc.push (maskOf acc o)) #[])[0]? with
  | none =>
   rw [Array.getD_eq_getD_getElem?, hb] at hk
   simp at hk
  | some v =>
   rw [Array.getD_eq_getD_getElem?, hb, Option.getD_some] at hk
   rcases masks ops.toList #[] 0 v hb with h | ⟨o', acc', _, ho', hv, hs, _⟩
   ·simp at h
   ·simp only [List.size_toArray, List.length_nil, Nat.sub_zero, Array.getElem?_toList] at ho'
    rw [ho] at ho'
    cases ho'
    subst hv
    obtain ⟨e, he, hbd, h | h⟩ := mask_bit hk
    ·subst h
     exact hall e he hbd
    ·have : acc' = #[] := Array.eq_empty_of_size_eq_zero hs
     subst this
     simp at h
 | succ n ih =>
  intro i hi o ho hall k hk
  rw [before_eq] at hk
  cases hb : (ops.toList.foldl (fun acc o => acc.push (maskOf acc o)) #[])[i]? with
  | none =>
   rw [Array.getD_eq_getD_getElem?, hb] at hk
   simp at hk
  | some v =>
   rw [Array.getD_eq_getD_getElem?, hb, Option.getD_some] at hk
   rcases masks ops.toList #[] i v hb with h | ⟨o', acc', _, ho', hv, hs, hkeep⟩
   ·simp at h
   ·simp only [List.size_toArray, List.length_nil, Nat.sub_zero, Array.getElem?_toList] at ho'
    rw [ho] at ho'
    cases ho'
    subst hv
    obtain ⟨e, he, hbd, h | h⟩ := mask_bit hk
    ·subst h
     exact hall e he hbd
    ·have hon := hall e he hbd
     cases hq : acc'[e.on]? with
     | none => simp [Array.getD_eq_getD_getElem?, hq] at h
     | some u =>
      have hlt : e.on < i := by have := (Array.getElem?_eq_some_iff.1 hq).1; omega
      rw [Array.getD_eq_getD_getElem?, hq, Option.getD_some] at h
      have hlo : e.on < ops.size := by have := (Array.getElem?_eq_some_iff.1 ho).1; omega
      refine ih e.on (by omega) ops[e.on] (Array.getElem?_eq_getElem hlo) (hc e.on _ (Array.getElem?_eq_getElem hlo) hon) k ?_
      rw [before_eq, Array.getD_eq_getD_getElem?, hkeep _ _ hq, Option.getD_some]
      exact h
def needs (ops : Array Oper) (E : Nat → Bool) (j : Nat) : Bool :=
 (List.range ops.size).any fun i => E i && i != j && !((Region.before ops).getD j 0).testBit i
structure OpSem (P : Program) (ops : Array Oper) (opw : Nat → (Act → World → Prop) → Act → World → Prop) : Prop where
 mono : ∀ {i : Nat} {a : Act} {w : World} {K K' : Act → World → Prop}, (∀ a w, K a w → K' a w) → opw i K a w → opw i K' a w
 yields : ∀ {S : World → Prop} {i : Nat} {o : Oper} {v : Value} {a : Act} {w : World} {K : Act → World → Prop}, ops[i]? = some o → YieldsIf P ops S o v a → S w → K (a.put o.dst v) w → opw i K a w
 put : ∀ {S : World → Prop} {j : Nat} {oi oj : Oper} {v : Value} {K : Act → World → Prop} {a : Act} {w : World}, ops[j]? = some oj → oi.apart ops oj = true → (∀ cs b, oi.op ≠ .select cs b) → (∀ cs b, oj.op ≠ .select cs b) →
  YieldsIf P ops S oi v a → opw j K (a.put oi.dst v) w → opw j (fun a' w' => YieldsIf P ops S oi v a' ∧ K (a'.put oi.dst v) w') a w
variable {opw : Nat → (Act → World → Prop) → Act → World → Prop}
def after1 (ops : Array Oper) (S : World → Prop) (E R : Nat → Bool) (i : Nat) (w w' : World) : Prop := (E i = true → w' = w) ∧ (E i = false → needs ops R i = true → S w')
def anyL (opw : Nat → (Act → World → Prop) → Act → World → Prop) (ops : Array Oper) (Q : Exit → Act → World → Prop) (S : World → Prop) (E R : Nat → Bool) : Nat → Array Bool → Act → World → Prop
 | 0, listed, a, w => Region.ready .any ops listed = [] ∧ Q .normal a w
 | fuel + 1, listed, a, w =>
  (Region.ready .any ops listed = [] → Q .normal a w) ∧
  ∀ i ∈ Region.ready .any ops listed, opw i (fun a' w' => after1 ops S E R i w w' ∧ anyL opw ops Q S E R fuel (listed.setIfInBounds i true) a' w') a w
theorem any_of_L {E R : Nat → Bool} : ∀ (fuel : Nat) (listed : Array Bool) (a : Act) (w : World), anyL (wpOp P ops Q) ops Q S E R fuel listed a w → wpAny P .any ops Q fuel listed a w
 | 0, _, _, _, h => h
 | fuel + 1, _, _, _, h => ⟨h.1, fun i hi => wpOp_mono (fun a' w' h' => any_of_L fuel _ a' w' h'.2) (h.2 i hi)⟩
theorem anyIn_of_L {E R : Nat → Bool} {F : Fence} {n : Nat} : ∀ (fuel : Nat) (listed : Array Bool) (a : Act) (w : World), anyL (wpOpIn F n P ops Q) ops Q S E R fuel listed a w → wpAnyIn F n P .any ops Q fuel listed a w
 | 0, _, _, _, h => h
 | fuel + 1, _, _, _, h => ⟨h.1, fun i hi => wpOpIn_mono (fun a' w' h' => anyIn_of_L fuel _ a' w' h'.2) (h.2 i hi)⟩
theorem opSem_wpOp (hQ : ∀ c a w, ¬ Q (.panic c) a w) : OpSem P ops (wpOp P ops Q) where
 mono h h' := wpOp_mono h h'
 yields hi hy hS h := hy.wpOp hi hS h
 put hj hap hsi hsj hy h := wpOp_putIf hj hap hsi hsj (fun _ _ _ h => absurd h (hQ _ _ _)) hy h
theorem opIn_putIf {F : Fence} {n : Nat} (hF : ∀ f, F.fn f) (hro : F.round = none) (hQ : ∀ c a w, ¬ Q (.panic c) a w) {j : Nat} {oi oj : Oper} {v : Value} (hj : ops[j]? = some oj) (hap : oi.apart ops oj = true)
  (hsi : ∀ cs b, oi.op ≠ .select cs b) (hsj : ∀ cs b, oj.op ≠ .select cs b) {K : Act → World → Prop} {a : Act} {w : World}
  (hy : YieldsIf P ops S oi v a) (h : wpOpIn F n P ops Q j K (a.put oi.dst v) w) :
  wpOpIn F n P ops Q j (fun a' w' => YieldsIf P ops S oi v a' ∧ K (a'.put oi.dst v) w') a w := by
 obtain ⟨h1, h2, h3⟩ := Oper.apart_spec hap
 have keep : ∀ (a : Act), YieldsIf P ops S oi v a → ∀ u, YieldsIf P ops S oi v (a.put oj.dst u) := fun a hy u =>
  hy.of_same (execOp_put oi hsi a oj.dst u h3) (wanted_put oi a oj.dst u h3)
 have keepD : ∀ d, YieldsIf P ops S oi v { a with defers := d :: a.defers } := fun d => hy.of_same rfl rfl
 unfold wpOpIn at *
 simp only [hj] at *
 rw [wanted_put oj a oi.dst v h1] at h
 split
 ·rename_i hw
  simp only [hw, if_true] at h
  unfold Oper.wpIn at *
  refine ⟨fun f _ => hF f, ?_⟩
  have h := h.2
  rw [hro, Oper.semAt_none, execOp_put oj hsj a oi.dst v h1] at h
  rw [hro, Oper.semAt_none]
  generalize (execOp a.eval oj).run P w = r at *
  cases r with
  | ok x w' =>
   cases x <;> simp only [Oper.uponIn] at h ⊢
   case value u => exact ⟨keep a hy u, by rw [← Act.put_comm a v u h2]; exact h⟩
   case skip => exact ⟨keep a hy _, by rw [← Act.put_comm a v undef h2]; exact h⟩
   case defer d =>
    refine ⟨keep _ (keepD d) _, ?_⟩
    rw [← Act.put_comm _ v undef h2, ← Act.put_defers]
    exact h
   case enter f args =>
    refine ⟨h.1, CallsIn.mono h.2 fun e w'' he => ?_⟩
    cases e with
    | returned u => exact ⟨keep a hy u, by rw [← Act.put_comm a v u h2]; exact he⟩
    | panicked c => exact absurd he (hQ _ _ _)
    | outgrown => exact he
   case row row args => exact ⟨h.1, RowsIn.mono h.2 fun u w'' he => ⟨keep a hy u, by rw [← Act.put_comm a v u h2]; exact he⟩⟩
   case round l f tmps assign body =>
    refine ⟨h.1, RoundIn.mono h.2 fun e w'' he => ?_⟩
    cases e with
    | returned u => exact ⟨keep a hy u, by rw [← Act.put_comm a v u h2]; exact he⟩
    | panicked c => exact absurd he (hQ _ _ _)
    | outgrown => exact he
  | halt x w' =>
   cases x <;> simp only [Oper.uponIn] at h ⊢
   case panic u => exact absurd h (hQ _ _ _)
 ·rename_i hw
  simp only [hw] at h
  exact ⟨fun f _ => hF f, keep a hy _, by rw [← Act.put_comm a v undef h2]; exact h.2⟩
theorem opSem_wpOpIn {F : Fence} {n : Nat} (hF : ∀ f, F.fn f) (hro : F.round = none) (hQ : ∀ c a w, ¬ Q (.panic c) a w) : OpSem P ops (wpOpIn F n P ops Q) where
 mono h h' := wpOpIn_mono h h'
 yields hi hy hS h := by
  unfold wpOpIn
  simp only [hi]
  rcases hy with ⟨hw, hv⟩ | ⟨hw, rfl⟩
  ·simp only [hw, if_true, Oper.wpIn, hro, Oper.semAt_none, hv _ hS, Oper.uponIn]
   exact ⟨fun f _ => hF f, h⟩
  ·simp only [hw, Bool.false_eq_true, if_false]
   exact ⟨fun f _ => hF f, h⟩
 put hj hap hsi hsj hy h := opIn_putIf hF hro hQ hj hap hsi hsj hy h
theorem closed_set {listed : Array Bool} {j : Nat} {oj : Oper} (hc : Closed ops listed) (hoj : ops[j]? = some oj) (hall : ∀ e ∈ oj.after, Region.binds .any e = true → listed.getD e.on false = true) : Closed ops (listed.setIfInBounds j true) := by
 intro k o ho hk e he hb
 by_cases hjk : j = k
 ·subst hjk
  rw [hoj] at ho
  cases ho
  exact getD_set_true (hall e he hb)
 ·rw [getD_set_ne false hjk] at hk
  exact getD_set_true (hc k o ho hk e he hb)
theorem anyL_first (X : OpSem P ops opw) {E R : Nat → Bool} {i : Nat} {oi : Oper} {v : Value} (hi : ops[i]? = some oi) (hE : E i = true) (hsel : ∀ (j : Nat) (o : Oper) cs b, ops[j]? = some o → o.op ≠ .select cs b) :
  ∀ (fuel : Nat) (listed : Array Bool) (a : Act) (w : World), Closed ops listed →
   (∀ j oj, ops[j]? = some oj → j ≠ i → listed.getD j true = false → (∀ e ∈ oj.after, Region.binds .any e = true → e.on ≠ i) → oi.apart ops oj = true) →
   i ∈ Region.ready .any ops listed → YieldsIf P ops (fun w => R i = true → S w) oi v a → (R i = true → S w) →
   anyL opw ops Q S E R fuel (listed.setIfInBounds i true) (a.put oi.dst v) w → anyL opw ops Q S E R (fuel + 1) listed a w := by
 have hlt : i < ops.size := (Array.getElem?_eq_some_iff.1 hi).1
 have hself : ∀ w : World, after1 ops S E R i w w := fun w => ⟨fun _ => rfl, fun h => by rw [hE] at h; cases h⟩
 intro fuel
 induction fuel with
 | zero =>
  intro listed a w _ _ hr hy hS H
  refine ⟨fun h => (by rw [h] at hr; cases hr), fun j hj => ?_⟩
  by_cases hji : j = i
  ·subst hji
   exact X.yields hi hy hS ⟨hself w, H⟩
  ·have := ready_mono hj hji
   rw [H.1] at this
   cases this
 | succ fuel ih =>
  intro listed a w hc hfree hr hy hS H
  refine ⟨fun h => (by rw [h] at hr; cases hr), fun j hj => ?_⟩
  by_cases hji : j = i
  ·subst hji
   exact X.yields hi hy hS ⟨hself w, H⟩
  ·have h1 := H.2 j (ready_mono hj hji)
   obtain ⟨hjun, oj, hoj, hall⟩ := mem_ready.1 hj
   have hiun : listed.getD i false = false := by
    have h0 := (mem_ready.1 hr).1
    rcases Nat.lt_or_ge i listed.size with h' | h'
    ·simpa [h'] using h0
    ·simp [Array.getElem?_eq_none h'] at h0 ⊢
   have hnot : ∀ e ∈ oj.after, Region.binds .any e = true → e.on ≠ i := fun e he hb heq => by
    have h1 := hall e he hb
    rw [heq, hiun] at h1
    cases h1
   have h2 := X.put hoj (hfree j oj hoj hji hjun hnot) (fun cs b => hsel i oi cs b hi) (fun cs b => hsel j oj cs b hoj) hy h1
   have hn : R i = true → needs ops R j = true := fun hR => by
    unfold needs
    rw [List.any_eq_true]
    refine ⟨i, List.mem_range.2 hlt, ?_⟩
    have hb : ((Region.before ops).getD j 0).testBit i = false := by
     cases hb : ((Region.before ops).getD j 0).testBit i with
     | false => rfl
     | true =>
      have := before_listed hc j j (Nat.le_refl _) oj hoj hall i hb
      rw [hiun] at this
      cases this
    rw [hb]
    simp [hR, Ne.symm hji]
   have hfree' : ∀ k ok, ops[k]? = some ok → k ≠ i → (listed.setIfInBounds j true).getD k true = false →
     (∀ e ∈ ok.after, Region.binds .any e = true → e.on ≠ i) → oi.apart ops ok = true := fun k ok hk hki hun hno => by
    refine hfree k ok hk hki ?_ hno
    by_cases hjk : j = k
    ·subst hjk; exact hjun
    ·rw [getD_set_ne true hjk] at hun; exact hun
   refine X.mono (fun a' w' h3 => ⟨h3.2.1, ih (listed.setIfInBounds j true) a' w' (closed_set hc hoj hall) hfree' (ready_mono hr (Ne.symm hji)) h3.1 (fun hR => ?_) ?_⟩) h2
   ·cases hEj : E j with
    | true => rw [h3.2.1.1 hEj]; exact hS hR
    | false => exact h3.2.1.2 hEj (hn hR)
   ·rw [Array.setIfInBounds_comm _ _ hji]
    exact h3.2.2
/-! ### The plan -/
def early : Op → Bool
 | .move _ | .assign _ | .pick _ _ _ | .load _ _ | .nilCheck _ | .binOp _ _ _ _ _ | .unOp _ _ _ | .convert _ _ _ | .fieldAddr _ _ _ | .field _ _ _ | .indexAddr _ _ _ | .index _ _ _ | .lookup _ _ _ _
 | .extract _ _ | .slice _ _ _ _ _ | .makeInterface _ _ | .build _ _ | .typeAssert _ _ _ _ => true
 | .call c => match c.callee with
  | .builtin .len | .builtin .cap | .builtin .min | .builtin .max => true
  | _ => false
 | _ => false
def earlyAt (ops : Array Oper) (i : Nat) : Bool := ((ops[i]?).map fun o => early o.op).getD false
def reads : Op → Bool
 | .load _ _ | .convert _ _ _ | .lookup _ _ _ _ | .index _ _ _ | .binOp _ _ _ _ _ => true
 | .call _ => true
 | _ => false
def readsAt (ops : Array Oper) (i : Nat) : Bool := ((ops[i]?).map fun o => early o.op && (match o.op with | .binOp _ _ _ _ _ => false | .call c => (match c.callee with | .builtin .len | .builtin .cap | .builtin .min | .builtin .max => false | _ => true) | op => reads op)).getD false
def planGo (ops : Array Oper) : Nat → Array Bool → Option (List (Nat × Bool))
 | 0, listed => if Region.ready .any ops listed = [] then some [] else none
 | fuel + 1, listed =>
  match (Region.ready .any ops listed).find? (fun i => earlyAt ops i && Region.free .any ops listed i) with
  | some i => (planGo ops fuel (listed.setIfInBounds i true)).map ((i, true) :: ·)
  | none => match Region.ready .any ops listed with
   | [] => some []
   | [i] => match planGo ops fuel (listed.setIfInBounds i true) with
    | some rest => if (earlyAt ops i == false) && (needs ops (readsAt ops) i || rest.all (fun x => !readsAt ops x.1)) then some ((i, false) :: rest) else none
    | none => none
   | _ => none
def plan (ops : Array Oper) : Option (List (Nat × Bool)) := if Region.noSelect ops then planGo ops ops.size (Array.replicate ops.size false) else none
def line (opw : Nat → (Act → World → Prop) → Act → World → Prop) (P : Program) (ops : Array Oper) (Q : Exit → Act → World → Prop) (S : World → Prop) : List (Nat × Bool) → Act → World → Prop
 | [], a, w => Q .normal a w
 | (i, true) :: rest, a, w => ∃ o v, ops[i]? = some o ∧ YieldsIf P ops (fun w => readsAt ops i = true → S w) o v a ∧ line opw P ops Q S rest (a.put o.dst v) w
 | (i, false) :: rest, a, w => opw i (fun a' w' => (needs ops (readsAt ops) i = true → S w') ∧ line opw P ops Q S rest a' w') a w
theorem anyL_of_line (X : OpSem P ops opw) (hsel : Region.noSelect ops = true) :
  ∀ (fuel : Nat) (listed : Array Bool) (pl : List (Nat × Bool)) (a : Act) (w : World), Closed ops listed → planGo ops fuel listed = some pl → ((pl.any fun x => readsAt ops x.1) = true → S w) → line opw P ops Q S pl a w →
   anyL opw ops Q S (earlyAt ops) (readsAt ops) fuel listed a w := by
 intro fuel
 induction fuel with
 | zero =>
  intro listed pl a w _ hp _ h
  unfold planGo at hp
  split at hp
  ·rename_i hr
   obtain rfl := (Option.some.inj hp).symm
   exact ⟨hr, h⟩
  ·cases hp
 | succ fuel ih =>
  intro listed pl a w hc hp hS h
  unfold planGo at hp
  split at hp
  ·rename_i i hf
   obtain ⟨rest, hrest, rfl⟩ := Option.map_eq_some_iff.1 hp
   have hm := List.mem_of_find?_eq_some hf
   have hb := List.find?_some hf
   simp only [Bool.and_eq_true] at hb
   obtain ⟨o, v, ho, hy, hl⟩ := h
   obtain ⟨_, o', ho', hall⟩ := mem_ready.1 hm
   rw [ho] at ho'
   cases ho'
   refine anyL_first X ho hb.1 (Region.noSelect_spec hsel) fuel listed a w hc (Region.free_spec ho hb.2) hm hy (fun hR => hS (by simp [hR])) (ih _ _ _ _ (closed_set hc ho hall) hrest (fun hany => hS ?_) hl)
   rw [List.any_cons, hany, Bool.or_true]
  ·split at hp
   ·rename_i hr
    obtain rfl := (Option.some.inj hp).symm
    refine ⟨fun _ => h, fun i hi => ?_⟩
    rw [hr] at hi
    cases hi
   ·rename_i i hr
    split at hp
    ·rename_i rest hrest
     split at hp
     ·rename_i hcond
      obtain rfl := (Option.some.inj hp).symm
      rw [Bool.and_eq_true] at hcond
      have he : earlyAt ops i = false := by simpa using hcond.1
      have hm : i ∈ Region.ready .any ops listed := by rw [hr]; exact List.mem_singleton.2 rfl
      obtain ⟨_, o', ho', hall⟩ := mem_ready.1 hm
      refine ⟨fun h0 => (by rw [hr] at h0; cases h0), fun j hj => ?_⟩
      rw [hr] at hj
      obtain rfl := List.mem_singleton.1 hj
      refine X.mono (fun a' w' h' => ⟨⟨fun h => (by rw [he] at h; cases h), fun _ => h'.1⟩, ih _ _ _ _ (closed_set hc ho' hall) hrest (fun hany => ?_) h'.2⟩) h
      rcases Bool.or_eq_true _ _ ▸ hcond.2 with hc | hc
      ·exact h'.1 hc
      ·rw [List.any_eq_true] at hany
       obtain ⟨x, hx, hx2⟩ := hany
       have := List.all_eq_true.1 hc x hx
       simp [hx2] at this
     ·cases hp
    ·cases hp
   ·cases hp
theorem closed_start (ops : Array Oper) : Closed ops (Array.replicate ops.size false) := by
 intro k o _ hk
 rw [Array.getD_eq_getD_getElem?, Array.getElem?_replicate] at hk
 split at hk <;> cases hk
def Calm (Q : Exit → Act → World → Prop) : Exit → Act → World → Prop
 | .panic _, _, _ => False
 | .outgrown, _, _ => False
 | e, a, w => Q e a w
theorem Calm.imp {Q : Exit → Act → World → Prop} : ∀ e a w, Calm Q e a w → Q e a w := fun e a w h => by
 cases e <;> first | exact h | exact h.elim
theorem any_of_plan (S : World → Prop) {a : Act} {w : World} {pl : List (Nat × Bool)} (hp : plan ops = some pl) (hS : S w) (h : line (wpOp P ops (Calm Q)) P ops (Calm Q) S pl a w) :
  wpAny P .any ops (Calm Q) ops.size (Array.replicate ops.size false) a w := by
 refine any_of_L (S := S) (E := earlyAt ops) (R := readsAt ops) _ _ _ _ ?_
 unfold plan at hp
 split at hp
 ·rename_i hs
  exact anyL_of_line (opSem_wpOp (fun _ _ _ h => h)) hs _ _ _ _ _ (closed_start ops) hp (fun _ => hS) h
 ·cases hp
theorem anyIn_of_plan {F : Fence} {n : Nat} (hF : ∀ f, F.fn f) (hro : F.round = none) (S : World → Prop) {a : Act} {w : World} {pl : List (Nat × Bool)} (hp : plan ops = some pl) (hS : S w)
  (h : line (wpOpIn F n P ops (Calm Q)) P ops (Calm Q) S pl a w) : wpAnyIn F n P .any ops (Calm Q) ops.size (Array.replicate ops.size false) a w := by
 refine anyIn_of_L (S := S) (E := earlyAt ops) (R := readsAt ops) _ _ _ _ ?_
 unfold plan at hp
 split at hp
 ·rename_i hs
  exact anyL_of_line (opSem_wpOpIn hF hro (fun _ _ _ h => h)) hs _ _ _ _ _ (closed_start ops) hp (fun _ => hS) h
 ·cases hp
theorem wp_region_line (S : World → Prop) {id : Nat} {a : Act} {w : World} {pl : List (Nat × Bool)} (hm : P.follows .mixedOrders = true) (hp : plan ops = some pl) (hS : S w.drew)
  (h : line (wpOp P ops (Calm Q)) P ops (Calm Q) S pl a w.drew) : (Code.region id ops true).wp P Q a w :=
 wp_mono (wp_region_any hm (any_of_plan S hp hS h)) Calm.imp
theorem wpIn_region_lineW (S : World → Prop) {id n : Nat} {a : Act} {w : World} {pl : List (Nat × Bool)} (hm : P.follows .mixedOrders = true) (hp : plan ops = some pl) (hS : S w.drew)
  (h : line (wpOpIn Fence.wide n P ops (Calm Q)) P ops (Calm Q) S pl a w.drew) : (Code.region id ops true).wpIn Fence.wide n P Q a w :=
 wpIn_mono (wpIn_region_any hm (anyIn_of_plan (fun _ => trivial) rfl S hp hS h)) Calm.imp
theorem line_take {i : Nat} {rest : List (Nat × Bool)} {a : Act} {w : World} {o : Oper} {v : Value} (ho : ops[i]? = some o) (hw : Region.wanted o (yielded ops a.tmps) = true)
  (hv : ∀ w, (readsAt ops i = true → S w) → (execOp a.eval o).run P w = .ok (.value v) w) (h : line opw P ops Q S rest (a.put o.dst v) w) : line opw P ops Q S ((i, true) :: rest) a w := ⟨o, v, ho, .inl ⟨hw, hv⟩, h⟩
theorem line_get {i : Nat} {rest : List (Nat × Bool)} {a : Act} {w : World} {o : Oper} (ho : ops[i]? = some o) (hw : Region.wanted o (yielded ops a.tmps) = true)
  (h : ∀ K : Act → Prop, (∀ a', line opw P ops Q S rest a' w → K a') → ∃ v, (∀ w, (readsAt ops i = true → S w) → (execOp a.eval o).run P w = .ok (.value v) w) ∧ K (a.put o.dst v)) : line opw P ops Q S ((i, true) :: rest) a w := by
 obtain ⟨v, h1, h2⟩ := h _ (fun _ h => h)
 exact ⟨o, v, ho, .inl ⟨hw, h1⟩, h2⟩
theorem line_past {i : Nat} {rest : List (Nat × Bool)} {a : Act} {w : World} {o : Oper} (ho : ops[i]? = some o) (hw : Region.wanted o (yielded ops a.tmps) = false)
  (h : ∀ K : Act → Prop, (∀ a', line opw P ops Q S rest a' w → K a') → K (a.put o.dst undef)) : line opw P ops Q S ((i, true) :: rest) a w :=
 ⟨o, undef, ho, .inr ⟨hw, rfl⟩, h _ (fun _ h => h)⟩
theorem line_pass {i : Nat} {rest : List (Nat × Bool)} {a : Act} {w : World} {o : Oper} (ho : ops[i]? = some o) (hw : Region.wanted o (yielded ops a.tmps) = false)
  (h : line opw P ops Q S rest (a.put o.dst undef) w) : line opw P ops Q S ((i, true) :: rest) a w := ⟨o, undef, ho, .inr ⟨hw, rfl⟩, h⟩
theorem line_do {i : Nat} {rest : List (Nat × Bool)} {a : Act} {w : World} {o : Oper} {Q' : Exit → Act → World → Prop} (ho : ops[i]? = some o) (hw : Region.wanted o (yielded ops a.tmps) = true)
  (h : ∀ K : Act → World → Prop, (∀ a' w', (needs ops (readsAt ops) i = true → S w') → line (wpOp P ops Q') P ops Q S rest a' w' → K a' w') → o.wp P a w K Q') : line (wpOp P ops Q') P ops Q S ((i, false) :: rest) a w := by
 unfold line wpOp
 rw [ho]
 simp only [hw, if_true]
 exact .inl (h _ fun a' w' h1 h2 => ⟨h1, h2⟩)
theorem line_doIn {F : Fence} {n i : Nat} {rest : List (Nat × Bool)} {a : Act} {w : World} {o : Oper} {Q' : Exit → Act → World → Prop} (ho : ops[i]? = some o) (hw : Region.wanted o (yielded ops a.tmps) = true)
  (h : ∀ K : Act → World → Prop, (∀ a' w', (needs ops (readsAt ops) i = true → S w') → line (wpOpIn F n P ops Q') P ops Q S rest a' w' → K a' w') → o.wpIn F n P a w K Q') : line (wpOpIn F n P ops Q') P ops Q S ((i, false) :: rest) a w := by
 unfold line wpOpIn
 rw [ho]
 simp only [hw, if_true]
 exact h _ fun a' w' h1 h2 => ⟨h1, h2⟩
theorem line_miss {i : Nat} {rest : List (Nat × Bool)} {a : Act} {w : World} {o : Oper} {Q' : Exit → Act → World → Prop} (ho : ops[i]? = some o) (hw : Region.wanted o (yielded ops a.tmps) = false)
  (hS : needs ops (readsAt ops) i = true → S w) (h : line (wpOp P ops Q') P ops Q S rest (a.put o.dst undef) w) : line (wpOp P ops Q') P ops Q S ((i, false) :: rest) a w := by
 unfold line wpOp
 rw [ho]
 simp only [hw, Bool.false_eq_true, if_false]
 exact ⟨hS, h⟩
theorem line_missIn {F : Fence} {n i : Nat} {rest : List (Nat × Bool)} {a : Act} {w : World} {o : Oper} {Q' : Exit → Act → World → Prop} (hF : ∀ f, F.fn f) (ho : ops[i]? = some o) (hw : Region.wanted o (yielded ops a.tmps) = false)
  (hS : needs ops (readsAt ops) i = true → S w) (h : line (wpOpIn F n P ops Q') P ops Q S rest (a.put o.dst undef) w) : line (wpOpIn F n P ops Q') P ops Q S ((i, false) :: rest) a w := by
 unfold line wpOpIn
 rw [ho]
 simp only [hw, Bool.false_eq_true, if_false]
 exact ⟨fun f _ => hF f, hS, h⟩
theorem no_need {R : Nat → Bool} {i : Nat} {X : Prop} (h : needs ops R i = false) : needs ops R i = true → X := fun h' => by rw [h] at h'; cases h'
theorem line_nil {a : Act} {w : World} (h : Q .normal a w) : line opw P ops (Calm Q) S [] a w := h
end
/-! ### A region in the round of a range over a function -/
theorem opIn_of_op {l n : Nat} {P : Program} {o : Oper} {a : Act} {w : World} {K : Act → World → Prop} {Q : Exit → Act → World → Prop} (hdef : ∀ c, o.op ≠ .defer c) (h : o.wp P a w K Q) :
  o.wpIn (Fence.wide.inRound l) n P a w K Q := by
 refine ⟨fun _ _ => trivial, ?_⟩
 rw [Oper.semAt_eq _ _ _ hdef]
 unfold Oper.wp at h
 generalize (execOp a.eval o).run P w = r at *
 cases r with
 | ok x w' =>
  cases x <;> simp only [Oper.upon] at h <;> simp only [Oper.uponIn]
  case value => exact h
  case skip => exact h
  case defer => exact h
  case enter f args => exact ⟨fun e => (by cases e), CallsIn.inRound l (callsIn_wide.2 h)⟩
  case row row args => exact ⟨fun e => (by cases e), fun c cs _ => by obtain ⟨v, w', r, s⟩ := h c cs; exact ⟨v, w', r, stepsIn_wide.2 s⟩⟩
 | halt x w' => cases x <;> simp only [Oper.upon] at h <;> simp only [Oper.uponIn] <;> exact h
theorem anyIn_of_any {l n : Nat} {P : Program} {ops : Array Oper} {Q : Exit → Act → World → Prop} {md : Region.Mode} (hdef : ∀ (i : Nat) (o : Oper) (c : Call), ops[i]? = some o → o.op ≠ .defer c) (hQ : ¬ LetsOut Q) :
  ∀ (fuel : Nat) (listed : Array Bool) (a : Act) (w : World), wpAny P md ops Q fuel listed a w → wpAnyIn (Fence.wide.inRound l) n P md ops Q fuel listed a w
 | 0, _, _, _, h => h
 | fuel + 1, listed, a, w, h => ⟨h.1, fun i hi => by
   have h1 := wpOp_mono (fun a' w' h' => anyIn_of_any (l := l) (n := n) hdef hQ fuel _ a' w' h') (h.2 i hi)
   unfold wpOp at h1
   unfold wpOpIn
   split
   ·rename_i ho
    simp only [ho] at h1
    exact h1
   ·rename_i o ho
    simp only [ho] at h1
    split
    ·rename_i hw
     simp only [hw, if_true] at h1
     rcases h1 with h1 | h1
     ·exact opIn_of_op (fun c => hdef i o c ho) h1
     ·exact absurd h1.2 hQ
    ·rename_i hw
     simp only [hw] at h1
     exact ⟨fun _ _ => trivial, h1⟩⟩
def noDefer (ops : Array Oper) : Bool := ops.all fun o => match o.op with | .defer _ => false | _ => true
theorem noDefer_spec {ops : Array Oper} (h : noDefer ops = true) (i : Nat) (o : Oper) (c : Call) (ho : ops[i]? = some o) : o.op ≠ .defer c := by
 intro heq
 have := Array.all_eq_true_iff_forall_mem.1 h o (Array.mem_of_getElem? ho)
 simp [heq] at this
theorem wpIn_region_line {P : Program} {ops : Array Oper} {Q : Exit → Act → World → Prop} (S : World → Prop) {l n id : Nat} {a : Act} {w : World} {pl : List (Nat × Bool)} (hm : P.follows .mixedOrders = true) (hp : plan ops = some pl) (hd : noDefer ops = true) (hS : S w.drew)
  (h : line (wpOp P ops (Calm Q)) P ops (Calm Q) S pl a w.drew) : (Code.region id ops true).wpIn (Fence.wide.inRound l) n P Q a w :=
 wpIn_mono (wpIn_region_any hm (anyIn_of_any (noDefer_spec hd) (fun ⟨_, _, h⟩ => h) _ _ _ _ (any_of_plan S hp hS h))) Calm.imp
end Go.Proofs.YtekcoeonlfmebaaGreatDoor.Kit
