/- Slices of a call's own: a row of cells in a block that nobody else writes; append onto it, from whatever source. -/
import Derived.Test.YtejmndfdmikfaaaDoorKit
import Derived.Laws.CopyRow
import Derived.Laws.AppendOwn
import Derived.Maps.AppendAt
namespace Go.Proofs.YtejmndfdmikfaaaDoor.Kit
open Go Go.RowKit

/-- The block that a slice's address names. -/
def Bk (A : Option Addr) (k : Nat) : Prop := A.map Addr.block = some k
theorem Bk.none_ {k : Nat} : ¬ Bk none k := by simp [Bk]
theorem Bk.some_ {a : Addr} {k : Nat} : Bk (some a) k ↔ a.block = k := by simp [Bk]

/-- The slice of address A and capacity c, of n elements of sz cells, owns the cells xs. -/
def Own (w : World) (e : TypeId) (sz : Nat) (A : Option Addr) (c n : Nat) (xs : List Value) : Prop :=
  xs.length = n * sz ∧ ((A = none ∧ c = 0 ∧ n = 0) ∨
    ∃ g cur, A = some ⟨g, 0, none⟩ ∧ w.heap[g]? = some (.cells cur e (0, 0)) ∧ n ≤ c ∧ c ≤ maxLen ∧ c * sz ≤ cur.size ∧ cur.toList.take (n * sz) = xs)

theorem Own.nil (w : World) (e : TypeId) (sz : Nat) : Own w e sz none 0 0 [] := ⟨by simp, .inl ⟨rfl, rfl, rfl⟩⟩
theorem Own.len {w : World} {e : TypeId} {sz n c : Nat} {A : Option Addr} {xs : List Value} (h : Own w e sz A c n xs) : xs.length = n * sz := h.1
theorem Own.lt {w : World} {e : TypeId} {sz n c : Nat} {A : Option Addr} {xs : List Value} (h : Own w e sz A c n xs) : ∀ k, Bk A k → k < w.heap.size := by
  intro k hk
  rcases h.2 with ⟨rfl, _⟩ | ⟨g, cur, rfl, hg, _⟩
  · exact absurd hk Bk.none_
  · obtain rfl : g = k := Bk.some_.1 hk
    exact (Array.getElem?_eq_some_iff.1 hg).1
theorem Own.max {w : World} {e : TypeId} {sz n c : Nat} {A : Option Addr} {xs : List Value} (h : Own w e sz A c n xs) : n ≤ maxLen := by
  rcases h.2 with ⟨_, _, rfl⟩ | ⟨g, cur, _, _, h1, h2, _⟩ <;> omega
theorem Own.cap {w : World} {e : TypeId} {sz n c : Nat} {A : Option Addr} {xs : List Value} (h : Own w e sz A c n xs) : n ≤ c ∧ c ≤ maxLen := by
  rcases h.2 with ⟨_, rfl, rfl⟩ | ⟨g, cur, _, _, h1, h2, _⟩
  · exact ⟨Nat.le_refl _, by simp [maxLen]⟩
  · exact ⟨h1, h2⟩
theorem Own.form {w : World} {e : TypeId} {sz n c : Nat} {A : Option Addr} {xs : List Value} (h : Own w e sz A c n xs) : (A = none ∧ c = 0 ∧ n = 0) ∨ ∃ g, A = some ⟨g, 0, none⟩ := by
  rcases h.2 with h | ⟨g, _, rfl, _⟩
  · exact .inl h
  · exact .inr ⟨g, rfl⟩
theorem Own.some_ {w : World} {e : TypeId} {sz n c : Nat} {A : Option Addr} {xs : List Value} (h : Own w e sz A c n xs) (hn : 0 < n) : ∃ g, A = some ⟨g, 0, none⟩ := by
  rcases h.form with ⟨_, _, h0⟩ | h
  · omega
  · exact h
/-- It stays what it is where its block stays. -/
theorem Own.keep {w w' : World} {e : TypeId} {sz n c : Nat} {A : Option Addr} {xs : List Value} (h : Own w e sz A c n xs) (hb : ∀ k, Bk A k → w'.heap[k]? = w.heap[k]?) : Own w' e sz A c n xs := by
  refine ⟨h.1, ?_⟩
  rcases h.2 with h | ⟨g, cur, rfl, hg, r⟩
  · exact .inl h
  · exact .inr ⟨g, cur, rfl, by rw [hb g (Bk.some_.2 rfl)]; exact hg, r⟩
theorem cell_of_block {w : World} {g j : Nat} {cur : Array Value} {e : TypeId} {fr : Nat × Nat} (hg : w.heap[g]? = some (.cells cur e fr)) : w.cell? ⟨g, j, none⟩ = cur[j]? := by
  simp [World.cell?, hg]
theorem Own.cell {w : World} {e : TypeId} {sz n c : Nat} {g : Nat} {xs : List Value} (h : Own w e sz (some ⟨g, 0, none⟩) c n xs) {j : Nat} {u : Value} (hu : xs[j]? = some u) : w.cell? ⟨g, j, none⟩ = some u := by
  rcases h.2 with ⟨h, _⟩ | ⟨g', cur, e', hg, h1, h2, h3, h4⟩
  · cases h
  · cases e'
    rw [cell_of_block hg]
    rw [← h4, List.getElem?_take] at hu
    split at hu
    · simpa using hu
    · cases hu
theorem Own.frozen {w : World} {e : TypeId} {sz n c : Nat} {g : Nat} {xs : List Value} (h : Own w e sz (some ⟨g, 0, none⟩) c n xs) (j : Nat) : w.frozen? ⟨g, j, none⟩ = false := by
  rcases h.2 with ⟨h, _⟩ | ⟨g', cur, e', hg, _⟩
  · cases h
  · cases e'
    simp [World.frozen?, hg]

/-! ### What changes -/
theorem Kp.refl (S : Nat → Prop) (w : World) : Kp S w w := ⟨rfl, rfl, rfl, Nat.le_refl _, fun _ _ _ => rfl⟩
theorem Kp.trans {S T U : Nat → Prop} {a b c : World} (h : Kp S a b) (k : Kp T b c) (hS : ∀ i, i < a.heap.size → S i → U i) (hT : ∀ i, i < a.heap.size → T i → U i) : Kp U a c :=
  ⟨k.os.trans h.os, k.tape.trans h.tape, k.output.trans h.output, Nat.le_trans h.size k.size, fun i hi hu =>
    (k.block i (Nat.lt_of_lt_of_le hi h.size) (fun t => hu (hT i hi t))).trans (h.block i hi (fun s => hu (hS i hi s)))⟩
theorem Kp.mono {S U : Nat → Prop} {a b : World} (h : Kp S a b) (hS : ∀ i, i < a.heap.size → S i → U i) : Kp U a b := ⟨h.os, h.tape, h.output, h.size, fun i hi hu => h.block i hi (fun s => hu (hS i hi s))⟩
theorem Kp.alloc (S : Nat → Prop) (w : World) (o : Obj) : Kp S w (w.alloc o) := ⟨rfl, rfl, rfl, by simp, fun k hk _ => Below.heap_alloc _ _ _ hk⟩
theorem Kp.drew (S : Nat → Prop) (w : World) : Kp S w w.drew := ⟨rfl, rfl, rfl, Nat.le_refl _, fun _ _ _ => rfl⟩
theorem Kp.drewN (S : Nat → Prop) (w : World) (n : Nat) : Kp S w (w.drewN n) := ⟨rfl, rfl, rfl, Nat.le_refl _, fun _ _ _ => rfl⟩
theorem Kp.setCell {S : Nat → Prop} (w : World) (a : Addr) (v : Value) (h : S a.block) : Kp S w (w.setCell a v) :=
  ⟨rfl, rfl, rfl, by simp [World.setCell], fun k _ hk => Below.heap_setCell _ _ _ _ (fun e => hk (e ▸ h))⟩
theorem Kp.of_grown {w w' : World} {row : Option Nat} (h : w.grownBy w' row) : Kp (fun k => row = some k) w w' := ⟨h.os, h.tape, h.output, h.size, fun k hk hn => h.block k hk (fun e => hn e.symm)⟩
theorem Kp.below {w w' : World} {S : Nat → Prop} (h : Kp S w w') {B : Nat} (hB : B ≤ w.heap.size) (hS : ∀ k, k < B → ¬ S k) : Below B w w' := ⟨h.os, h.tape, h.output, h.size, fun k hk => h.block k (by omega) (hS k hk)⟩
theorem Kp.cell {w w' : World} {S : Nat → Prop} (h : Kp S w w') {a : Addr} (hl : a.block < w.heap.size) (hS : ¬ S a.block) : w'.cell? a = w.cell? a := World.cell?_of_block (w := w) (h.block a.block hl hS)
theorem Kp.cell_of {w w' : World} {S : Nat → Prop} (h : Kp S w w') {a : Addr} {v : Value} (hc : w.cell? a = some v) (hS : ¬ S a.block) : w'.cell? a = some v := (h.cell (World.block_lt_of_cell? w a hc) hS).trans hc
theorem Own.kp {w w' : World} {S : Nat → Prop} {e : TypeId} {sz n c : Nat} {A : Option Addr} {xs : List Value} (h : Own w e sz A c n xs) (hk : Kp S w w') (hS : ∀ k, Bk A k → ¬ S k) : Own w' e sz A c n xs :=
  h.keep fun k hb => hk.block k (h.lt k hb) (hS k hb)
/-- Nothing that was there has changed. -/
abbrev New (w w' : World) : Prop := Kp (fun _ => False) w w'
theorem New.below {w w' : World} (h : New w w') : Below w.heap.size w w' := Kp.below h (Nat.le_refl _) (fun _ _ => id)
theorem Own.new {w w' : World} {e : TypeId} {sz n c : Nat} {A : Option Addr} {xs : List Value} (h : Own w e sz A c n xs) (hk : New w w') : Own w' e sz A c n xs := h.kp hk (fun _ _ => id)
theorem New.cell {w w' : World} (h : New w w') {a : Addr} {v : Value} (hc : w.cell? a = some v) : w'.cell? a = some v := Kp.cell_of h hc id
theorem RdB.kp {w w' : World} {S : Nat → Prop} {A : Option Addr} {l : List UInt8} (h : RdB w A l) (hk : Kp S w w') (hS : ∀ k, Bk A k → ¬ S k) : RdB w' A l := by
  intro hl
  obtain ⟨b, off, rfl, hc⟩ := h hl
  exact ⟨b, off, rfl, fun j hj => hk.cell_of (hc j hj) (hS b (Bk.some_.2 rfl))⟩
theorem RdB.new {w w' : World} {A : Option Addr} {l : List UInt8} (h : RdB w A l) (hk : New w w') : RdB w' A l := h.kp hk (fun _ _ => id)
theorem Own.rd {w : World} {e : TypeId} {c : Nat} {A : Option Addr} {l : List UInt8} (h : Own w e 1 A c l.length (bcs l)) : RdB w A l := by
  intro hl
  rcases h.form with ⟨_, _, h0⟩ | ⟨g, rfl⟩
  · exact absurd (List.eq_nil_of_length_eq_zero h0) hl
  · exact ⟨g, 0, rfl, fun j hj => by rw [Nat.zero_add]; exact h.cell (by simp [bcs, List.getElem?_eq_getElem hj])⟩
theorem Own.rd2 {w : World} {e : TypeId} {c n : Nat} {A : Option Addr} {l : List UInt8} (h : Own w e 1 A c n (bcs l)) : RdB w A l := by
  have hn : n = l.length := by have := h.1; simp [bcs] at this; exact this.symm
  subst hn
  exact h.rd

/-! ### slice expressions -/
/-- Where xs[lo:..] begins: A the address of xs, c its capacity. -/
def adv (A : Option Addr) (c lo sz : Nat) : Option Addr := if c = lo then A else A.map (·.add (lo * sz))
theorem adv_zero (A : Option Addr) (c sz : Nat) : adv A c 0 sz = A := by
  unfold adv
  split
  · rfl
  · cases A <;> simp [Addr.add]
theorem Bk.adv {A : Option Addr} {c lo sz k : Nat} : Bk (adv A c lo sz) k ↔ Bk A k := by
  unfold Kit.adv
  split
  · exact Iff.rfl
  · cases A with
    | none => simp [Bk]
    | some a => simp [Bk, Addr.add]; split <;> rfl
theorem RdB.adv {w : World} {A : Option Addr} {l : List UInt8} (h : RdB w A l) (c lo hi : Nat) (h2 : hi ≤ l.length) (hc : l.length ≤ c) : RdB w (adv A c lo 1) ((l.drop lo).take (hi - lo)) := by
  intro hne
  have hlen : 0 < ((l.drop lo).take (hi - lo)).length := List.length_pos_iff.2 hne
  rw [List.length_take, List.length_drop] at hlen
  obtain ⟨b, off, rfl, hcell⟩ := h (by intro e; subst e; simp at hlen)
  refine ⟨b, off + lo, ?_, fun j hj => ?_⟩
  · unfold Kit.adv
    rw [if_neg (by omega)]
    simp [Addr.add_lit]
  · rw [List.length_take, List.length_drop] at hj
    have := hcell (lo + j) (by omega)
    rw [show off + lo + j = off + (lo + j) by omega, this]
    simp
theorem RdB.from_ {w : World} {A : Option Addr} {l : List UInt8} (h : RdB w A l) (c lo : Nat) (hc : l.length ≤ c) : RdB w (Kit.adv A c lo 1) (l.drop lo) := by
  have := h.adv c lo l.length (Nat.le_refl _) hc
  rwa [List.take_of_length_le (by simp)] at this
theorem RdB.upto {w : World} {A : Option Addr} {l : List UInt8} (h : RdB w A l) (hi : Nat) : RdB w A (l.take hi) := by
  intro hne
  obtain ⟨b, off, rfl, hcell⟩ := h (by intro e; subst e; simp at hne)
  refine ⟨b, off, rfl, fun j hj => ?_⟩
  rw [List.length_take] at hj
  rw [hcell j (by omega)]
  simp

section
variable {P : Program} (t e : TypeId) (ht : P.underlying t = some (.slice e)) (sz : Nat) (hsz : (P.info? e).map (·.size) = some sz) (A : Option Addr) (n c : Nat)
include ht hsz
theorem run_slice_from (lo : Nat) (h1 : lo ≤ n) (w : World) : (Instr.slice t (.slice A n c) (some (.int .i64 lo)) none none).run P w = .ok (.slice (adv A c lo sz) (n - lo) (c - lo)) w := by
  obtain ⟨i, hi, rfl⟩ := Option.map_eq_some_iff.1 hsz
  simp [Instr.slice, run_underlying ht, Instr.sliceBounds, run_sliceBound, sizeOf, typeInfo, hi, adv, h1]
theorem run_slice_upto (hi : Nat) (h2 : hi ≤ c) (w : World) : (Instr.slice t (.slice A n c) none (some (.int .i64 hi)) none).run P w = .ok (.slice A hi c) w := by
  obtain ⟨i, hi0, rfl⟩ := Option.map_eq_some_iff.1 hsz
  simp [Instr.slice, run_underlying ht, Instr.sliceBounds, run_sliceBound, sizeOf, typeInfo, hi0, h2]
  cases A <;> simp [Addr.add]
theorem run_slice_mid (lo hi : Nat) (h1 : lo ≤ hi) (h2 : hi ≤ c) (w : World) : (Instr.slice t (.slice A n c) (some (.int .i64 lo)) (some (.int .i64 hi)) none).run P w = .ok (.slice (adv A c lo sz) (hi - lo) (c - lo)) w := by
  obtain ⟨i, hi0, rfl⟩ := Option.map_eq_some_iff.1 hsz
  simp [Instr.slice, run_underlying ht, Instr.sliceBounds, run_sliceBound, sizeOf, typeInfo, hi0, adv, h1, h2]
theorem run_slice_mid3 (lo hi mx : Nat) (h1 : lo ≤ hi) (h2 : hi ≤ mx) (h3 : mx ≤ c) (w : World) : (Instr.slice t (.slice A n c) (some (.int .i64 lo)) (some (.int .i64 hi)) (some (.int .i64 mx))).run P w = .ok (.slice (adv A mx lo sz) (hi - lo) (mx - lo)) w := by
  obtain ⟨i, hi0, rfl⟩ := Option.map_eq_some_iff.1 hsz
  simp [Instr.slice, run_underlying ht, Instr.sliceBounds, run_sliceBound, sizeOf, typeInfo, hi0, adv, h1, h2, h3]
end

/-! ### append -/
theorem setRow_size (w : World) (g : Nat) (cs : Array Value) : (w.setRow g cs).heap.size = w.heap.size := by simp [World.setRow]
theorem Kp.setRow (w : World) (g : Nat) (cs : Array Value) : Kp (fun k => g = k) w (w.setRow g cs) :=
  ⟨rfl, rfl, rfl, by rw [setRow_size]; exact Nat.le_refl _, fun k _ hk => setRow_other w g k cs (fun e => hk e.symm)⟩

section
variable {P : Program} (w : World)

theorem run_append_own_src (t tx ty e : TypeId) (i : TypeInfo) (z : Value) (ht : P.underlying t = some (.slice e)) (hi : P.info? e = some i) (hz : i.zero = some z) (hzs : z.cells.size = i.size)
    (A : Option Addr) (c n : Nat) (xs : List Value) (hown : Own w e i.size A c n xs) (x : Value) (m : Nat) (news : List Value) (hs : Src P i.size tx x m news w)
    (hbytes : (n + m) * i.bytes ≤ 140737488355328) (h63 : n + m ≤ 4611686018427387904) :
    ∃ A' c' w', (Builtin.append_ #[t, tx] ty #[.slice A n c, x]).run P w = .ok (.slice A' (n + m) c') w' ∧ Own w' e i.size A' c' (n + m) (xs ++ news) ∧ Kp (Bk A) w w' ∧ (∀ k, Bk A' k → Bk A k ∨ k = w.heap.size) := by
  have hlen : (xs ++ news).length = (n + m) * i.size := by rw [List.length_append, hown.1, hs.newsLen, Nat.add_mul]
  have hcap := hown.cap
  by_cases hroom : n + m ≤ c
  · rcases hown.2 with ⟨rfl, rfl, rfl⟩ | ⟨g, cur, rfl, hg, hnc, hcm, hcs, htake⟩
    · obtain rfl : m = 0 := by omega
      have hn : news = [] := List.eq_nil_of_length_eq_zero (by have := hs.newsLen; omega)
      have hx : xs = [] := List.eq_nil_of_length_eq_zero (by have := hown.1; omega)
      subst hn
      subst hx
      refine ⟨none, 0, w, ?_, Own.nil _ _ _, Kp.refl _ _, fun k hk => absurd hk Bk.none_⟩
      rcases hs.kind with ⟨e', hk⟩ | hk <;> simp [Builtin.append_, run_underlying ht, run_underlying hk, sizeOf, typeInfo, hi, hs.len, hs.cells]
    · have hfit : n * i.size + news.length ≤ cur.size := by
        rw [hs.newsLen, ← Nat.add_mul]
        exact Nat.le_trans (Nat.mul_le_mul_right _ hroom) hcs
      have hst := run_storeCells_at P g (n * i.size) e news 0 cur w hg (by simpa using hfit) hs.one
      simp only [Nat.add_zero] at hst
      refine ⟨_, c, _, ?_, ⟨hlen, .inr ⟨g, _, rfl, setRow_heap w g cur (cur.toList.take (n * i.size) ++ news ++ cur.toList.drop (n * i.size + news.length)).toArray e _ hg, hroom, hcm, ?_, ?_⟩⟩, (Kp.setRow _ _ _).mono (fun k _ e => Bk.some_.2 e), fun k hk => .inl hk⟩
      · rcases hs.kind with ⟨e', hk⟩ | hk <;> simp [Builtin.append_, run_underlying ht, run_underlying hk, sizeOf, typeInfo, hi, hs.len, hroom, hs.cells, Addr.add_lit, hst]
      · simp only [List.size_toArray, List.length_append, List.length_take, List.length_drop, Array.length_toList]
        omega
      · rw [htake, ← hlen]
        exact List.take_left
  · have hold : (Builtin.firstCells i.size n (.slice A n c)).run P w.drew = .ok xs.toArray w.drew := by
      rcases hown.form with ⟨rfl, rfl, rfl⟩ | ⟨g, rfl⟩
      · have hx : xs = [] := List.eq_nil_of_length_eq_zero (by have := hown.1; omega)
        subst hx
        exact run_firstCells_none w.drew i.size 0 0 0
      · refine run_firstCells_some w.drew i.size n ⟨g, 0, none⟩ n c xs hown.1 (fun j u hu => ?_)
        have := hown.cell hu
        simpa [Addr.add_lit] using this
    have hr := run_append_grow_src (P := P) w t tx ty e i z ht hi hz A n c xs hold x m news hs (by omega) (by omega) (growslice_fits (by omega) hbytes)
    have hge := grownCap_ge w (n + m) c e
    have hcm : grownCap w (n + m) c e ≤ maxLen := grownCap_le_maxLen w (n + m) c e (by simp only [maxLen]; omega)
    refine ⟨_, _, _, hr, ⟨hlen, .inr ⟨w.heap.size, _, rfl, heap_alloc_new w.drew _, hge, hcm, ?_, ?_⟩⟩, ⟨rfl, rfl, rfl, by simp, fun k hk _ => Below.heap_alloc w.drew _ k hk⟩, fun k hk => .inr (Bk.some_.1 hk).symm⟩
    · simp only [Array.size_append, List.size_toArray, size_zeroCells, hzs, hlen, ← Nat.add_mul]
      exact Nat.mul_le_mul_right _ (by omega)
    · simp only [Array.toList_append, ← hlen]
      exact List.take_left

/-- append onto a row of the call's own, at one operation. -/
theorem wp_append_src {o : Oper} {a : Act} {K : Act → World → Prop} {Q : Exit → Act → World → Prop} (s xo : Operand) (t tx : TypeId)
    (ho : o.op = .call { callee := .builtin .append, args := #[s, xo], argTypes := #[t, tx] })
    (e : TypeId) (z : Value) (size bytes : Nat) (ht : P.underlying t = some (.slice e)) (hi : (P.info? e).map (fun i => (i.zero, i.size, i.bytes)) = some (some z, size, bytes)) (hzs : z.cells.size = size)
    (A : Option Addr) (c n : Nat) (xs : List Value) (hs : a.eval s = .slice A n c) (hown : Own w e size A c n xs)
    (x : Value) (hx : a.eval xo = x) (m : Nat) (news : List Value) (hsrc : Src P size tx x m news w)
    (hbytes : (n + m) * bytes ≤ 140737488355328) (h63 : n + m ≤ 4611686018427387904)
    (h : ∀ A' c' w', Own w' e size A' c' (n + m) (xs ++ news) → Kp (Bk A) w w' → (∀ k, Bk A' k → Bk A k ∨ k = w.heap.size) → K (a.put o.dst (.slice A' (n + m) c')) w') : o.wp P a w K Q := by
  obtain ⟨i, hi0, hz, rfl, rfl⟩ := info_parts hi
  obtain ⟨A', c', w', hr, h2, h3, h4⟩ := run_append_own_src (P := P) w t tx o.type e i z ht hi0 hz hzs A c n xs hown x m news hsrc hbytes h63
  unfold Oper.wp execOp
  simp only [ho, resolve, invoke, builtin, Sem.run_bind, Sem.run_pure, Result.andThen_ok, List.map_toArray, List.map_cons, List.map_nil, hs, hx, hr]
  exact h A' c' w' h2 h3 h4

/-- append onto a row of the call's own, for the walk. -/
theorem wpList_append_src {ops : Array Oper} {rest : List Oper} {o : Oper} {a : Act} {Q : Exit → Act → World → Prop} (hgd : o.guard = none) (s xo : Operand) (t tx : TypeId)
    (ho : o.op = .call { callee := .builtin .append, args := #[s, xo], argTypes := #[t, tx] })
    (e : TypeId) (z : Value) (size bytes : Nat) (ht : P.underlying t = some (.slice e)) (hi : (P.info? e).map (fun i => (i.zero, i.size, i.bytes)) = some (some z, size, bytes)) (hzs : z.cells.size = size)
    (A : Option Addr) (c n : Nat) (xs : List Value) (hs : a.eval s = .slice A n c) (hown : Own w e size A c n xs)
    (x : Value) (hx : a.eval xo = x) (m : Nat) (news : List Value) (hsrc : Src P size tx x m news w)
    (hbytes : (n + m) * bytes ≤ 140737488355328) (h63 : n + m ≤ 4611686018427387904)
    (h : ∀ A' c' w', Own w' e size A' c' (n + m) (xs ++ news) → Kp (Bk A) w w' → (∀ k, Bk A' k → Bk A k ∨ k = w.heap.size) → wpList P ops Q rest (a.put o.dst (.slice A' (n + m) c')) w') : wpList P ops Q (o :: rest) a w := by
  obtain ⟨i, hi0, hz, rfl, rfl⟩ := info_parts hi
  obtain ⟨A', c', w', hr, h2, h3, h4⟩ := run_append_own_src (P := P) w t tx o.type e i z ht hi0 hz hzs A c n xs hown x m news hsrc hbytes h63
  refine wpList_plain hgd fun K hK => ?_
  unfold Oper.wp execOp
  simp only [ho, resolve, invoke, builtin, Sem.run_bind, Sem.run_pure, Result.andThen_ok, List.map_toArray, List.map_cons, List.map_nil, hs, hx, hr]
  exact hK _ _ (h A' c' w' h2 h3 h4)

theorem bcs_one (l : List UInt8) : ∀ u ∈ bcs l, u.oneCell' = true := fun u hu => by
  obtain ⟨_, _, rfl⟩ := List.mem_map.1 hu
  rfl
/-- Bytes that are read, as what an append brings. -/
theorem Src.ofRdB {tx e' : TypeId} (hk : P.underlying tx = some (.slice e')) {A : Option Addr} (c : Nat) {l : List UInt8} (h : RdB w A l) : Src P 1 tx (.slice A l.length c) l.length (bcs l) w := by
  cases A with
  | none =>
    have : l = [] := Classical.byContradiction fun hl => by obtain ⟨_, _, e, _⟩ := h hl; cases e
    subst this
    exact Src.ofNil w hk c
  | some a =>
    refine Src.ofSlice w hk a l.length c (bcs l) (by simp [bcs]) (fun j u hu => ?_) (bcs_one l)
    have hj : j < l.length := by have := (List.getElem?_eq_some_iff.1 hu).1; simpa [bcs] using this
    obtain ⟨b, off, e, hc⟩ := h.at_ hj
    cases e
    have := hc j hj
    rw [Addr.add_lit, this]
    simp only [bcs, List.getElem?_map, List.getElem?_eq_getElem hj, Option.map_some, Option.some.injEq] at hu
    exact congrArg some hu
theorem Src.ofOwnB {tx e' : TypeId} (hk : P.underlying tx = some (.slice e')) {A : Option Addr} {n : Nat} (c : Nat) {l : List UInt8} (h : RdB w A l) (hn : n = l.length) : Src P 1 tx (.slice A n c) n (bcs l) w := by
  subst hn
  exact Src.ofRdB w hk c h
/-- One new cell, as what an append brings. -/
theorem Src.ofNew {tx e' : TypeId} (hk : P.underlying tx = some (.slice e')) (cs : Array Value) (e : TypeId) (size n c : Nat) (hn : cs.size = n * size) (h1 : ∀ u ∈ cs.toList, u.oneCell' = true) :
    Src P size tx (.slice (some ⟨w.heap.size, 0, none⟩) n c) n cs.toList (w.alloc (.cells cs e)) := by
  refine Src.ofSlice _ hk ⟨w.heap.size, 0, none⟩ n c cs.toList (by simp [hn]) (fun j u hu => ?_) h1
  rw [Addr.add_lit, Nat.zero_add, cell_of_block (heap_alloc_new w _)]
  simpa using hu
end

end Go.Proofs.YtejmndfdmikfaaaDoor.Kit
