/- 3 texts in one: A slice of slices of bytes, all of a call's own, no two of them in one block.; A disk by definition: its state, and what each call makes of it. No program in sight.; A slice of files, all of a call's own: names, bytes, how many are synced. -/
import Derived.Test.YtekcoeonlfmebaaGreatDoorM0
import Derived.Test.YtekcoeonlfmebaaGreatDoorM3
namespace Go.Proofs.YtekcoeonlfmebaaGreatDoor.Kit
open Go Go.RowKit
structure BSl where
 A : Option Addr
 c : Nat
 l : List UInt8
def BSl.val (x : BSl) : Value := .slice x.A x.l.length x.c
def bks (A : Option Addr) : List Nat := (A.map Addr.block).toList
theorem mem_bks {A : Option Addr} {k : Nat} : k ∈ bks A ↔ Bk A k := by
 cases A with
 | none => simp [bks, Bk]
 | some a => simp [bks, Bk, eq_comm]
theorem bks_nodup (A : Option Addr) : (bks A).Nodup := by cases A <;> simp [bks]
def blks (xs : List BSl) : List Nat := xs.flatMap fun x => bks x.A
theorem mem_blks {xs : List BSl} {k : Nat} : k ∈ blks xs ↔ ∃ x ∈ xs, Bk x.A k := by simp [blks, mem_bks]
theorem blks_snoc (xs : List BSl) (x : BSl) : blks (xs ++ [x]) = blks xs ++ bks x.A := by simp [blks]
def OwnL (w : World) (eL eB : TypeId) (A : Option Addr) (c : Nat) (xs : List BSl) : Prop :=
 Own w eL 1 A c xs.length (xs.map BSl.val) ∧ (∀ x ∈ xs, Own w eB 1 x.A x.c x.l.length (bcs x.l)) ∧ (bks A ++ blks xs).Nodup
theorem OwnL.nil (w : World) (eL eB : TypeId) : OwnL w eL eB none 0 [] := ⟨Own.nil _ _ _, by simp, by simp [bks, blks]⟩
theorem OwnL.lt {w : World} {eL eB : TypeId} {A : Option Addr} {c : Nat} {xs : List BSl} (h : OwnL w eL eB A c xs) : ∀ k, k ∈ bks A ++ blks xs → k < w.heap.size := by
 intro k hk
 rcases List.mem_append.1 hk with hk | hk
 ·exact h.1.lt k (mem_bks.1 hk)
 ·obtain ⟨x, hx, hb⟩ := mem_blks.1 hk
  exact (h.2.1 x hx).lt k hb
theorem OwnL.keep {w w' : World} {eL eB : TypeId} {A : Option Addr} {c : Nat} {xs : List BSl} (h : OwnL w eL eB A c xs) (hk : ∀ k, k ∈ bks A ++ blks xs → w'.heap[k]? = w.heap[k]?) : OwnL w' eL eB A c xs :=
 ⟨h.1.keep fun k hb => hk k (List.mem_append_left _ (mem_bks.2 hb)), fun x hx => (h.2.1 x hx).keep fun k hb => hk k (List.mem_append_right _ (mem_blks.2 ⟨x, hx, hb⟩)), h.2.2⟩
theorem OwnL.push {W W3 : World} {eL eB : TypeId} {A A3 : Option Addr} {c c3 : Nat} {xs : List BSl} (h : OwnL W eL eB A c xs) (x : BSl)
  (hx : Own W3 eB 1 x.A x.c x.l.length (bcs x.l)) (hrow : Own W3 eL 1 A3 c3 (xs.length + 1) (xs.map BSl.val ++ [x.val])) (hkeep : ∀ k, k ∈ blks xs → W3.heap[k]? = W.heap[k]?)
  (hxf : ∀ k, Bk x.A k → W.heap.size ≤ k) (hA3 : ∀ k, Bk A3 k → Bk A k ∨ (W.heap.size ≤ k ∧ ¬ Bk x.A k)) : OwnL W3 eL eB A3 c3 (xs ++ [x]) := by
 refine ⟨by simpa using hrow, fun y hy => ?_, ?_⟩
 ·rcases List.mem_append.1 hy with hy | hy
  ·exact (h.2.1 y hy).keep fun k hb => hkeep k (mem_blks.2 ⟨y, hy, hb⟩)
  ·obtain rfl := List.mem_singleton.1 hy
   exact hx
 ·have hlt := h.lt
  obtain ⟨n1, n2, n3⟩ := List.nodup_append.1 h.2.2
  rw [blks_snoc]
  refine List.nodup_append.2 ⟨bks_nodup _, List.nodup_append.2 ⟨n2, bks_nodup _, ?_⟩, ?_⟩
  ·intro a ha b hb e
   subst e
   have := hxf a (mem_bks.1 hb)
   have := hlt a (List.mem_append_right _ ha)
   omega
  ·intro a ha b hb e
   subst e
   rcases hA3 a (mem_bks.1 ha) with h3 | ⟨h3, h4⟩
   ·rcases List.mem_append.1 hb with hb | hb
    ·exact n3 a (mem_bks.2 h3) a hb rfl
    ·have := hxf a (mem_bks.1 hb)
     have := hlt a (List.mem_append_left _ (mem_bks.2 h3))
     omega
   ·rcases List.mem_append.1 hb with hb | hb
    ·have := hlt a (List.mem_append_right _ hb)
     omega
    ·exact h4 (mem_bks.1 hb)
end Go.Proofs.YtekcoeonlfmebaaGreatDoor.Kit
namespace Go.Proofs.YtekcoeonlfmebaaGreatDoor.Kit
abbrev Nm := List UInt8
structure Fl where
 name : Nm
 data : List UInt8
 syn : Nat
deriving DecidableEq
structure DS where
 cap : Nat
 files : List Fl
 fuse : Int
 down : Bool
def nameByte (c : UInt8) : Bool := (97 ≤ c && c ≤ 122) || (48 ≤ c && c ≤ 57) || c == 46 || c == 45 || c == 95
def goodN (n : Nm) : Bool := decide (0 < n.length ∧ n.length ≤ 40) && n.all nameByte
def usedF (l : List Fl) : Nat := (l.map fun f => f.data.length).sum
def DS.used (s : DS) : Nat := usedF s.files
def DS.find (s : DS) (n : Nm) : Option Fl := s.files.find? (fun f => f.name == n)
def ins (f : Fl) : List Fl → List Fl
 | [] => [f]
 | g :: l => if f.name < g.name then f :: g :: l else g :: ins f l
def outF (n : Nm) (l : List Fl) : List Fl := l.filter (fun f => f.name != n)
def updF (n : Nm) (h : Fl → Fl) (l : List Fl) : List Fl := l.map (fun f => if f.name = n then h f else f)
def DS.change (s : DS) (e : Nat) (h : DS → DS) : Nat × DS :=
 if s.down = true then (34, s) else if e ≠ 0 then (e, s) else if s.fuse = 0 then (34, { s with down := true, fuse := -1 })
 else (0, h { s with fuse := if 0 < s.fuse then s.fuse - 1 else s.fuse })
def DS.there (s : DS) (n : Nm) : Nat := if goodN n = true then (if (s.find n).isSome = true then 0 else 31) else 32
def DS.create (s : DS) (n : Nm) : Nat × DS :=
 s.change (if goodN n = true then (if (s.find n).isSome = true then 33 else if 64 ≤ s.files.length then 2 else 0) else 32) fun s => { s with files := ins ⟨n, [], 0⟩ s.files }
def DS.append (s : DS) (n : Nm) (b : List UInt8) : Nat × DS :=
 s.change (if s.there n ≠ 0 then s.there n else if s.cap < s.used + b.length then 30 else 0) fun s => { s with files := updF n (fun f => { f with data := f.data ++ b }) s.files }
def DS.sync (s : DS) (n : Nm) : Nat × DS := s.change (s.there n) fun s => { s with files := updF n (fun f => { f with syn := f.data.length }) s.files }
def DS.remove (s : DS) (n : Nm) : Nat × DS := s.change (s.there n) fun s => { s with files := outF n s.files }
def moved (a b : Nm) (l : List Fl) : List Fl := if a = b then l else match l.find? (fun f => f.name == a) with
 | some f => ins { f with name := b } (outF b (outF a l))
 | none => l
def DS.rename (s : DS) (a b : Nm) : Nat × DS := s.change (if goodN b = true then s.there a else 32) fun s => { s with files := moved a b s.files }
def DS.setFuse (s : DS) (n : Int) : Nat × DS := if n < -1 ∨ 1048576 < n then (1, s) else if s.down = true then (34, s) else (0, { s with fuse := n })
def leftOf (f : Fl) (i : Nat) (keep : List Int) : Nat :=
 if keep = [] then f.syn else f.syn + min (keep.getD (i % keep.length) 0).toNat (f.data.length - f.syn)
def crashed (keep : List Int) : Nat → List Fl → List Fl
 | _, [] => []
 | i, f :: l => { f with data := f.data.take (leftOf f i keep), syn := leftOf f i keep } :: crashed keep (i + 1) l
def DS.crash (s : DS) (keep : List Int) : DS := { s with files := crashed keep 0 s.files, fuse := -1, down := false }
structure DS.Ok (s : DS) : Prop where
 cap : s.cap ≤ 1048576
 used : s.used ≤ s.cap
 few : s.files.length ≤ 64
 rise : (s.files.map (·.name)).Pairwise (· < ·)
 good : ∀ f ∈ s.files, goodN f.name = true
 syn : ∀ f ∈ s.files, f.syn ≤ f.data.length
 fuse : -1 ≤ s.fuse ∧ s.fuse ≤ 1048576
 fell : s.down = true → s.fuse = -1
end Go.Proofs.YtekcoeonlfmebaaGreatDoor.Kit
namespace Go.Proofs.YtekcoeonlfmebaaGreatDoor.Kit
open Go Go.RowKit
structure FV where
 f : Fl
 A : Option Addr
 c : Nat
def FV.cells (y : FV) : List Value := [.string (bstr y.f.name), .slice y.A y.f.data.length y.c, .int .i64 (y.f.syn : Int)]
def FV.flat (ys : List FV) : List Value := ys.flatMap FV.cells
def fblks (ys : List FV) : List Nat := ys.flatMap fun y => bks y.A
theorem FV.flat_length (ys : List FV) : (FV.flat ys).length = ys.length * 3 := by
 induction ys with
 | nil => rfl
 | cons y ys ih => simp only [FV.flat, List.flatMap_cons, List.length_append, List.length_cons] at *; rw [ih]; simp [FV.cells]; omega
theorem FV.flat_snoc (ys : List FV) (y : FV) : FV.flat (ys ++ [y]) = FV.flat ys ++ y.cells := by simp [FV.flat]
theorem FV.flat_get (ys : List FV) : ∀ (i j : Nat) (y : FV), ys[i]? = some y → j < 3 → (FV.flat ys)[i * 3 + j]? = y.cells[j]? := by
 induction ys with
 | nil => intro i j y h; simp at h
 | cons q ys ih =>
  intro i j y h hj
  unfold FV.flat at *
  rw [List.flatMap_cons]
  cases i with
  | zero =>
   simp only [List.getElem?_cons_zero, Option.some.injEq] at h
   subst h
   rw [Nat.zero_mul, Nat.zero_add, List.getElem?_append_left (by simpa [FV.cells] using hj)]
  | succ i =>
   rw [List.getElem?_cons_succ] at h
   rw [List.getElem?_append_right (by simp [FV.cells]; omega), ← ih i j y h hj]
   congr 1
   simp [FV.cells]
   omega
theorem mem_fblks {ys : List FV} {k : Nat} : k ∈ fblks ys ↔ ∃ y ∈ ys, Bk y.A k := by simp [fblks, mem_bks]
theorem fblks_snoc (ys : List FV) (y : FV) : fblks (ys ++ [y]) = fblks ys ++ bks y.A := by simp [fblks]
theorem Tryz.info_file : (Tryz.prog.info? 82).map (fun i => (i.zero, i.size, i.bytes)) = some (some (.agg #[.string ⟨#[]⟩, .slice none 0 0, .int .i64 0]), 3, 48) := by kernel_rfl
def OwnF (w : World) (A : Option Addr) (c : Nat) (ys : List FV) : Prop :=
 Own w 82 3 A c ys.length (FV.flat ys) ∧ (∀ y ∈ ys, Own w 5 1 y.A y.c y.f.data.length (bcs y.f.data)) ∧ (bks A ++ fblks ys).Nodup
theorem OwnF.nil (w : World) : OwnF w none 0 [] := ⟨Own.nil _ _ _, by simp, by simp [bks, fblks]⟩
theorem OwnF.lt {w : World} {A : Option Addr} {c : Nat} {ys : List FV} (h : OwnF w A c ys) : ∀ k, k ∈ bks A ++ fblks ys → k < w.heap.size := by
 intro k hk
 rcases List.mem_append.1 hk with hk | hk
 ·exact h.1.lt k (mem_bks.1 hk)
 ·obtain ⟨y, hy, hb⟩ := mem_fblks.1 hk
  exact (h.2.1 y hy).lt k hb
theorem OwnF.keep {w w' : World} {A : Option Addr} {c : Nat} {ys : List FV} (h : OwnF w A c ys) (hk : ∀ k, k ∈ bks A ++ fblks ys → w'.heap[k]? = w.heap[k]?) : OwnF w' A c ys :=
 ⟨h.1.keep fun k hb => hk k (List.mem_append_left _ (mem_bks.2 hb)), fun y hy => (h.2.1 y hy).keep fun k hb => hk k (List.mem_append_right _ (mem_fblks.2 ⟨y, hy, hb⟩)), h.2.2⟩
theorem OwnF.kp {w w' : World} {S : Nat → Prop} {A : Option Addr} {c : Nat} {ys : List FV} (h : OwnF w A c ys) (hk : Kp S w w') (hS : ∀ k, k ∈ bks A ++ fblks ys → ¬ S k) : OwnF w' A c ys := h.keep fun k hm => hk.block k (h.lt k hm) (hS k hm)
theorem OwnF.push {W W3 : World} {A A3 : Option Addr} {c c3 : Nat} {ys : List FV} (h : OwnF W A c ys) (y : FV)
  (hy : Own W3 5 1 y.A y.c y.f.data.length (bcs y.f.data)) (hrow : Own W3 82 3 A3 c3 (ys.length + 1) (FV.flat ys ++ y.cells)) (hkeep : ∀ k, k ∈ fblks ys → W3.heap[k]? = W.heap[k]?)
  (hyf : ∀ k, Bk y.A k → W.heap.size ≤ k) (hA3 : ∀ k, Bk A3 k → Bk A k ∨ (W.heap.size ≤ k ∧ ¬ Bk y.A k)) : OwnF W3 A3 c3 (ys ++ [y]) := by
 refine ⟨by rw [FV.flat_snoc, List.length_append]; exact hrow, fun z hz => ?_, ?_⟩
 ·rcases List.mem_append.1 hz with hz | hz
  ·exact (h.2.1 z hz).keep fun k hb => hkeep k (mem_fblks.2 ⟨z, hz, hb⟩)
  ·obtain rfl := List.mem_singleton.1 hz
   exact hy
 ·have hlt := h.lt
  obtain ⟨n1, n2, n3⟩ := List.nodup_append.1 h.2.2
  rw [fblks_snoc]
  refine List.nodup_append.2 ⟨bks_nodup _, List.nodup_append.2 ⟨n2, bks_nodup _, ?_⟩, ?_⟩
  ·intro a ha b hb e
   subst e
   have := hyf a (mem_bks.1 hb)
   have := hlt a (List.mem_append_right _ ha)
   omega
  ·intro a ha b hb e
   subst e
   rcases hA3 a (mem_bks.1 ha) with h3 | ⟨h3, h4⟩
   ·rcases List.mem_append.1 hb with hb | hb
    ·exact n3 a (mem_bks.2 h3) a hb rfl
    ·have := hyf a (mem_bks.1 hb)
     have := hlt a (List.mem_append_left _ (mem_bks.2 h3))
     omega
   ·rcases List.mem_append.1 hb with hb | hb
    ·have := hlt a (List.mem_append_right _ hb)
     omega
    ·exact h4 (mem_bks.1 hb)
def RdF (w : World) (A : Option Addr) (ys : List FV) : Prop :=
 (ys ≠ [] → ∃ b off, A = some ⟨b, off, none⟩ ∧ ∀ (j : Nat) (u : Value), (FV.flat ys)[j]? = some u → w.cell? ⟨b, off + j, none⟩ = some u) ∧ ∀ y ∈ ys, RdB w y.A y.f.data
theorem OwnF.rd {w : World} {A : Option Addr} {c : Nat} {ys : List FV} (h : OwnF w A c ys) : RdF w A ys := by
 refine ⟨fun hne => ?_, fun y hy => (h.2.1 y hy).rd⟩
 rcases h.1.form with ⟨_, _, h0⟩ | ⟨g, rfl⟩
 ·exact absurd (List.eq_nil_of_length_eq_zero h0) hne
 ·exact ⟨g, 0, rfl, fun j u hu => by rw [Nat.zero_add]; exact h.1.cell hu⟩
def RdF.In (A : Option Addr) (ys : List FV) (k : Nat) : Prop := Bk A k ∨ ∃ y ∈ ys, Bk y.A k
theorem RdF.kp {w w' : World} {S : Nat → Prop} {A : Option Addr} {ys : List FV} (h : RdF w A ys) (hk : Kp S w w') (hS : ∀ k, RdF.In A ys k → ¬ S k) : RdF w' A ys := by
 refine ⟨fun hne => ?_, fun y hy => (h.2 y hy).kp hk fun k hb => hS k (.inr ⟨y, hy, hb⟩)⟩
 obtain ⟨b, off, rfl, hc⟩ := h.1 hne
 exact ⟨b, off, rfl, fun j u hu => hk.cell_of (hc j u hu) (hS b (.inl (Bk.some_.2 rfl)))⟩
theorem RdF.new {w w' : World} {A : Option Addr} {ys : List FV} (h : RdF w A ys) (hk : New w w') : RdF w' A ys := h.kp hk fun _ _ => id
theorem RdF.at_ {w : World} {A : Option Addr} {ys : List FV} (h : RdF w A ys) {i : Nat} (hi : i < ys.length) : ∃ b off, A = some ⟨b, off, none⟩ ∧ w.cell? ⟨b, off + i * 3, none⟩ = some (.string (bstr ys[i].f.name)) ∧
  w.cell? ⟨b, off + i * 3 + 1, none⟩ = some (.slice ys[i].A ys[i].f.data.length ys[i].c) ∧ w.cell? ⟨b, off + i * 3 + 2, none⟩ = some (.int .i64 (ys[i].f.syn : Int)) := by
 obtain ⟨b, off, rfl, hc⟩ := h.1 (by intro e; subst e; simp at hi)
 have hy : ys[i]? = some ys[i] := List.getElem?_eq_getElem hi
 refine ⟨b, off, rfl, ?_, ?_, ?_⟩
 ·exact hc (i * 3) _ (by have := FV.flat_get ys i 0 _ hy (by omega); simpa [FV.cells] using this)
 ·rw [Nat.add_assoc]
  exact hc (i * 3 + 1) _ (by have := FV.flat_get ys i 1 _ hy (by omega); simpa [FV.cells] using this)
 ·rw [Nat.add_assoc]
  exact hc (i * 3 + 2) _ (by have := FV.flat_get ys i 2 _ hy (by omega); simpa [FV.cells] using this)
end Go.Proofs.YtekcoeonlfmebaaGreatDoor.Kit
