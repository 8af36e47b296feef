/- A disk in memory: its block, the map of its files, each file's block, its bytes; all its own. -/
import Derived.Test.YtekcoeonlfmebaaGood
import Derived.Test.YtekcoeonlfmebaaMap
import Derived.Test.YtekcoeonlfmebaaLists
import Derived.Test.YtekcoeonlfmebaaOwn2
namespace Go.Proofs.Ytekcoeonlfmebaa.Kit
open Go Go.RowKit

/-- A file in memory. -/
structure FE where
  f : Fl
  b : Nat
  A : Option Addr
  c : Nat
def FE.ptr (x : FE) : Value := .pointer (some ⟨x.b, 0, none⟩)
def FE.ent (x : FE) : List UInt8 × Value := (x.f.name, x.ptr)
def FE.blk (x : FE) : List Nat := x.b :: bks x.A
def FE.cells (x : FE) : Array Value := #[.slice x.A x.f.data.length x.c, .int .i64 (x.f.syn : Int)]
def FE.at_ (w : World) (x : FE) : Prop := w.heap[x.b]? = some (.cells x.cells 74 (0, 0)) ∧ Own w 5 1 x.A x.c x.f.data.length (bcs x.f.data)
def dcells (s : DS) (bm : Nat) : Array Value := #[.int .i64 (s.cap : Int), .int .i64 (s.used : Int), .map (some bm), .int .i64 s.fuse, .bool s.down]
def fpD (d bm : Nat) (xs : List FE) : List Nat := d :: bm :: xs.flatMap FE.blk
/-- The disk of state s in block d, its map in bm, its files xs. -/
structure DiskX (w : World) (d : Nat) (s : DS) (bm : Nat) (xs : List FE) : Prop where
  blk : w.heap[d]? = some (.cells (dcells s bm) 69 (0, 0))
  map : SMap w bm (xs.map FE.ent)
  file : ∀ x ∈ xs, x.at_ w
  own : (fpD d bm xs).Nodup
  perm : (xs.map FE.f).Perm s.files
  ok : s.Ok
/-- The same, all its blocks F. -/
def DiskAt (w : World) (d : Nat) (s : DS) (F : List Nat) : Prop := ∃ bm xs, DiskX w d s bm xs ∧ F = fpD d bm xs

theorem mem_fpD {d bm k : Nat} {xs : List FE} : k ∈ fpD d bm xs ↔ k = d ∨ k = bm ∨ ∃ x ∈ xs, k = x.b ∨ Bk x.A k := by
  simp [fpD, FE.blk, mem_bks]
theorem DiskX.keep {w w' : World} {d bm : Nat} {s : DS} {xs : List FE} (h : DiskX w d s bm xs) (hk : ∀ k ∈ fpD d bm xs, w'.heap[k]? = w.heap[k]?) : DiskX w' d s bm xs :=
  ⟨(hk d (mem_fpD.2 (.inl rfl))).trans h.blk, h.map.keep (hk bm (mem_fpD.2 (.inr (.inl rfl)))),
    fun x hx => ⟨(hk x.b (mem_fpD.2 (.inr (.inr ⟨x, hx, .inl rfl⟩)))).trans (h.file x hx).1, (h.file x hx).2.keep fun k hb => hk k (mem_fpD.2 (.inr (.inr ⟨x, hx, .inr hb⟩)))⟩, h.own, h.perm, h.ok⟩
theorem DiskX.lt {w : World} {d bm : Nat} {s : DS} {xs : List FE} (h : DiskX w d s bm xs) : ∀ k ∈ fpD d bm xs, k < w.heap.size := by
  intro k hk
  rcases mem_fpD.1 hk with rfl | rfl | ⟨x, hx, rfl | hb⟩
  · exact (Array.getElem?_eq_some_iff.1 h.blk).1
  · exact h.map.lt
  · exact (Array.getElem?_eq_some_iff.1 (h.file x hx).1).1
  · exact (h.file x hx).2.lt k hb
theorem DiskX.kp {w w' : World} {d bm : Nat} {s : DS} {xs : List FE} {S : Nat → Prop} (h : DiskX w d s bm xs) (hk : Kp S w w') (hS : ∀ k ∈ fpD d bm xs, ¬ S k) : DiskX w' d s bm xs := h.keep fun k hm => hk.block k (h.lt k hm) (hS k hm)
theorem DiskX.new {w w' : World} {d bm : Nat} {s : DS} {xs : List FE} (h : DiskX w d s bm xs) (hk : New w w') : DiskX w' d s bm xs := h.kp hk fun _ _ => id
theorem DiskAt.kp {w w' : World} {d : Nat} {s : DS} {F : List Nat} {S : Nat → Prop} (h : DiskAt w d s F) (hk : Kp S w w') (hS : ∀ k ∈ F, ¬ S k) : DiskAt w' d s F := by
  obtain ⟨bm, xs, h1, rfl⟩ := h
  exact ⟨bm, xs, h1.kp hk hS, rfl⟩
theorem DiskAt.new {w w' : World} {d : Nat} {s : DS} {F : List Nat} (h : DiskAt w d s F) (hk : New w w') : DiskAt w' d s F := h.kp hk fun _ _ => id
theorem DiskAt.lt {w : World} {d : Nat} {s : DS} {F : List Nat} (h : DiskAt w d s F) : ∀ k ∈ F, k < w.heap.size := by
  obtain ⟨bm, xs, h1, rfl⟩ := h
  exact h1.lt
theorem DiskAt.ok {w : World} {d : Nat} {s : DS} {F : List Nat} (h : DiskAt w d s F) : s.Ok := by
  obtain ⟨bm, xs, h1, rfl⟩ := h
  exact h1.ok
theorem DiskAt.mem {w : World} {d : Nat} {s : DS} {F : List Nat} (h : DiskAt w d s F) : d ∈ F := by
  obtain ⟨bm, xs, h1, rfl⟩ := h
  exact mem_fpD.2 (.inl rfl)
theorem DiskAt.cells {w : World} {d : Nat} {s : DS} {F : List Nat} (h : DiskAt w d s F) : ∃ bm, w.heap[d]? = some (.cells (dcells s bm) 69 (0, 0)) := by
  obtain ⟨bm, xs, h1, rfl⟩ := h
  exact ⟨bm, h1.blk⟩

/-- From blocks F to blocks F', whatever else there is left alone. -/
def Mv (F F' : List Nat) (w w' : World) : Prop := Kp (· ∈ F) w w' ∧ ∀ k ∈ F', k ∈ F ∨ w.heap.size ≤ k
theorem Mv.refl (F : List Nat) (w : World) : Mv F F w w := ⟨Kp.refl _ _, fun _ h => .inl h⟩
theorem Mv.of_new {F : List Nat} {w w' : World} (h : New w w') : Mv F F w w' := ⟨h.mono fun _ _ h => h.elim, fun _ h => .inl h⟩
theorem Mv.trans {F F' F'' : List Nat} {a b c : World} (h : Mv F F' a b) (k : Mv F' F'' b c) : Mv F F'' a c := by
  refine ⟨h.1.trans k.1 (fun _ _ h => h) (fun i hi hm => (h.2 i hm).elim id (fun h => by omega)), fun i hi => ?_⟩
  have := h.1.size
  rcases k.2 i hi with h1 | h1
  · exact h.2 i h1
  · exact .inr (by omega)

/-! ### What stands at a name -/
theorem nodup_of_map {α β : Type} {f : α → β} {l : List α} (h : (l.map f).Nodup) : ∀ {l1 l2 : List α} {x : α}, l = l1 ++ x :: l2 → ∀ y ∈ l1 ++ l2, f y ≠ f x := by
  rintro l1 l2 x rfl y hy e
  rw [List.map_append, List.map_cons, List.nodup_append] at h
  rcases List.mem_append.1 hy with hy | hy
  · exact h.2.2 (f y) (List.mem_map.2 ⟨y, hy, rfl⟩) (f x) List.mem_cons_self e
  · exact (List.nodup_cons.1 h.2.1).1 (e ▸ List.mem_map.2 ⟨y, hy, rfl⟩)
theorem DiskX.names {w : World} {d bm : Nat} {s : DS} {xs : List FE} (h : DiskX w d s bm xs) : (xs.map fun x => x.f.name).Nodup := by
  obtain ⟨es, clock, _, h1⟩ := h.map
  have := h1.2.2.2
  rw [List.map_map] at this
  exact this
theorem find_perm {l m : List Fl} (h : l.Perm m) (hn : (l.map (·.name)).Nodup) (n : Nm) : l.find? (fun f => f.name == n) = m.find? (fun f => f.name == n) := by
  have hm : (m.map (·.name)).Nodup := (h.map _).nodup_iff.1 hn
  have uniq : ∀ {l : List Fl}, (l.map (·.name)).Nodup → ∀ f ∈ l, f.name = n → l.find? (fun f => f.name == n) = some f := by
    intro l hl f hf hfn
    obtain ⟨g, hg⟩ : ∃ g, l.find? (fun f => f.name == n) = some g := by
      cases hg : l.find? (fun f => f.name == n) with
      | some g => exact ⟨g, rfl⟩
      | none => exact absurd (by simpa using hfn) (List.find?_eq_none.1 hg f hf)
    have hgn : g.name = n := by simpa using List.find?_some hg
    rw [hg]
    obtain ⟨l1, l2, rfl⟩ := List.append_of_mem hf
    have hgm := List.mem_of_find?_eq_some hg
    rcases List.mem_append.1 hgm with h1 | h1
    · exact absurd (hgn.trans hfn.symm) (nodup_of_map hl rfl g (List.mem_append_left _ h1))
    · rcases List.mem_cons.1 h1 with rfl | h1
      · rfl
      · exact absurd (hgn.trans hfn.symm) (nodup_of_map hl rfl g (List.mem_append_right _ h1))
  cases hl : l.find? (fun f => f.name == n) with
  | some f =>
    have hfn : f.name = n := by simpa using List.find?_some hl
    exact (uniq hm f (h.mem_iff.1 (List.mem_of_find?_eq_some hl)) hfn).symm
  | none =>
    symm
    rw [List.find?_eq_none]
    intro f hf
    exact List.find?_eq_none.1 hl f (h.mem_iff.2 hf)
theorem find_cut {l1 l2 : List FE} {x : FE} (h : ∀ y ∈ l1 ++ l2, y.f.name ≠ x.f.name) : (l1 ++ x :: l2).find? (fun y => y.f.name == x.f.name) = some x := by
  rw [List.find?_append]
  have : l1.find? (fun y => y.f.name == x.f.name) = none := List.find?_eq_none.2 fun y hy => by simpa using h y (List.mem_append_left _ hy)
  rw [this]
  simp
theorem DiskX.look {w : World} {d bm : Nat} {s : DS} {xs : List FE} (h : DiskX w d s bm xs) (n : Nm) :
    (s.find n = none ∧ at? (xs.map FE.ent) n = none) ∨ ∃ x l1 l2, xs = l1 ++ x :: l2 ∧ x.f.name = n ∧ s.find n = some x.f ∧ at? (xs.map FE.ent) n = some x.ptr ∧ ∀ y ∈ l1 ++ l2, y.f.name ≠ n := by
  have hn := h.names
  have hf : s.find n = (xs.map FE.f).find? (fun f => f.name == n) := (find_perm h.perm (by rw [List.map_map]; exact hn) n).symm
  rw [hf, List.find?_map]
  unfold at?
  rw [List.find?_map, Option.map_map]
  have e1 : ((fun f : Fl => f.name == n) ∘ FE.f) = fun x => x.f.name == n := rfl
  have e2 : ((fun x : List UInt8 × Value => x.1 == n) ∘ FE.ent) = fun x => x.f.name == n := rfl
  rw [e1, e2]
  cases hx : xs.find? (fun x => x.f.name == n) with
  | none => exact .inl ⟨rfl, rfl⟩
  | some x =>
    have hxn : x.f.name = n := by simpa using List.find?_some hx
    obtain ⟨l1, l2, rfl⟩ := List.append_of_mem (List.mem_of_find?_eq_some hx)
    exact .inr ⟨x, l1, l2, rfl, hxn, rfl, rfl, fun y hy => hxn ▸ nodup_of_map hn rfl y hy⟩

/-- 'm[k]' at a map of strings, for the walk. -/
theorem wpList_look {P : Program} {w : World} {ops : Array Oper} {rest : List Oper} {o : Oper} {a : Act} {Q : Exit → Act → World → Prop} (hg : o.guard = none) (m x : Operand) (t : TypeId) (hop : o.op = Op.lookup t m x false)
    (k e : TypeId) (ht : P.underlying t = some (.map k e)) (hk : P.underlying k = some .string) {z : Value} (hz : ∀ w, (zeroValue e).run P w = .ok z w) (b : Nat) (l : List (List UInt8 × Value)) (hm : a.eval m = .map (some b)) (h : SMap w b l) (key : List UInt8) (hx : a.eval x = sv key)
    (v : Value) (hv : (at? l key).getD z = v) (hK : wpList P ops Q rest (a.put o.dst v) w) : wpList P ops Q (o :: rest) a w := by
  refine wpList_plain hg fun K' hK' => ?_
  have hr := run_look (P := P) ht hk (hz w) h key false
  unfold Oper.wp
  simp only [execOp, hop, hm, hx, Sem.run_bind, hr, Result.andThen, hv]
  exact hK' _ _ hK
end Go.Proofs.Ytekcoeonlfmebaa.Kit
