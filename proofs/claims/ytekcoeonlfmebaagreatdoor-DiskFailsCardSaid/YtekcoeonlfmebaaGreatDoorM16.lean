/- 4 texts in one: Maps keyed by strings: a store and a delete, at one operation.; disk.Create: a file without bytes.; A disk in memory: one file changed, one taken away, one given another name.; daybookref03: at, there, power, Bytes. -/
import Derived.Test.YtekcoeonlfmebaaGreatDoorM13
import Derived.WalkKit
import Derived.Test.YtekcoeonlfmebaaGreatDoorM15
import Derived.BigQuiet
import Derived.Shelf.Abstract
import Derived.Deep.QuietTactic
import Derived.Test.YtekcoeonlfmebaaGreatDoorM14
namespace Go.Proofs.YtekcoeonlfmebaaGreatDoor.Kit
open Go Go.RowKit
section
variable {P : Program} {w : World} {a : Act} {Q : Exit → Act → World → Prop}
theorem wp_mapput {o : Oper} {K : Act → World → Prop} (t : TypeId) (m x v : Operand) (ho : o.op = .mapUpdate t m x v) (k e : TypeId) (ht : P.underlying t = some (.map k e)) (hk : P.underlying k = some .string) (b : Nat) (l : List (List UInt8 × Value)) (hm : a.eval m = .map (some b)) (h : SMap w b l)
  (key : List UInt8) (hx : a.eval x = sv key) (u : Value) (hv : a.eval v = u) (hK : ∀ w', SMap w' b (put l key u) → Kp (fun j => j = b) w w' → K (a.put o.dst undef) w') : o.wp P a w K Q := by
 obtain ⟨w', hr, h1, h2⟩ := run_put (P := P) ht hk h key u
 unfold Oper.wp execOp
 simp only [ho, hm, hx, hv, Sem.run_bind, hr, Sem.run_pure, Result.andThen_ok]
 exact hK w' h1 h2
theorem wpList_mapput {ops : Array Oper} {rest : List Oper} {o : Oper} (hgd : o.guard = none) (t : TypeId) (m x v : Operand) (ho : o.op = .mapUpdate t m x v) (k e : TypeId) (ht : P.underlying t = some (.map k e)) (hk : P.underlying k = some .string) (b : Nat) (l : List (List UInt8 × Value)) (hm : a.eval m = .map (some b)) (h : SMap w b l)
  (key : List UInt8) (hx : a.eval x = sv key) (u : Value) (hv : a.eval v = u) (hK : ∀ w', SMap w' b (put l key u) → Kp (fun j => j = b) w w' → wpList P ops Q rest (a.put o.dst undef) w') : wpList P ops Q (o :: rest) a w :=
 wpList_plain hgd fun _ hK' => wp_mapput t m x v ho k e ht hk b l hm h key hx u hv fun w' h1 h2 => hK' _ _ (hK w' h1 h2)
theorem wp_mapdel {o : Oper} {K : Act → World → Prop} (t k : TypeId) (m x : Operand) (ho : o.op = .call { callee := .builtin .delete, args := #[m, x], argTypes := #[t, k] }) (e : TypeId) (ht : P.underlying t = some (.map k e)) (hk : P.underlying k = some .string) (b : Nat) (l : List (List UInt8 × Value)) (hm : a.eval m = .map (some b)) (h : SMap w b l)
  (key : List UInt8) (hx : a.eval x = sv key) (hK : ∀ w', SMap w' b (del l key) → Kp (fun j => j = b) w w' → K (a.put o.dst (.tuple #[])) w') : o.wp P a w K Q := by
 obtain ⟨w', hr, h1, h2⟩ := run_del (P := P) ht hk h key o.type
 unfold Oper.wp execOp
 simp only [ho, resolve, invoke, builtin, Sem.run_bind, Sem.run_pure, Result.andThen_ok, List.map_toArray, List.map_cons, List.map_nil, hm, hx, hr]
 exact hK w' h1 h2
theorem wpList_mapdel {ops : Array Oper} {rest : List Oper} {o : Oper} (hgd : o.guard = none) (t k : TypeId) (m x : Operand) (ho : o.op = .call { callee := .builtin .delete, args := #[m, x], argTypes := #[t, k] }) (e : TypeId) (ht : P.underlying t = some (.map k e)) (hk : P.underlying k = some .string) (b : Nat) (l : List (List UInt8 × Value)) (hm : a.eval m = .map (some b)) (h : SMap w b l)
  (key : List UInt8) (hx : a.eval x = sv key) (hK : ∀ w', SMap w' b (del l key) → Kp (fun j => j = b) w w' → wpList P ops Q rest (a.put o.dst (.tuple #[])) w') : wpList P ops Q (o :: rest) a w :=
 wpList_plain hgd fun _ hK' => wp_mapdel t k m x ho e ht hk b l hm h key hx fun w' h1 h2 => hK' _ _ (hK w' h1 h2)
end
def Bx (w : World) (b : Nat) (t : TypeId) (v : Value) : Prop := w.heap[b]? = some (.cells #[v] t (0, 0))
theorem Bx.cell {w : World} {b : Nat} {t : TypeId} {v : Value} (h : Bx w b t v) : w.cell? ⟨b, 0, none⟩ = some v := (cell_of_block h).trans rfl
theorem Bx.lt {w : World} {b : Nat} {t : TypeId} {v : Value} (h : Bx w b t v) : b < w.heap.size := (Array.getElem?_eq_some_iff.1 h).1
theorem Bx.kp {w w' : World} {S : Nat → Prop} {b : Nat} {t : TypeId} {v : Value} (h : Bx w b t v) (hk : Kp S w w') (hb : ¬ S b) : Bx w' b t v := (hk.block b h.lt hb).trans h
theorem Bx.new_ (w : World) (t : TypeId) (v : Value) : Bx (w.alloc (.cells #[v] t)) w.heap.size t v := heap_alloc_new w _
def Bx2 (d B : Nat) (n : Nm) (w : World) : Prop := d < B ∧ Bx w B 26 (.pointer (some ⟨d, 0, none⟩)) ∧ Bx w (B + 1) 9 (.string (bstr n))
theorem Bx2.new {d B : Nat} {n : Nm} {w w' : World} (h : Bx2 d B n w) (hk : New w w') : Bx2 d B n w' := ⟨h.1, h.2.1.kp hk id, h.2.2.kp hk id⟩
theorem Bx2.kd {d B : Nat} {n : Nm} {w w' : World} (h : Bx2 d B n w) (hk : Kp (fun k => k = d) w w') : Bx2 d B n w' := ⟨h.1, h.2.1.kp hk (fun e => by have := h.1; omega), h.2.2.kp hk (fun e => by have := h.1; omega)⟩
def lookCreate (s : DS) (n : Nm) : Nat := if goodN n = true then (if (s.find n).isSome = true then 33 else if 64 ≤ s.files.length then 2 else 0) else 32
theorem run_look_at {w : World} {bm : Nat} {xs : List FE} (h : SMap w bm (xs.map FE.ent)) (n : Nm) : (Instr.lookup 83 (.map (some bm)) (.string (bstr n)) false).run Tryz.prog w = .ok ((at? (xs.map FE.ent) n).getD (.pointer none)) w :=
 run_look (P := Tryz.prog) Tryz.underlying83 Tryz.underlying9 (zero_filep w) h n false
theorem SMap.drewN {w : World} {b : Nat} {l : List (List UInt8 × Value)} (h : SMap w b l) (j : Nat) : SMap (w.drewN j) b l := h.keep rfl
set_option maxHeartbeats 2000000 in
theorem Create1_calls (w : World) (d B : Nat) (s : DS) (F : List Nat) (n : Nm) (hB : Bx2 d B n w) (hD : DiskAt w d s F) (hn : n.length ≤ 9223372036854775807) :
  Calls Tryz.prog 146 #[.pointer (some ⟨B + 1, 0, none⟩), .pointer (some ⟨B, 0, none⟩)] w fun e w' => e = .returned (.int .i64 (lookCreate s n : Int)) ∧ New w w' := by
 have c0 := hB.2.1.cell
 have c1 := hB.2.2.cell
 have HB := Lib.hid hB
 have HD := Lib.hid hD
 clear hB hD
 by_cases hg : goodN n = true
 ·cases hf : s.find n with
  | some f =>
   have hs : lookCreate s n = 33 := by unfold lookCreate; rw [if_pos hg, hf]; rfl
   rw [hs]
   have HF := Lib.hid hf
   clear hs hf
   go_enter Tryz.func146, Tryz.ntmps146
   go_wp2_with fail
   refine (good_calls w n hn).mono ?_
   rintro e w1 ⟨rfl, hn1⟩
   rw [hg]
   have HN := Lib.hid hn1
   obtain ⟨bm, xs, hX, -⟩ := HD.out.new hn1
   have f2 : w1.cell? ⟨d, 2, none⟩ = some (.map (some bm)) := (cell_of_block hX.blk).trans rfl
   have d0 := (HB.out.new hn1).2.1.cell
   have d1 := (HB.out.new hn1).2.2.cell
   obtain ⟨x, H2⟩ : ∃ x : FE, Hid (at? (xs.map FE.ent) n = some x.ptr) := by
    rcases hX.look n with ⟨h, _⟩ | ⟨x, l1, l2, _, _, _, h4, _⟩
    ·rw [HF.out] at h; cases h
    ·exact ⟨x, Lib.hid h4⟩
   have hl : ∀ j, (Instr.lookup 83 (.map (some bm)) (.string (bstr n)) false).run Tryz.prog (w1.drewN j) = .ok (.pointer (some ⟨x.b, 0, none⟩)) (w1.drewN j) := fun j => by rw [run_look_at (hX.map.drewN j) n, H2.out]; rfl
   have HX := Lib.hid hX
   clear hn1 hX hg
   go_wp2_with fail
   go_quiet (fail)
   go_wp2_with fail
   go_ret
   exact ⟨rfl, HN.out.trans (Kp.drewN _ _ _) fid fid⟩
  | none =>
   by_cases hl64 : 64 ≤ s.files.length
   ·have hs : lookCreate s n = 2 := by unfold lookCreate; rw [if_pos hg, hf]; simp [hl64]
    rw [hs]
    have HF := Lib.hid hf
    clear hs hf
    go_enter Tryz.func146, Tryz.ntmps146
    go_wp2_with fail
    refine (good_calls w n hn).mono ?_
    rintro e w1 ⟨rfl, hn1⟩
    rw [hg]
    have HN := Lib.hid hn1
    obtain ⟨bm, xs, hX, -⟩ := HD.out.new hn1
    have f2 : w1.cell? ⟨d, 2, none⟩ = some (.map (some bm)) := (cell_of_block hX.blk).trans rfl
    have d0 := (HB.out.new hn1).2.1.cell
    have d1 := (HB.out.new hn1).2.2.cell
    have H2 : Hid (at? (xs.map FE.ent) n = none) := Lib.hid (by
     rcases hX.look n with ⟨_, h⟩ | ⟨x, l1, l2, _, _, h3, _⟩
     ·exact h
     ·rw [HF.out] at h3; cases h3)
    have hl : ∀ j, (Instr.lookup 83 (.map (some bm)) (.string (bstr n)) false).run Tryz.prog (w1.drewN j) = .ok (.pointer none) (w1.drewN j) := fun j => by rw [run_look_at (hX.map.drewN j) n, H2.out]; rfl
    have HX := Lib.hid hX
    clear hn1 hX hg
    go_wp2_with fail
    go_quiet (fail)
    have hsz : ∀ j ty, (Builtin.len_ #[83] ty #[.map (some bm)]).run Tryz.prog (w1.drewN j) = .ok (.int .i64 (s.files.length : Int)) (w1.drewN j) := fun j ty => by
     have := run_size (P := Tryz.prog) Tryz.underlying83 (HX.out.map.drewN j) ty
     rw [this, List.length_map, ← HX.out.perm.length_eq, List.length_map]
    have hq : decide ((s.files.length : Int) ≥ 64) = true := decide_eq_true (by omega)
    go_wp2_with fail
    go_ret
    exact ⟨rfl, HN.out.trans (Kp.drewN _ _ _) fid fid⟩
   ·have hs : lookCreate s n = 0 := by unfold lookCreate; rw [if_pos hg, hf]; simp [hl64]
    rw [hs]
    have HF := Lib.hid hf
    clear hs hf
    go_enter Tryz.func146, Tryz.ntmps146
    go_wp2_with fail
    refine (good_calls w n hn).mono ?_
    rintro e w1 ⟨rfl, hn1⟩
    rw [hg]
    have HN := Lib.hid hn1
    obtain ⟨bm, xs, hX, -⟩ := HD.out.new hn1
    have f2 : w1.cell? ⟨d, 2, none⟩ = some (.map (some bm)) := (cell_of_block hX.blk).trans rfl
    have d0 := (HB.out.new hn1).2.1.cell
    have d1 := (HB.out.new hn1).2.2.cell
    have H2 : Hid (at? (xs.map FE.ent) n = none) := Lib.hid (by
     rcases hX.look n with ⟨_, h⟩ | ⟨x, l1, l2, _, _, h3, _⟩
     ·exact h
     ·rw [HF.out] at h3; cases h3)
    have hl : ∀ j, (Instr.lookup 83 (.map (some bm)) (.string (bstr n)) false).run Tryz.prog (w1.drewN j) = .ok (.pointer none) (w1.drewN j) := fun j => by rw [run_look_at (hX.map.drewN j) n, H2.out]; rfl
    have HX := Lib.hid hX
    clear hn1 hX hg
    go_wp2_with fail
    go_quiet (fail)
    have hsz : ∀ j ty, (Builtin.len_ #[83] ty #[.map (some bm)]).run Tryz.prog (w1.drewN j) = .ok (.int .i64 (s.files.length : Int)) (w1.drewN j) := fun j ty => by
     have := run_size (P := Tryz.prog) Tryz.underlying83 (HX.out.map.drewN j) ty
     rw [this, List.length_map, ← HX.out.perm.length_eq, List.length_map]
    have hq : decide ((s.files.length : Int) ≥ 64) = false := decide_eq_false (by omega)
    go_wp2_with fail
    go_ret
    exact ⟨rfl, HN.out.trans (Kp.drewN _ _ _) fid fid⟩
 ·have hg' : goodN n = false := by simpa using hg
  have hs : lookCreate s n = 32 := by unfold lookCreate; rw [if_neg hg]
  rw [hs]
  clear hs hg
  go_enter Tryz.func146, Tryz.ntmps146
  go_wp2_with fail
  refine (good_calls w n hn).mono ?_
  rintro e w1 ⟨rfl, hn1⟩
  rw [hg']
  have HN := Lib.hid hn1
  clear hn1 hg'
  go_wp2_with fail
  go_ret
  exact ⟨rfl, HN.out⟩
theorem nodup_swap {p q a a' : List Nat} (h : (p ++ (a ++ q)).Nodup) (ha : a'.Nodup) (hin : ∀ k ∈ a', k ∈ a ∨ (k ∉ p ∧ k ∉ q)) : (p ++ (a' ++ q)).Nodup := by
 obtain ⟨h1, h2, h3⟩ := List.nodup_append.1 h
 obtain ⟨h4, h5, h6⟩ := List.nodup_append.1 h2
 refine List.nodup_append.2 ⟨h1, List.nodup_append.2 ⟨ha, h5, fun x hx y hy e => ?_⟩, fun x hx y hy e => ?_⟩
 ·subst e
  rcases hin x hx with h | ⟨_, h⟩
  ·exact h6 x h x hy rfl
  ·exact h hy
 ·subst e
  rcases List.mem_append.1 hy with hy | hy
  ·rcases hin x hy with h | ⟨h, _⟩
   ·exact h3 x hx x (List.mem_append_left _ h) rfl
   ·exact h hx
  ·exact h3 x hx x (List.mem_append_right _ hy) rfl
theorem fpD_cut (d bm : Nat) (l1 l2 : List FE) (x : FE) : fpD d bm (l1 ++ x :: l2) = (d :: bm :: l1.flatMap FE.blk) ++ (x.blk ++ l2.flatMap FE.blk) := by simp [fpD]
theorem DiskX.swap {w : World} {d bm : Nat} {s : DS} {l1 l2 : List FE} {x x' : FE} (h : DiskX w d s bm (l1 ++ x :: l2)) (hx : x'.blk.Nodup) (hin : ∀ k ∈ x'.blk, k ∈ x.blk ∨ w.heap.size ≤ k) : (fpD d bm (l1 ++ x' :: l2)).Nodup := by
 have ho := h.own
 have hlt := h.lt
 rw [fpD_cut] at ho hlt ⊢
 refine nodup_swap ho hx fun k hk => (hin k hk).imp id fun hge => ⟨fun hm => ?_, fun hm => ?_⟩
 ·have := hlt k (List.mem_append_left _ hm)
  omega
 ·have := hlt k (List.mem_append_right _ (List.mem_append_right _ hm))
  omega
theorem blk_nodup {x : FE} (h : ¬ Bk x.A x.b) : x.blk.Nodup := List.nodup_cons.2 ⟨fun hm => h (mem_bks.1 hm), bks_nodup _⟩
theorem DiskX.push_nodup {w : World} {d bm : Nat} {s : DS} {xs : List FE} {x : FE} (h : DiskX w d s bm xs) (hx : x.blk.Nodup) (hin : ∀ k ∈ x.blk, w.heap.size ≤ k) : (fpD d bm (xs ++ [x])).Nodup := by
 have e : fpD d bm (xs ++ [x]) = fpD d bm xs ++ x.blk := by simp [fpD]
 rw [e]
 refine List.nodup_append.2 ⟨h.own, hx, fun a ha b hb e => ?_⟩
 subst e
 have := h.lt a ha
 have := hin a hb
 omega
theorem put_new {l : List (List UInt8 × Value)} {k : List UInt8} {v : Value} (h : at? l k = none) : put l k v = l ++ [(k, v)] := by
 unfold put
 rw [any_of_at]
 unfold at? at h
 cases hf : l.find? (fun x => x.1 == k) with
 | none => rfl
 | some x => rw [hf] at h; cases h
set_option maxRecDepth 100000 in
set_option maxHeartbeats 2000000 in
theorem Create2_calls (w : World) (d B : Nat) (s : DS) (F : List Nat) (n : Nm) (hB : Bx2 d B n w) (hBF : ∀ k ∈ F, k < B) (hD : DiskAt w d s F) (hg : goodN n = true) (hf : s.find n = none) (hl : s.files.length < 64) :
  Calls Tryz.prog 148 #[.pointer (some ⟨B, 0, none⟩), .pointer (some ⟨B + 1, 0, none⟩)] w fun e w' => e = .returned (.tuple #[]) ∧ ∃ F', DiskAt w' d { s with files := ins ⟨n, [], 0⟩ s.files } F' ∧ Mv F F' w w' := by
 obtain ⟨bm, xs, hX, rfl⟩ := hD
 have c0 := hB.2.1.cell
 have c1 := hB.2.2.cell
 have c2 : w.cell? ⟨d, 2, none⟩ = some (.map (some bm)) := (cell_of_block hX.blk).trans rfl
 have hbl := hB.2.2.lt
 have hF := hf
 have hA : at? (xs.map FE.ent) n = none := by
  rcases hX.look n with ⟨_, h⟩ | ⟨x, l1, l2, _, _, h3, _⟩
  ·exact h
  ·rw [hF] at h3; cases h3
 have H := Lib.hid (And.intro hX (And.intro hA (And.intro hf hg)))
 have hmo : Tryz.prog.follows Departure.mixedOrders = true := by kernel_rfl
 clear hX hA hf hF hg hB
 go_enter Tryz.func148, Tryz.ntmps148
 go_wp2_with fail
 refine wp_region_line (fun w' => w'.cell? ⟨B, 0, none⟩ = some (.pointer (some ⟨d, 0, none⟩)) ∧ w'.cell? ⟨B + 1, 0, none⟩ = some (.string (bstr n)) ∧ w'.cell? ⟨d, 2, none⟩ = some (.map (some bm))) (pl := [(0, true), (1, true), (2, true), (3, true), (4, true), (5, true), (6, false), (7, false)]) hmo (by kernel_rfl) ⟨by simpa using c0, by simpa using c1, by simpa using c2⟩ ?_
 iterate 6 (refine line_get rfl rfl (fun K hK => ?_); apply Exists.intro; refine ⟨fun w s => ?_, ?_⟩; (first | (have q := s rfl; go_simp; with_reducible rfl) | (go_simp; with_reducible rfl)); (go_simp; refine hK _ ?_; clear hK K))
 (refine line_do rfl rfl (fun K hK => ?_); go_simp)
 have n1 : New w (w.alloc (.cells #[.slice none 0 0, .int .i64 0] 90)).drew := (Kp.alloc _ _ _).trans (Kp.drew _ _) fid fid
 refine hK _ _ (fun _ => ⟨New.cell n1 c0, New.cell n1 c1, New.cell n1 c2⟩) ?_
 clear hK K
 have g1 : (w.alloc (.cells #[.slice none 0 0, .int .i64 0] 90)).drew.heap[w.heap.size]? = some (.cells #[.slice none 0 0, .int .i64 0] 90 (0, 0)) := heap_alloc_new w _
 have z1 : (w.alloc (.cells #[.slice none 0 0, .int .i64 0] 90)).drew.heap.size = w.heap.size + 1 := by simp
 generalize (w.alloc (.cells #[.slice none 0 0, .int .i64 0] 90)).drew = w1 at n1 g1 z1
 refine line_do rfl rfl (fun K hK => ?_)
 refine wp_mapput 83 (.tmp 5) (.tmp 6) (.tmp 8) rfl 9 87 Tryz.underlying83 Tryz.underlying9 bm (xs.map FE.ent) rfl (H.out.1.new n1).map n rfl (.pointer (some ⟨w.heap.size, 0, none⟩)) rfl ?_
 intro w2 hm2 hk2
 refine hK _ _ (no_need (by kernel_rfl)) ?_
 clear hK K
 refine line_nil ?_
 go_end0
 have hdb : d ≠ bm := fun e => by have := H.out.1.own; unfold fpD at this; simp [e] at this
 have hbx : ∀ x ∈ xs, ∀ k ∈ x.blk, k ≠ bm := fun x hx k hk e => by
  have := (List.nodup_cons.1 (List.nodup_cons.1 H.out.1.own).2).1
  exact this (e ▸ List.mem_flatMap.2 ⟨x, hx, hk⟩)
 have hX1 := H.out.1.new n1
 have hbm := H.out.1.map.lt
 rw [put_new H.out.2.1] at hm2
 have hk : Kp (fun k => k = bm) w w2 := n1.trans hk2 (fun _ _ h => h.elim) fid
 refine ⟨rfl, _, ⟨bm, xs ++ [⟨⟨n, [], 0⟩, w.heap.size, none, 0⟩], ⟨(hk2.block d (by have := hX1.lt d (mem_fpD.2 (.inl rfl)); omega) hdb).trans hX1.blk |>.trans ?_, ?_, fun x hx => ?_, ?_, ?_, H.out.1.ok.create n H.out.2.2.2 H.out.2.2.1 hl⟩, rfl⟩, hk.mono (fun k _ e => e ▸ mem_fpD.2 (.inr (.inl rfl))), fun k hk' => ?_⟩
 ·unfold dcells DS.used
  simp only [used_ins]
  simp
 ·simpa [FE.ent, FE.ptr] using hm2
 ·rcases List.mem_append.1 hx with hx | hx
  ·exact ⟨(hk2.block x.b (by have := (Array.getElem?_eq_some_iff.1 (hX1.file x hx).1).1; exact this) (hbx x hx _ List.mem_cons_self)).trans (hX1.file x hx).1, (hX1.file x hx).2.kp hk2 fun k hb => hbx x hx k (List.mem_cons_of_mem _ (mem_bks.2 hb))⟩
  ·obtain rfl := List.mem_singleton.1 hx
   refine ⟨(hk2.block w.heap.size (by omega) (by omega)).trans g1, ?_⟩
   exact Own.nil _ _ _
 ·exact H.out.1.push_nodup (blk_nodup Bk.none_) (fun k hk => by simp [FE.blk, bks] at hk; omega)
 ·rw [List.map_append]
  exact (List.perm_append_comm.trans (H.out.1.perm.cons _)).trans (ins_perm _ _).symm
 ·rcases mem_fpD.1 hk' with rfl | rfl | ⟨x, hx, hb⟩
  ·exact .inl (mem_fpD.2 (.inl rfl))
  ·exact .inl (mem_fpD.2 (.inr (.inl rfl)))
  ·rcases List.mem_append.1 hx with hx | hx
   ·exact .inl (mem_fpD.2 (.inr (.inr ⟨x, hx, hb⟩)))
   ·obtain rfl := List.mem_singleton.1 hx
    rcases hb with rfl | hb
    ·exact .inr (Nat.le_refl _)
    ·exact absurd hb Bk.none_
set_option maxHeartbeats 1000000 in
theorem Create_calls (w : World) (d : Nat) (s : DS) (F : List Nat) (n : Nm) (hD : DiskAt w d s F) (hn : n.length ≤ 9223372036854775807) :
  Calls Tryz.prog 42 #[.pointer (some ⟨d, 0, none⟩), .string (bstr n)] w (ChangePost d F w (s.create n)) := by
 have HD := Lib.hid hD
 clear hD
 go_enter Tryz.func42, Tryz.ntmps42
 go_wp2_with fail
 obtain ⟨w1, hw1⟩ : ∃ w1, (w.alloc (.cells #[.pointer (some ⟨d, 0, none⟩)] 26)).alloc (.cells #[.string (bstr n)] 9) = w1 := ⟨_, rfl⟩
 rw [hw1]
 have n1 : New w w1 := hw1 ▸ (Kp.alloc _ _ _).trans (Kp.alloc _ _ _) fid fid
 have hB : Bx2 d w.heap.size n w1 := ⟨HD.out.lt d HD.out.mem, hw1 ▸ (Bx.new_ w _ _).kp (Kp.alloc (fun _ => False) _ _) id, hw1 ▸ (by have := Bx.new_ (w.alloc (.cells #[.pointer (some ⟨d, 0, none⟩)] 26)) 9 (.string (bstr n)); rwa [World.size_alloc] at this)⟩
 refine (changing_calls w1 d s F (HD.out.new n1) 146 148 (Go.Proofs.enters_of Tryz.func146 (by kernel_rfl) rfl) (Go.Proofs.enters_of Tryz.func148 (by kernel_rfl) rfl) _ _ (Bx2 d w.heap.size n) hB (fun _ _ h k => h.new k) (fun _ _ h k => h.kd k) (lookCreate s n) (fun s => { s with files := ins ⟨n, [], 0⟩ s.files })
  (fun w hB hD => Create1_calls w d _ s F n hB hD hn) (fun h0 _ w fuse hB hD => ?_)).mono ?_
 ·have hlk : goodN n = true ∧ s.find n = none ∧ s.files.length < 64 := by
   unfold lookCreate at h0
   split at h0
   ·rename_i hg
    split at h0
    ·cases h0
    ·rename_i hf
     split at h0
     ·cases h0
     ·exact ⟨hg, by simpa using hf, by omega⟩
   ·cases h0
  exact Create2_calls w d _ { s with fuse := fuse } F n hB (fun k hk => HD.out.lt k hk) hD hlk.1 hlk.2.1 hlk.2.2
 ·rintro e w2 ⟨rfl, F', h1, h2⟩
  have HE := Lib.hid (And.intro h1 (And.intro h2 n1))
  clear h1 h2 n1 hB hw1
  go_wp2_with fail
  go_ret
  exact ⟨rfl, F', HE.out.1, (Mv.of_new HE.out.2.2).trans HE.out.2.1⟩
theorem DiskX.blk_ne {w : World} {d bm : Nat} {s : DS} {l1 l2 : List FE} {x : FE} (h : DiskX w d s bm (l1 ++ x :: l2)) : (∀ k ∈ x.blk, k ≠ d ∧ k ≠ bm) ∧ (∀ y ∈ l1 ++ l2, ∀ k ∈ y.blk, k ≠ d ∧ k ≠ bm ∧ k ∉ x.blk) ∧ d ≠ bm := by
 have ho := h.own
 rw [fpD_cut] at ho
 obtain ⟨h1, h2, h3⟩ := List.nodup_append.1 ho
 obtain ⟨h4, h5, h6⟩ := List.nodup_append.1 h2
 obtain ⟨h7, h8⟩ := List.nodup_cons.1 h1
 obtain ⟨h9, h10⟩ := List.nodup_cons.1 h8
 refine ⟨fun k hk => ⟨fun e => ?_, fun e => ?_⟩, fun y hy k hk => ⟨fun e => ?_, fun e => ?_, fun e => ?_⟩, fun e => h7 (e ▸ List.mem_cons_self)⟩
 ·exact h3 d List.mem_cons_self k (List.mem_append_left _ hk) e.symm
 ·exact h3 bm (List.mem_cons_of_mem _ List.mem_cons_self) k (List.mem_append_left _ hk) e.symm
 ·subst e
  rcases List.mem_append.1 hy with hy | hy
  ·exact h7 (List.mem_cons_of_mem _ (List.mem_flatMap.2 ⟨y, hy, hk⟩))
  ·exact h3 k List.mem_cons_self k (List.mem_append_right _ (List.mem_flatMap.2 ⟨y, hy, hk⟩)) rfl
 ·subst e
  rcases List.mem_append.1 hy with hy | hy
  ·exact h9 (List.mem_flatMap.2 ⟨y, hy, hk⟩)
  ·exact h3 k (List.mem_cons_of_mem _ List.mem_cons_self) k (List.mem_append_right _ (List.mem_flatMap.2 ⟨y, hy, hk⟩)) rfl
 ·rcases List.mem_append.1 hy with hy | hy
  ·exact h3 k (List.mem_cons_of_mem _ (List.mem_cons_of_mem _ (List.mem_flatMap.2 ⟨y, hy, hk⟩))) k (List.mem_append_left _ e) rfl
  ·exact h6 k e k (List.mem_flatMap.2 ⟨y, hy, hk⟩) rfl
theorem FE.at_.kp {w w' : World} {x : FE} {S : Nat → Prop} (h : x.at_ w) (hk : Kp S w w') (hS : ∀ k ∈ x.blk, ¬ S k) : x.at_ w' :=
 ⟨(hk.block x.b (Array.getElem?_eq_some_iff.1 h.1).1 (hS x.b List.mem_cons_self)).trans h.1, h.2.kp hk fun k hb => hS k (List.mem_cons_of_mem _ (mem_bks.2 hb))⟩
theorem DiskX.upd {w w' : World} {d bm : Nat} {s s' : DS} {l1 l2 : List FE} {x x' : FE} {S : Nat → Prop} (h : DiskX w d s bm (l1 ++ x :: l2)) (hk : Kp S w w') (hS : ∀ k, S k → k = d ∨ k ∈ x.blk) (hb : w'.heap[d]? = some (.cells (dcells s' bm) 85 (0, 0)))
  (hn : x'.f.name = x.f.name) (hxb : x'.b = x.b) (hx : x'.at_ w') (hin : ∀ k, Bk x'.A k → Bk x.A k ∨ w.heap.size ≤ k) (u : Fl → Fl) (hu : x'.f = u x.f) (hf : s'.files = updF x.f.name u s.files) (ok : s'.Ok) : DiskX w' d s' bm (l1 ++ x' :: l2) := by
 obtain ⟨n1, n2, n3⟩ := h.blk_ne
 have hbm : ¬ S bm := fun hs => (hS bm hs).elim (fun e => n3 e.symm) (fun hm => (n1 bm hm).2 rfl)
 have hlt := h.lt
 refine ⟨hb, ?_, fun y hy => ?_, h.swap (blk_nodup fun hbk => ?_) (fun k hk => ?_), ?_, ok⟩
 ·have e : (l1 ++ x' :: l2).map FE.ent = (l1 ++ x :: l2).map FE.ent := by
   rw [List.map_append, List.map_append, List.map_cons, List.map_cons]
   have : x'.ent = x.ent := by unfold FE.ent FE.ptr; rw [hn, hxb]
   rw [this]
  rw [e]
  exact h.map.keep (hk.block bm h.map.lt hbm)
 ·rcases List.mem_append.1 hy with hy | hy
  ·exact (h.file y (List.mem_append_left _ hy)).kp hk fun k hkk hs => (hS k hs).elim (n2 y (List.mem_append_left _ hy) k hkk).1 (n2 y (List.mem_append_left _ hy) k hkk).2.2
  ·rcases List.mem_cons.1 hy with rfl | hy
   ·exact hx
   ·exact (h.file y (List.mem_append_right _ (List.mem_cons_of_mem _ hy))).kp hk fun k hkk hs => (hS k hs).elim (n2 y (List.mem_append_right _ hy) k hkk).1 (n2 y (List.mem_append_right _ hy) k hkk).2.2
 ·rw [hxb] at hbk
  rcases hin _ hbk with hbk | hge
  ·have := (List.nodup_append.1 (List.nodup_append.1 (fpD_cut d bm l1 l2 x ▸ h.own)).2.1).1
   exact (List.nodup_cons.1 this).1 (mem_bks.2 hbk)
  ·have := hlt x.b (mem_fpD.2 (.inr (.inr ⟨x, by simp, .inl rfl⟩)))
   omega
 ·rcases List.mem_cons.1 hk with rfl | hk
  ·exact .inl (hxb ▸ List.mem_cons_self)
  ·exact (hin k (mem_bks.1 hk)).imp (fun hb => List.mem_cons_of_mem _ (mem_bks.2 hb)) id
 ·have hne : ∀ y ∈ l1 ++ l2, y.f.name ≠ x.f.name := nodup_of_map h.names rfl
  have e : (l1 ++ x' :: l2).map FE.f = updF x.f.name u ((l1 ++ x :: l2).map FE.f) := by
   rw [List.map_append, List.map_append, List.map_cons, List.map_cons, updF_cut rfl, hu]
   intro g hg
   rw [← List.map_append] at hg
   obtain ⟨y, hy, rfl⟩ := List.mem_map.1 hg
   exact hne y hy
  rw [e, hf]
  exact h.perm.map _
theorem Mv.upd {w w' : World} {d bm : Nat} {l1 l2 : List FE} {x x' : FE} {S : Nat → Prop} (hk : Kp S w w') (hS : ∀ k, S k → k = d ∨ k ∈ x.blk) (hxb : x'.b = x.b) (hin : ∀ k, Bk x'.A k → Bk x.A k ∨ w.heap.size ≤ k) : Mv (fpD d bm (l1 ++ x :: l2)) (fpD d bm (l1 ++ x' :: l2)) w w' := by
 have hx : ∀ k ∈ x.blk, k ∈ fpD d bm (l1 ++ x :: l2) := fun k hk => by rw [fpD_cut]; exact List.mem_append_right _ (List.mem_append_left _ hk)
 refine ⟨hk.mono fun k _ hs => (hS k hs).elim (fun e => e ▸ mem_fpD.2 (.inl rfl)) (hx k), fun k hk => ?_⟩
 rw [fpD_cut] at hk ⊢
 rcases List.mem_append.1 hk with hk | hk
 ·exact .inl (List.mem_append_left _ hk)
 ·rcases List.mem_append.1 hk with hk | hk
  ·rcases List.mem_cons.1 hk with rfl | hk
   ·exact .inl (List.mem_append_right _ (List.mem_append_left _ (hxb ▸ List.mem_cons_self)))
   ·exact (hin k (mem_bks.1 hk)).imp (fun hb => List.mem_append_right _ (List.mem_append_left _ (List.mem_cons_of_mem _ (mem_bks.2 hb)))) id
  ·exact .inl (List.mem_append_right _ (List.mem_append_right _ hk))
theorem DiskX.updAt {w w' : World} {d bm : Nat} {s s' : DS} {l1 l2 : List FE} {x x' : FE} {S : Nat → Prop} (h : DiskX w d s bm (l1 ++ x :: l2)) (hk : Kp S w w') (hS : ∀ k, S k → k = d ∨ k ∈ x.blk) (hb : w'.heap[d]? = some (.cells (dcells s' bm) 85 (0, 0)))
  (hn : x'.f.name = x.f.name) (hxb : x'.b = x.b) (hx : x'.at_ w') (hin : ∀ k, Bk x'.A k → Bk x.A k ∨ w.heap.size ≤ k) (u : Fl → Fl) (hu : x'.f = u x.f) (hf : s'.files = updF x.f.name u s.files) (ok : s'.Ok) : ∃ F', DiskAt w' d s' F' ∧ Mv (fpD d bm (l1 ++ x :: l2)) F' w w' :=
 ⟨_, ⟨bm, _, h.upd hk hS hb hn hxb hx hin u hu hf ok, rfl⟩, Mv.upd hk hS hxb hin⟩
theorem del_ents {l1 l2 : List FE} {x : FE} {n : Nm} (hn : x.f.name = n) (hne : ∀ y ∈ l1 ++ l2, y.f.name ≠ n) : del ((l1 ++ x :: l2).map FE.ent) n = (l1 ++ l2).map FE.ent := by
 have hid : ∀ {l : List FE}, (∀ y ∈ l, y.f.name ≠ n) → (l.map FE.ent).filter (fun x => x.1 != n) = l.map FE.ent := fun {l} hl => List.filter_eq_self.2 fun g hg => by
  obtain ⟨y, hy, rfl⟩ := List.mem_map.1 hg
  simpa [FE.ent] using hl y hy
 unfold del
 rw [List.map_append, List.map_cons, List.filter_append, List.filter_cons_of_neg (by simp [FE.ent, hn]), hid fun y hy => hne y (List.mem_append_left _ hy), hid fun y hy => hne y (List.mem_append_right _ hy), List.map_append]
theorem fpD_sub {d bm : Nat} {l1 l2 : List FE} {x : FE} : (fpD d bm (l1 ++ l2)).Sublist (fpD d bm (l1 ++ x :: l2)) := by
 unfold fpD
 rw [List.flatMap_append, List.flatMap_append, List.flatMap_cons]
 exact ((List.Sublist.refl _).append (List.sublist_append_right _ _)).cons_cons _ |>.cons_cons _
theorem DiskX.rem {w w' : World} {d bm : Nat} {s s' : DS} {l1 l2 : List FE} {x : FE} {S : Nat → Prop} (h : DiskX w d s bm (l1 ++ x :: l2)) (hk : Kp S w w') (hS : ∀ k, S k → k = d ∨ k = bm) (hb : w'.heap[d]? = some (.cells (dcells s' bm) 85 (0, 0)))
  (hm : SMap w' bm (del ((l1 ++ x :: l2).map FE.ent) x.f.name)) (hf : s'.files = outF x.f.name s.files) (ok : s'.Ok) : DiskX w' d s' bm (l1 ++ l2) := by
 obtain ⟨n1, n2, n3⟩ := h.blk_ne
 have hne : ∀ y ∈ l1 ++ l2, y.f.name ≠ x.f.name := nodup_of_map h.names rfl
 have hin : ∀ y ∈ l1 ++ l2, y ∈ l1 ++ x :: l2 := fun y hy => by rcases List.mem_append.1 hy with hy | hy <;> simp [hy]
 refine ⟨hb, by rwa [del_ents rfl hne] at hm, fun y hy => (h.file y (hin y hy)).kp hk fun k hkk hs => (hS k hs).elim (n2 y hy k hkk).1 (n2 y hy k hkk).2.1, fpD_sub.nodup h.own, ?_, ok⟩
 have e : (l1 ++ l2).map FE.f = outF x.f.name ((l1 ++ x :: l2).map FE.f) := by
  rw [List.map_append, List.map_append, List.map_cons, outF_cut rfl]
  intro g hg
  rw [← List.map_append] at hg
  obtain ⟨y, hy, rfl⟩ := List.mem_map.1 hg
  exact hne y hy
 rw [e, hf]
 exact h.perm.filter _
theorem DiskX.remAt {w w' : World} {d bm : Nat} {s s' : DS} {l1 l2 : List FE} {x : FE} {S : Nat → Prop} (h : DiskX w d s bm (l1 ++ x :: l2)) (hk : Kp S w w') (hS : ∀ k, S k → k = d ∨ k = bm) (hb : w'.heap[d]? = some (.cells (dcells s' bm) 85 (0, 0)))
  (hm : SMap w' bm (del ((l1 ++ x :: l2).map FE.ent) x.f.name)) (hf : s'.files = outF x.f.name s.files) (ok : s'.Ok) : ∃ F', DiskAt w' d s' F' ∧ Mv (fpD d bm (l1 ++ x :: l2)) F' w w' :=
 ⟨_, ⟨bm, _, h.rem hk hS hb hm hf ok, rfl⟩, hk.mono fun k _ hs => (hS k hs).elim (fun e => e ▸ mem_fpD.2 (.inl rfl)) (fun e => e ▸ mem_fpD.2 (.inr (.inl rfl))), fun _ hk => .inl (fpD_sub.subset hk)⟩
set_option maxRecDepth 100000 in
set_option maxHeartbeats 2000000 in
theorem RAt_calls (w : World) (r c : Nat) (s : DS) (A : Option Addr) (ys : List FV) (n : Nm) (h : RefX w r s A c ys) :
  Calls Tryz.prog 203 #[.pointer (some ⟨r, 0, none⟩), .string (bstr n)] w fun e w' => e = .returned (.int .i64 (findZ s.files n)) ∧ w = w' := by
 have c1 : w.cell? ⟨r, 1, none⟩ = some (.slice A ys.length c) := (cell_of_block h.blk).trans rfl
 have hl := h.few
 rw [← h.files]
 have HI := Lib.hid h
 clear h
 go_enter Tryz.func203, Tryz.ntmps203
 go_wp2_with fail
 go_loop [5] (fun i => ∃ k : Nat, k ≤ ys.length ∧ i = .int .i64 (k : Int) ∧ Hid (∀ j z, j < k → ys[j]? = some z → z.f.name ≠ n)) (fun i => ys.length - (intOf i).toNat)
 case atStart => exact ⟨0, Nat.zero_le _, rfl, Lib.hid fun j z hj => absurd hj (Nat.not_lt_zero _)⟩
 case round =>
  obtain ⟨k, hk, rfl, HK⟩ := hrel
  have hk0 : (0 : Int) ≤ k := by omega
  by_cases hlt : k < ys.length
  ·have hki : (k : Int) < (ys.length : Int) := by omega
   obtain ⟨y, hy⟩ : ∃ y, ys[k]? = some y := ⟨_, List.getElem?_eq_getElem hlt⟩
   obtain ⟨g, rfl, r0, -, -, -⟩ := HI.out.own.at_ hy
   have HY := Lib.hid hy
   clear hy
   by_cases hq : y.f.name = n
   ·have hb : ((bstr y.f.name).toList == (bstr n).toList) = true := by rw [bstr_beq, decide_eq_true hq]
    have HQ := Lib.hid hq
    clear hq
    go_wp2_with fail
    go_ret
    exact ⟨by rw [findZ_at HY.out HQ.out HK.out]; rfl, rfl⟩
   ·have hb := bstr_ne hq
    have HQ := Lib.hid hq
    clear hq
    go_wp2_with fail
    exact ⟨⟨k + 1, by omega, by go_num, Lib.hid fun j z hj hz => by
     rcases Nat.lt_or_ge j k with h | h
     ·exact HK.out j z h hz
     ·obtain rfl : j = k := by omega
      obtain rfl : y = z := Option.some.inj (HY.out.symm.trans hz)
      exact HQ.out⟩, by simp [intOf]; omega⟩
  ·obtain rfl : k = ys.length := by omega
   have hkd : decide (ys.length < ys.length) = false := by simp
   go_wp2_with fail
   go_ret
   exact ⟨by rw [findZ_no HK.out]; rfl, rfl⟩
theorem findZ_or (l : List Fl) (n : Nm) : (findZ l n = -1 ∧ l.find? (fun f => f.name == n) = none) ∨ (0 ≤ findZ l n ∧ (l.find? (fun f => f.name == n)).isSome = true) := by
 unfold findZ
 cases h : l.findIdx? (fun f => f.name == n) with
 | none => exact .inl ⟨rfl, List.find?_eq_none.2 fun x hx => by rw [List.findIdx?_eq_none_iff] at h; simpa using h x hx⟩
 | some i =>
  rw [List.findIdx?_eq_some_iff_getElem] at h
  exact .inr ⟨by simp, List.find?_isSome.2 ⟨l[i]'h.1, List.getElem_mem h.1, h.2.1⟩⟩
def placeZ (s : DS) (n : Nm) : Int := if s.there n = 0 then findZ s.files n else 0
set_option maxRecDepth 100000 in
set_option maxHeartbeats 2000000 in
theorem RThere_calls (w : World) (r c : Nat) (s : DS) (A : Option Addr) (ys : List FV) (n : Nm) (h : RefX w r s A c ys) (hn : n.length ≤ 9223372036854775807) :
  Calls Tryz.prog 206 #[.pointer (some ⟨r, 0, none⟩), .string (bstr n)] w fun e w' => e = .returned (.tuple #[.int .i64 (placeZ s n), .int .i64 (s.there n : Int)]) ∧ w = w' := by
 have HI := Lib.hid h
 clear h
 by_cases hg : goodN n = true
 ·rcases findZ_or s.files n with ⟨h1, h2⟩ | ⟨h1, h2⟩
  ·have ht : s.there n = 31 := by unfold DS.there DS.find; rw [if_pos hg, h2]; rfl
   have hp : placeZ s n = 0 := by unfold placeZ; rw [ht]; rfl
   rw [ht, hp]
   have HG := Lib.hid hg
   have H1 := Lib.hid h1
   clear h1 h2 ht hp hg
   go_enter Tryz.func206, Tryz.ntmps206
   go_wp2_with fail
   refine (RName_calls w n hn).mono ?_
   rintro e x ⟨rfl, rfl⟩
   rw [HG.out]
   go_wp2_with fail
   refine (RAt_calls w r c s A ys n HI.out).mono ?_
   rintro e x ⟨rfl, rfl⟩
   rw [H1.out]
   go_wp2_with fail
   go_ret2
   exact ⟨rfl, rfl⟩
  ·have ht : s.there n = 0 := by unfold DS.there DS.find; rw [if_pos hg, if_pos h2]
   have hp : placeZ s n = findZ s.files n := by unfold placeZ; rw [if_pos ht]
   rw [ht, hp]
   have HG := Lib.hid hg
   obtain ⟨z, hz⟩ : ∃ z, findZ s.files n = z := ⟨_, rfl⟩
   have H1 := Lib.hid hz
   rw [hz] at h1 ⊢
   have h1d : decide (z < 0) = false := decide_eq_false (by omega)
   clear h2 ht hp hg hz
   go_enter Tryz.func206, Tryz.ntmps206
   go_wp2_with fail
   refine (RName_calls w n hn).mono ?_
   rintro e x ⟨rfl, rfl⟩
   rw [HG.out]
   go_wp2_with fail
   refine (RAt_calls w r c s A ys n HI.out).mono ?_
   rintro e x ⟨rfl, rfl⟩
   rw [H1.out]
   go_wp2_with fail
   go_ret2
   exact ⟨rfl, rfl⟩
 ·have ht : s.there n = 32 := by unfold DS.there; rw [if_neg hg]
  have hp : placeZ s n = 0 := by unfold placeZ; rw [ht]; rfl
  have HG := Lib.hid (show goodN n = false by simpa using hg)
  rw [ht, hp]
  clear hg ht hp
  go_enter Tryz.func206, Tryz.ntmps206
  go_wp2_with fail
  refine (RName_calls w n hn).mono ?_
  rintro e x ⟨rfl, rfl⟩
  rw [HG.out]
  go_wp2_with fail
  go_ret2
  exact ⟨rfl, rfl⟩
def DS.power (s : DS) : DS := if s.fuse = 0 then { s with down := true, fuse := -1 } else { s with fuse := if 0 < s.fuse then s.fuse - 1 else s.fuse }
theorem DS.power_files (s : DS) : s.power.files = s.files := by unfold DS.power; split <;> rfl
theorem DS.power_cap (s : DS) : s.power.cap = s.cap := by unfold DS.power; split <;> rfl
theorem DS.Ok.power {s : DS} (h : s.Ok) (hd : s.down = false) : s.power.Ok := by
 unfold DS.power
 split
 ·exact ⟨h.cap, h.used, h.few, h.rise, h.good, h.syn, by simp, fun _ => rfl⟩
 ·rename_i hf
  have := h.fuse
  exact ⟨h.cap, h.used, h.few, h.rise, h.good, h.syn, by dsimp; split <;> omega, fun hd' => by rw [hd] at hd'; cases hd'⟩
theorem RefX.setD {w w' : World} {r c : Nat} {s s' : DS} {A : Option Addr} {ys : List FV} (h : RefX w r s A c ys) (hb : w'.heap[r]? = some (.cells #[.int .i64 (s'.cap : Int), .slice A ys.length c, .int .i64 s'.fuse, .bool s'.down] 93 (0, 0))) (hk : Kp (fun k => k = r) w w') (hf : s'.files = s.files) (hok : s'.Ok) : RefX w' r s' A c ys :=
 ⟨hb, h.own.kp hk fun _ hm e => h.out (e ▸ hm), h.out, h.files.trans hf.symm, hok⟩
set_option maxRecDepth 100000 in
set_option maxHeartbeats 2000000 in
theorem RPower_calls (w : World) (r c : Nat) (s : DS) (A : Option Addr) (ys : List FV) (h : RefX w r s A c ys) (hd : s.down = false) :
  Calls Tryz.prog 204 #[.pointer (some ⟨r, 0, none⟩)] w fun e w' => e = .returned (.bool (!decide (s.fuse = 0))) ∧ RefX w' r s.power A c ys ∧ Kp (fun k => k = r) w w' := by
 have hfu := h.ok.fuse
 have hb := h.blk
 have c2 : w.cell? ⟨r, 2, none⟩ = some (.int .i64 s.fuse) := (cell_of_block hb).trans rfl
 have z2 : w.frozen? ⟨r, 2, none⟩ = false := by simp [World.frozen?, hb]
 have c3 : w.cell? ⟨r, 3, none⟩ = some (.bool s.down) := (cell_of_block hb).trans rfl
 have z3 : w.frozen? ⟨r, 3, none⟩ = false := by simp [World.frozen?, hb]
 have H := Lib.hid (And.intro h (And.intro hb hd))
 clear h hb hd
 by_cases hf : s.fuse = 0
 ·have hp : s.power = { s with down := true, fuse := -1 } := by unfold DS.power; rw [if_pos hf]
  rw [hp, hf]
  rw [hf] at c2
  have HF := Lib.hid (And.intro hf hp)
  clear hf hp hfu
  go_enter Tryz.func204, Tryz.ntmps204
  go_wp2_with fail
  go_ret
  have k1 : Kp (fun k => k = r) w (w.setCell ⟨r, 3, none⟩ (.bool true)) := Kp.setCell _ _ _ rfl
  have k2 : Kp (fun k => k = r) (w.setCell ⟨r, 3, none⟩ (.bool true)) ((w.setCell ⟨r, 3, none⟩ (.bool true)).setCell ⟨r, 2, none⟩ (.int .i64 (-1))) := Kp.setCell _ _ _ rfl
  have kk := k1.trans k2 fid fid
  have hb2 := heap_setCell_row (j := 2) (heap_setCell_row (j := 3) H.out.2.1 (.bool true)) (.int .i64 (-1))
  exact ⟨rfl, H.out.1.setD hb2 kk rfl (HF.out.2 ▸ H.out.1.ok.power H.out.2.2), kk⟩
 ·by_cases hf2 : 0 < s.fuse
  ·have hp : s.power = { s with fuse := s.fuse - 1 } := by unfold DS.power; rw [if_neg hf, if_pos hf2]
   have hdf : decide (s.fuse = 0) = false := decide_eq_false hf
   rw [hp, hdf]
   have HF := Lib.hid hp
   clear hp hdf
   obtain ⟨z, hz⟩ : ∃ z, z = s.fuse := ⟨_, rfl⟩
   have hzz : decide (z = 0) = false := by rw [hz]; exact decide_eq_false hf
   rw [← hz] at c2 hfu hf hf2
   have HZ := Lib.hid hz
   clear hz
   go_enter Tryz.func204, Tryz.ntmps204
   go_wp2_with fail
   go_ret
   have hz := HZ.out
   have kk : Kp (fun k => k = r) w (w.setCell ⟨r, 2, none⟩ (.int .i64 (z - 1))) := Kp.setCell _ _ _ rfl
   have hb2 := heap_setCell_row (j := 2) H.out.2.1 (.int .i64 (z - 1))
   exact ⟨rfl, H.out.1.setD (by subst hz; exact hb2) kk rfl (HF.out ▸ H.out.1.ok.power H.out.2.2), kk⟩
  ·have hp : s.power = s := by unfold DS.power; rw [if_neg hf, if_neg hf2]
   have hdf : decide (s.fuse = 0) = false := decide_eq_false hf
   rw [hp, hdf]
   clear hp hdf
   obtain ⟨z, hz⟩ : ∃ z, z = s.fuse := ⟨_, rfl⟩
   have hzz : decide (z = 0) = false := by rw [hz]; exact decide_eq_false hf
   rw [← hz] at c2 hfu hf hf2
   clear hz
   go_enter Tryz.func204, Tryz.ntmps204
   go_wp2_with fail
   go_ret
   exact ⟨rfl, H.out.1, Kp.refl _ _⟩
end Go.Proofs.YtekcoeonlfmebaaGreatDoor.Kit
