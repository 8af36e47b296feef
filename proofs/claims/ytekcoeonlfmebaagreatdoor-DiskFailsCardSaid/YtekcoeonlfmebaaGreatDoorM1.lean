/- 4 texts in one: daybookkeep: the marks of bytes, a page of them: written full, appended to, looked at.; More of rows of a call's own: a cell that is set; an append, and whether it stayed where it was.; daybookkeep: a page of bytes: written full, appended to, looked at.; daybookkeep: a page of bytes, appended to. -/
import Derived.Test.YtekcoeonlfmebaaGreatDoorProg
import Derived.Test.YtekcoeonlfmebaaGreatDoorM0
import Derived.WalkKit
import Derived.OpenShut
import Derived.BigQuiet
import Derived.Deep.QuietTactic
namespace Go.Proofs.YtekcoeonlfmebaaGreatDoor.Kit
open Go Go.RowKit
def patI (id k : Int) : Int := bits .xor .u8 ((id + 1) * 2654435761 % 4294967296 / 2 ^ (8 * (k % 4)).toNat % 256) (k / 4 % 256)
def markB (id k : Nat) : UInt8 := UInt8.ofNat (patI id k).toNat
theorem markB_int (id k : Nat) : ((markB id k).toNat : Int) = patI id k := by
 have h := bounds_u8 (wf_bits .xor .u8 (((id : Int) + 1) * 2654435761 % 4294967296 / 2 ^ (8 * ((k : Int) % 4)).toNat % 256) ((k : Int) / 4 % 256))
 change 0 ≤ patI id k ∧ patI id k ≤ 255 at h
 unfold markB
 rw [UInt8.toNat_ofNat']
 omega
def marksB (id n : Nat) : List UInt8 := (List.range n).map (markB id)
theorem marksB_length (id n : Nat) : (marksB id n).length = n := by simp [marksB]
theorem marksB_snoc (id n : Nat) : marksB id (n + 1) = marksB id n ++ [markB id n] := by simp [marksB, List.range_succ]
theorem marksB_take (id n k : Nat) (h : k ≤ n) : (marksB id n).take k = marksB id k := by
 unfold marksB
 rw [← List.map_take, List.take_range, Nat.min_eq_left h]
theorem marksB_get (id n k : Nat) (h : k < n) : (marksB id n)[k]? = some (markB id k) := by simp [marksB, h]
set_option maxRecDepth 10000 in
theorem pat_calls (w : World) (id k : Nat) (i j : Int) (hi : i = id) (hj : j = k) (h2 : id ≤ 1000000) (h4 : k ≤ 1099511627776) :
  Calls Tryz.prog 256 #[.int .i64 i, .int .i64 j] w fun e w' => e = .returned (.int .u8 ((markB id k).toNat : Int)) ∧ w = w' := by
 subst hi
 subst hj
 rw [markB_int]
 have h1 : (0 : Int) ≤ id := by omega
 have h3 : (0 : Int) ≤ k := by omega
 have h5 : (id : Int) ≤ 1000000 := by omega
 have h6 : (k : Int) ≤ 1099511627776 := by omega
 generalize (id : Int) = id at *
 generalize (k : Int) = k at *
 go_enter Tryz.func256, Tryz.ntmps256
 go_wp2
 go_ret
 exact ⟨rfl, rfl⟩
theorem markBytes_calls (w : World) (id k : Nat) (i j : Int) (hi : i = id) (hj : j = k) (h2 : id ≤ 1000000) (h4 : k ≤ 1099511627776) :
  Calls Tryz.prog 199 #[.int .i64 i, .int .i64 j] w fun e w' => e = .returned (.int .u8 ((markB id k).toNat : Int)) ∧ w = w' := by
 subst hi
 subst hj
 have hm := (markB id k).toNat_lt
 go_enter Tryz.func199, Tryz.ntmps199
 go_wp2_with (go_at_call 256; refine (pat_calls w id k _ _ rfl rfl h2 h4).mono ?_; rintro e w' ⟨rfl, rfl⟩)
 go_ret
 exact ⟨rfl, rfl⟩
theorem behind_calls (w : World) (id : Nat) (i : Int) (hi : i = id) (h2 : id ≤ 1000000) :
  Calls Tryz.prog 219 #[.int .i64 i] w fun e w' => e = .returned (.int .i64 ((id + 100000 : Nat) : Int)) ∧ w = w' := by
 subst hi
 go_enter Tryz.func219, Tryz.ntmps219
 go_wp2
 go_ret
 exact ⟨by go_num, rfl⟩
theorem sameBytes_calls (w : World) (a b : UInt8) :
  Calls Tryz.prog 198 #[.int .u8 a.toNat, .int .u8 b.toNat] w fun e w' => e = .returned (.bool (decide (a = b))) ∧ w = w' := by
 have h : decide (a = b) = ((a.toNat : Int) == (b.toNat : Int)) := by
  by_cases h : a = b
  ·subst h; simp
  ·rw [decide_eq_false h]
   symm
   rw [beq_eq_false_iff_ne]
   exact fun e => h (UInt8.toNat_inj.1 (by omega))
 rw [h]
 clear h
 go_enter Tryz.func198, Tryz.ntmps198
 go_wp2
 go_ret
 exact ⟨rfl, rfl⟩
def End (w w' : World) (A : Option Addr) (c : Nat) (A' : Option Addr) (c' : Nat) : Prop := (A' = A ∧ c' = c ∧ Kp (Bk A) w w') ∨ (A' = some ⟨w.heap.size, 0, none⟩ ∧ Kp (fun _ => False) w w')
theorem End.kp {w w' : World} {A A' : Option Addr} {c c' : Nat} (h : End w w' A c A' c') : Kp (Bk A) w w' := by
 rcases h with ⟨_, _, h⟩ | ⟨_, h⟩
 ·exact h
 ·exact h.mono fun _ _ h => h.elim
theorem End.bk {w w' : World} {A A' : Option Addr} {c c' : Nat} (h : End w w' A c A' c') : ∀ k, Bk A' k → Bk A k ∨ k = w.heap.size := by
 rcases h with ⟨rfl, _, _⟩ | ⟨rfl, _⟩
 ·exact fun k h => .inl h
 ·exact fun k h => .inr (Bk.some_.1 h).symm
theorem Own.pre {w : World} {e : TypeId} {sz c n m : Nat} {A : Option Addr} {xs ys : List Value} (h : Own w e sz A c (n + m) (xs ++ ys)) (hx : xs.length = n * sz) : Own w e sz A c n xs := by
 refine ⟨hx, ?_⟩
 rcases h.2 with ⟨rfl, rfl, h0⟩ | ⟨g, cur, rfl, hg, h1, h2, h3, h4⟩
 ·exact .inl ⟨rfl, rfl, by omega⟩
 ·refine .inr ⟨g, cur, rfl, hg, by omega, h2, h3, ?_⟩
  have := congrArg (List.take (n * sz)) h4
  rw [List.take_take, Nat.min_eq_left (Nat.mul_le_mul_right _ (by omega)), ← hx, List.take_left] at this
  rw [← hx]
  exact this
theorem End.old {w w' : World} {e : TypeId} {sz c c' n m : Nat} {A A' : Option Addr} {xs ys : List Value} (h : End w w' A c A' c') (ho : Own w e sz A c n xs) (hn : Own w' e sz A' c' (n + m) (xs ++ ys)) : Own w' e sz A c n xs := by
 rcases h with ⟨rfl, rfl, _⟩ | ⟨_, hk⟩
 ·exact hn.pre ho.1
 ·exact ho.new hk
theorem heap_setCell_row {w : World} {g j : Nat} {cur : Array Value} {e : TypeId} {fr : Nat × Nat} (hg : w.heap[g]? = some (.cells cur e fr)) (v : Value) : (w.setCell ⟨g, j, none⟩ v).heap[g]? = some (.cells (cur.setIfInBounds j v) e fr) := by
 have hlt : g < w.heap.size := (Array.getElem?_eq_some_iff.1 hg).1
 have hv : w.heap[g] = .cells cur e fr := (Array.getElem?_eq_some_iff.1 hg).2
 unfold World.setCell
 rw [Array.getElem?_eq_getElem (by simpa using hlt), Array.getElem_modify]
 simp [hv]
theorem Own.set {w : World} {e : TypeId} {sz c n g : Nat} {xs : List Value} (h : Own w e sz (some ⟨g, 0, none⟩) c n xs) (j : Nat) (v : Value) : Own (w.setCell ⟨g, j, none⟩ v) e sz (some ⟨g, 0, none⟩) c n (xs.set j v) := by
 refine ⟨by rw [List.length_set]; exact h.1, ?_⟩
 rcases h.2 with ⟨h, _⟩ | ⟨g', cur, e', hg, h1, h2, h3, h4⟩
 ·cases h
 ·cases e'
  refine .inr ⟨g, _, rfl, heap_setCell_row hg v, h1, h2, by rw [Array.size_setIfInBounds]; exact h3, ?_⟩
  rw [Array.toList_setIfInBounds, List.take_set, h4]
theorem Src.ofRow {P : Program} {w : World} {tx e' : TypeId} (hk : P.underlying tx = some (.slice e')) {g : Nat} {cs : Array Value} {e : TypeId} {fr : Nat × Nat} (hg : w.heap[g]? = some (.cells cs e fr)) (size n c : Nat) (hn : cs.size = n * size) (h1 : ∀ u ∈ cs.toList, u.oneCell' = true) :
  Src P size tx (.slice (some ⟨g, 0, none⟩) n c) n cs.toList w := by
 refine Src.ofSlice _ hk ⟨g, 0, none⟩ n c cs.toList (by simp [hn]) (fun j u hu => ?_) h1
 rw [Addr.add_lit, Nat.zero_add, cell_of_block hg]
 simpa using hu
section
variable {P : Program} (w : World)
theorem run_append_own_end (t tx ty e : TypeId) (i : TypeInfo) (z : Value) (ht : P.underlying t = some (.slice e)) (hi : P.info? e = some i) (hz : i.zero = some z) (hzs : z.cells.size = i.size)
  (A : Option Addr) (c n : Nat) (xs : List Value) (hown : Own w e i.size A c n xs) (x : Value) (m : Nat) (news : List Value) (hs : Src P i.size tx x m news w)
  (hbytes : (n + m) * i.bytes ≤ 140737488355328) (h63 : n + m ≤ 4611686018427387904) :
  ∃ A' c' w', (Builtin.append_ #[t, tx] ty #[.slice A n c, x]).run P w = .ok (.slice A' (n + m) c') w' ∧ Own w' e i.size A' c' (n + m) (xs ++ news) ∧ End w w' A c A' c' := by
 have hlen : (xs ++ news).length = (n + m) * i.size := by rw [List.length_append, hown.1, hs.newsLen, Nat.add_mul]
 have hcap := hown.cap
 by_cases hroom : n + m ≤ c
 ·rcases hown.2 with ⟨rfl, rfl, rfl⟩ | ⟨g, cur, rfl, hg, hnc, hcm, hcs, htake⟩
  ·obtain rfl : m = 0 := by omega
   have hn : news = [] := List.eq_nil_of_length_eq_zero (by have := hs.newsLen; omega)
   have hx : xs = [] := List.eq_nil_of_length_eq_zero (by have := hown.1; omega)
   subst hn
   subst hx
   refine ⟨none, 0, w, ?_, Own.nil _ _ _, .inl ⟨rfl, rfl, Kp.refl _ _⟩⟩
   rcases hs.kind with ⟨e', hk⟩ | hk <;> simp [Builtin.append_, run_underlying ht, run_underlying hk, sizeOf, typeInfo, hi, hs.len, hs.cells]
  ·have hfit : n * i.size + news.length ≤ cur.size := by
    rw [hs.newsLen, ← Nat.add_mul]
    exact Nat.le_trans (Nat.mul_le_mul_right _ hroom) hcs
   have hst := run_storeCells_at P g (n * i.size) e news 0 cur w hg (by simpa using hfit) hs.one
   simp only [Nat.add_zero] at hst
   refine ⟨_, c, _, ?_, ⟨hlen, .inr ⟨g, _, rfl, setRow_heap w g cur (cur.toList.take (n * i.size) ++ news ++ cur.toList.drop (n * i.size + news.length)).toArray e _ hg, hroom, hcm, ?_, ?_⟩⟩, (.inl ⟨rfl, rfl, (Kp.setRow _ _ _).mono (fun k _ e => Bk.some_.2 e)⟩)⟩
   ·rcases hs.kind with ⟨e', hk⟩ | hk <;> simp [Builtin.append_, run_underlying ht, run_underlying hk, sizeOf, typeInfo, hi, hs.len, hroom, hs.cells, Addr.add_lit, hst]
   ·simp only [List.size_toArray, List.length_append, List.length_take, List.length_drop, Array.length_toList]
    omega
   ·rw [htake, ← hlen]
    exact List.take_left
 ·have hold : (Builtin.firstCells i.size n (.slice A n c)).run P w.drew = .ok xs.toArray w.drew := by
   rcases hown.form with ⟨rfl, rfl, rfl⟩ | ⟨g, rfl⟩
   ·have hx : xs = [] := List.eq_nil_of_length_eq_zero (by have := hown.1; omega)
    subst hx
    exact run_firstCells_none w.drew i.size 0 0 0
   ·refine run_firstCells_some w.drew i.size n ⟨g, 0, none⟩ n c xs hown.1 (fun j u hu => ?_)
    have := hown.cell hu
    simpa [Addr.add_lit] using this
  have hr := run_append_grow_src (P := P) w t tx ty e i z ht hi hz A n c xs hold x m news hs (by omega) (by omega) (growslice_fits (by omega) hbytes)
  have hge := grownCap_ge w (n + m) c e
  have hcm : grownCap w (n + m) c e ≤ maxLen := grownCap_le_maxLen w (n + m) c e (by simp only [maxLen]; omega)
  refine ⟨_, _, _, hr, ⟨hlen, .inr ⟨w.heap.size, _, rfl, heap_alloc_new w.drew _, hge, hcm, ?_, ?_⟩⟩, (.inr ⟨rfl, ⟨rfl, rfl, rfl, by simp, fun k hk _ => Below.heap_alloc w.drew _ k hk⟩⟩)⟩
  ·simp only [Array.size_append, List.size_toArray, size_zeroCells, hzs, hlen, ← Nat.add_mul]
   exact Nat.mul_le_mul_right _ (by omega)
  ·simp only [Array.toList_append, ← hlen]
   exact List.take_left
theorem wp_append_end {o : Oper} {a : Act} {K : Act → World → Prop} {Q : Exit → Act → World → Prop} (s xo : Operand) (t tx : TypeId)
  (ho : o.op = .call { callee := .builtin .append, args := #[s, xo], argTypes := #[t, tx] })
  (e : TypeId) (z : Value) (size bytes : Nat) (ht : P.underlying t = some (.slice e)) (hi : (P.info? e).map (fun i => (i.zero, i.size, i.bytes)) = some (some z, size, bytes)) (hzs : z.cells.size = size)
  (A : Option Addr) (c n : Nat) (xs : List Value) (hs : a.eval s = .slice A n c) (hown : Own w e size A c n xs)
  (x : Value) (hx : a.eval xo = x) (m : Nat) (news : List Value) (hsrc : Src P size tx x m news w)
  (hbytes : (n + m) * bytes ≤ 140737488355328) (h63 : n + m ≤ 4611686018427387904)
  (h : ∀ A' c' w', Own w' e size A' c' (n + m) (xs ++ news) → End w w' A c A' c' → K (a.put o.dst (.slice A' (n + m) c')) w') : o.wp P a w K Q := by
 obtain ⟨i, hi0, hz, rfl, rfl⟩ := info_parts hi
 obtain ⟨A', c', w', hr, h2, h3⟩ := run_append_own_end (P := P) w t tx o.type e i z ht hi0 hz hzs A c n xs hown x m news hsrc hbytes h63
 unfold Oper.wp execOp
 simp only [ho, resolve, invoke, builtin, Sem.run_bind, Sem.run_pure, Result.andThen_ok, List.map_toArray, List.map_cons, List.map_nil, hs, hx, hr]
 exact h A' c' w' h2 h3
theorem wpList_append_end {ops : Array Oper} {rest : List Oper} {o : Oper} {a : Act} {Q : Exit → Act → World → Prop} (hgd : o.guard = none) (s xo : Operand) (t tx : TypeId)
  (ho : o.op = .call { callee := .builtin .append, args := #[s, xo], argTypes := #[t, tx] })
  (e : TypeId) (z : Value) (size bytes : Nat) (ht : P.underlying t = some (.slice e)) (hi : (P.info? e).map (fun i => (i.zero, i.size, i.bytes)) = some (some z, size, bytes)) (hzs : z.cells.size = size)
  (A : Option Addr) (c n : Nat) (xs : List Value) (hs : a.eval s = .slice A n c) (hown : Own w e size A c n xs)
  (x : Value) (hx : a.eval xo = x) (m : Nat) (news : List Value) (hsrc : Src P size tx x m news w)
  (hbytes : (n + m) * bytes ≤ 140737488355328) (h63 : n + m ≤ 4611686018427387904)
  (h : ∀ A' c' w', Own w' e size A' c' (n + m) (xs ++ news) → End w w' A c A' c' → wpList P ops Q rest (a.put o.dst (.slice A' (n + m) c')) w') : wpList P ops Q (o :: rest) a w := by
 obtain ⟨i, hi0, hz, rfl, rfl⟩ := info_parts hi
 obtain ⟨A', c', w', hr, h2, h3⟩ := run_append_own_end (P := P) w t tx o.type e i z ht hi0 hz hzs A c n xs hown x m news hsrc hbytes h63
 refine wpList_plain hgd fun K hK => ?_
 unfold Oper.wp execOp
 simp only [ho, resolve, invoke, builtin, Sem.run_bind, Sem.run_pure, Result.andThen_ok, List.map_toArray, List.map_cons, List.map_nil, hs, hx, hr]
 exact hK _ _ (h A' c' w' h2 h3)
end
theorem set_step {p xs : List Value} {k : Nat} {v : Value} (hp : p.length = k) (hk : k < xs.length) : (p ++ xs.drop k).set k v = p ++ [v] ++ xs.drop (k + 1) := by
 subst hp
 rw [List.set_append_right _ _ (Nat.le_refl _), Nat.sub_self, List.drop_eq_getElem_cons hk, List.set_cons_zero, List.append_assoc]
 rfl
def FillPost (w : World) (h o : Nat) (cur : Array Value) (A : Option Addr) (c n id : Nat) (e : Ending) (w' : World) : Prop :=
 e = .returned (.tuple #[]) ∧ Own w' 5 1 A c n (bcs (marksB id n)) ∧ Kp (fun j => j = h ∨ Bk A j) w w' ∧ w'.heap[h]? = some (.cells (cur.setIfInBounds (o + 4) (.bool true)) 116 (0, 0))
set_option maxHeartbeats 1000000 in
theorem fillB_calls (w : World) (h o : Nat) (cur : Array Value) (A : Option Addr) (c n id : Nat) (b : Bool) (xs : List Value) (hh : w.heap[h]? = some (.cells cur 116 (0, 0)))
  (h0 : cur[o]? = some (.slice A n c)) (h3 : cur[o + 3]? = some (.int .i64 (id : Int))) (h4 : cur[o + 4]? = some (.bool b)) (hA : Own w 5 1 A c n xs) (hne : ¬ Bk A h) (hid : id ≤ 1000000) (hn : n ≤ 1099511627776) :
  Calls Tryz.prog 156 #[.pointer (some ⟨h, o, none⟩)] w (FillPost w h o cur A c n id) := by
 have H := Lib.hid (And.intro hh (And.intro h0 (And.intro h3 (And.intro h4 (And.intro hA hne)))))
 clear hh h0 h3 h4 hA hne
 go_enter Tryz.func156, Tryz.ntmps156
 go_wp2
 go_loopw [2] (fun i wr => ∃ k : Nat, k ≤ n ∧ i = .int .i64 (k : Int) ∧ Hid (Own wr 5 1 A c n (bcs (marksB id k) ++ xs.drop k) ∧ Kp (Bk A) w wr)) (fun i _ => n - (intOf i).toNat)
 case atStart => exact ⟨0, Nat.zero_le _, rfl, Lib.hid ⟨by simpa [marksB, bcs] using H.out.2.2.2.2.1, Kp.refl _ _⟩⟩
 case round =>
  obtain ⟨k, hk, rfl, HI⟩ := hrel
  have hrh : wr.heap[h]? = some (.cells cur 116 (0, 0)) := (HI.out.2.block h (Array.getElem?_eq_some_iff.1 H.out.1).1 H.out.2.2.2.2.2).trans H.out.1
  have f0 : wr.cell? ⟨h, o, none⟩ = some (.slice A n c) := (cell_of_block hrh).trans H.out.2.1
  have f3 : wr.cell? ⟨h, o + 3, none⟩ = some (.int .i64 (id : Int)) := (cell_of_block hrh).trans H.out.2.2.1
  by_cases hlt : k < n
  ·obtain ⟨g, rfl⟩ := HI.out.1.some_ (by omega)
   have hxl := H.out.2.2.2.2.1.1
   have hlen : (bcs (marksB id k) ++ xs.drop k).length = n := by have := HI.out.1.1; omega
   obtain ⟨u, hu⟩ : ∃ u, (bcs (marksB id k) ++ xs.drop k)[k]? = some u := ⟨_, List.getElem?_eq_getElem (by omega)⟩
   have fg : wr.cell? ⟨g, k, none⟩ = some u := HI.out.1.cell hu
   have fz : wr.frozen? ⟨g, k, none⟩ = false := HI.out.1.frozen k
   have hki : (k : Int) < n := by omega
   have hk0 : (0 : Int) ≤ k := by omega
   have HR := Lib.hid hrh
   clear hrh hu hlen hxl
   have hmo : Tryz.prog.follows Departure.mixedOrders = true := by kernel_rfl
   go_wp2
   refine wp_region_line (fun w' => w'.cell? ⟨h, o, none⟩ = some (.slice (some ⟨g, 0, none⟩) n c) ∧ w'.cell? ⟨h, o + 3, none⟩ = some (.int .i64 (id : Int))) (pl := [(0, true), (1, true), (2, true), (3, true), (4, true), (5, true), (6, true), (7, true), (8, true), (9, true), (10, false), (11, true), (12, false)]) hmo (by kernel_rfl) ⟨by simpa using f0, by simpa using f3⟩ ?_
   iterate 10 (refine line_get rfl rfl (fun K hK => ?_); apply Exists.intro; refine ⟨fun w s => ?_, ?_⟩; (first | (have q := s rfl; go_simp; with_reducible rfl) | (go_simp; with_reducible rfl)); (go_simp; refine hK _ ?_; clear hK K))
   (refine line_do rfl rfl (fun K hK => ?_); go_simp)
   refine (markBytes_calls _ id k _ _ rfl rfl hid (by omega)).mono ?_
   rintro e w' ⟨rfl, rfl⟩
   refine hK _ _ (fun _ => ⟨by simpa using f0, by simpa using f3⟩) ?_
   clear hK K
   (refine line_get rfl rfl (fun K hK => ?_); apply Exists.intro; refine ⟨fun w s => ?_, ?_⟩; (first | (have q := s rfl; go_simp; with_reducible rfl) | (go_simp; with_reducible rfl)); (go_simp; refine hK _ ?_; clear hK K))
   (refine line_do rfl rfl (fun K hK => ?_); go_simp)
   refine hK _ _ (no_need (by kernel_rfl)) ?_
   clear hK K
   refine line_nil ?_
   go_wp2
   refine ⟨⟨k + 1, by omega, by go_num, Lib.hid ⟨?_, ?_⟩⟩, by simp [intOf]; omega⟩
   ·have hs : bcs (marksB id (k + 1)) ++ xs.drop (k + 1) = (bcs (marksB id k) ++ xs.drop k).set k (.int .u8 ((markB id k).toNat : Int)) := by
     rw [set_step (by simp [bcs, marksB_length]) (by have := H.out.2.2.2.2.1.1; omega), marksB_snoc, bcs_append]
     rfl
    rw [hs]
    exact (HI.out.1.set k _).new (Kp.drew _ _)
   ·exact HI.out.2.trans ((Kp.setCell wr ⟨g, k, none⟩ _ (Bk.some_.2 rfl)).trans (Kp.drew _ _) fid fid) fid fid
  ·obtain rfl : k = n := by omega
   have f4 : wr.cell? ⟨h, o + 4, none⟩ = some (.bool b) := (cell_of_block hrh).trans H.out.2.2.2.1
   have fz : wr.frozen? ⟨h, o + 4, none⟩ = false := by simp [World.frozen?, hrh]
   have HR := Lib.hid hrh
   clear hrh
   go_wp2
   go_end0
   refine ⟨rfl, ?_, HI.out.2.trans (Kp.setCell _ _ _ (.inl rfl)) (fun _ _ h => .inr h) fid, heap_setCell_row HR.out _⟩
   have := HI.out.1.keep (w' := wr.setCell ⟨h, o + 4, none⟩ (.bool true)) (fun j hj => Below.heap_setCell _ _ _ _ (fun e => H.out.2.2.2.2.2 (by have e' : j = h := e; rw [← e']; exact hj)))
   rwa [List.drop_of_length_le (by have := H.out.2.2.2.2.1.1; omega), List.append_nil] at this
def GrowPost (w : World) (h o : Nat) (cur : Array Value) (A : Option Addr) (c n id : Nat) (xs : List Value) (e : Ending) (w' : World) : Prop :=
 e = .returned (.tuple #[]) ∧ ∃ G cG, Own w' 5 1 G cG (n + 64) (xs ++ bcs (marksB (id + 100000) 64)) ∧ Own w' 5 1 A c n xs ∧ Kp (fun j => j = h ∨ Bk A j) w w' ∧ (∀ j, Bk G j → Bk A j ∨ w.heap.size ≤ j) ∧
  w'.heap[h]? = some (.cells (cur.setIfInBounds (o + 1) (.slice G (n + 64) cG)) 116 (0, 0))
theorem setIf_get {cur : Array Value} {i : Nat} (v : Value) (h : i < cur.size) : (cur.setIfInBounds i v)[i]? = some v := by simp [h]
theorem setIf_ne {cur : Array Value} {i j : Nat} (v : Value) (h : i ≠ j) : (cur.setIfInBounds i v)[j]? = cur[j]? := by simp [h]
theorem setIf_twice (cur : Array Value) (i : Nat) (u v : Value) : (cur.setIfInBounds i u).setIfInBounds i v = cur.setIfInBounds i v := by
 apply Array.ext_getElem?
 intro j
 simp only [Array.getElem?_setIfInBounds, Array.size_setIfInBounds]
 split <;> simp_all
set_option maxHeartbeats 1000000 in
theorem growB_calls (w : World) (h o : Nat) (cur : Array Value) (A : Option Addr) (c n id : Nat) (u : Value) (xs : List Value) (hh : w.heap[h]? = some (.cells cur 116 (0, 0)))
  (h0 : cur[o]? = some (.slice A n c)) (h1 : cur[o + 1]? = some u) (h3 : cur[o + 3]? = some (.int .i64 (id : Int))) (hA : Own w 5 1 A c n xs) (hne : ¬ Bk A h) (hid : id ≤ 800000) (hn : n ≤ 1099511627776) :
  Calls Tryz.prog 176 #[.pointer (some ⟨h, o, none⟩)] w (GrowPost w h o cur A c n id xs) := by
 have H := Lib.hid (And.intro hh (And.intro h0 (And.intro h1 (And.intro h3 (And.intro hA hne)))))
 have f0 : w.cell? ⟨h, o, none⟩ = some (.slice A n c) := (cell_of_block hh).trans h0
 have f1 : w.cell? ⟨h, o + 1, none⟩ = some u := (cell_of_block hh).trans h1
 have fz : w.frozen? ⟨h, o + 1, none⟩ = false := by simp [World.frozen?, hh]
 clear hh h0 h1 h3 hA hne
 go_enter Tryz.func176, Tryz.ntmps176
 go_wp2
 clear f0 f1 fz
 go_loopw [2] (fun i wr => ∃ k : Nat, k ≤ 64 ∧ i = .int .i64 (k : Int) ∧ Hid (∃ G cG, wr.heap[h]? = some (.cells (cur.setIfInBounds (o + 1) (.slice G (n + k) cG)) 116 (0, 0)) ∧
  Own wr 5 1 G cG (n + k) (xs ++ bcs (marksB (id + 100000) k)) ∧ Own wr 5 1 A c n xs ∧ Kp (fun j => j = h ∨ Bk A j) w wr ∧ ((G = A ∧ cG = c) ∨ ∀ j, Bk G j → w.heap.size ≤ j))) (fun i _ => 64 - (intOf i).toNat)
 case atStart =>
  have hk : Own (w.setCell ⟨h, o + 1, none⟩ (.slice A n c)) 5 1 A c n xs := H.out.2.2.2.2.1.keep (fun j hj => Below.heap_setCell _ _ _ _ (fun e => H.out.2.2.2.2.2 (by have e' : j = h := e; rw [← e']; exact hj)))
  exact ⟨0, Nat.zero_le _, rfl, Lib.hid ⟨A, c, heap_setCell_row H.out.1 _, by simpa [marksB, bcs] using hk, hk, Kp.setCell _ _ _ (.inl rfl), .inl ⟨rfl, rfl⟩⟩⟩
 case round =>
  obtain ⟨k, hk, rfl, HI⟩ := hrel
  obtain ⟨G, cG, hrh, hG, hA, hkp, hbG⟩ := HI.out
  have hlt := (Array.getElem?_eq_some_iff.1 H.out.1).1
  have hsz : o + 1 < cur.size := (Array.getElem?_eq_some_iff.1 H.out.2.2.1).1
  have f1 : wr.cell? ⟨h, o + 1, none⟩ = some (.slice G (n + k) cG) := (cell_of_block hrh).trans (setIf_get _ hsz)
  have f3 : wr.cell? ⟨h, o + 3, none⟩ = some (.int .i64 (id : Int)) := (cell_of_block hrh).trans ((setIf_ne _ (by omega)).trans H.out.2.2.2.1)
  have hGh : ¬ Bk G h := fun hb => hbG.elim (fun e => H.out.2.2.2.2.2 (e.1 ▸ hb)) (fun h' => by have := h' h hb; omega)
  have HJ := Lib.hid (And.intro hrh (And.intro hG (And.intro hA (And.intro hkp (And.intro hbG hGh)))))
  clear hrh hG hA hkp hbG hGh HI hlt hsz
  by_cases hlt : k < 64
  ·have hmo : Tryz.prog.follows Departure.mixedOrders = true := by kernel_rfl
   have hm := (markB (id + 100000) k).toNat_lt
   go_wp2
   refine wp_region_line (fun w' => w'.cell? ⟨h, o + 1, none⟩ = some (.slice G (n + k) cG) ∧ w'.cell? ⟨h, o + 3, none⟩ = some (.int .i64 (id : Int))) (pl := [(0, true), (1, true), (2, true), (3, true), (4, true), (5, true), (6, true), (7, true), (8, true), (10, true), (9, false), (11, false), (12, false), (13, false), (14, true), (15, true), (16, false)]) hmo (by kernel_rfl) ⟨by simpa using f1, by simpa using f3⟩ ?_
   iterate 10 (refine line_get rfl rfl (fun K hK => ?_); apply Exists.intro; refine ⟨fun w s => ?_, ?_⟩; (first | (have q := s rfl; go_simp; with_reducible rfl) | (go_simp; with_reducible rfl)); (go_simp; refine hK _ ?_; clear hK K))
   (refine line_do rfl rfl (fun K hK => ?_); go_simp)
   refine (behind_calls _ id _ rfl (by omega)).mono ?_
   rintro e w' ⟨rfl, rfl⟩
   refine hK _ _ (fun _ => ⟨by simpa using f1, by simpa using f3⟩) ?_
   clear hK K
   (refine line_do rfl rfl (fun K hK => ?_); go_simp)
   refine (markBytes_calls _ (id + 100000) k _ _ rfl rfl (by omega) (by omega)).mono ?_
   rintro e w' ⟨rfl, rfl⟩
   refine hK _ _ (fun _ => ⟨by simpa using f1, by simpa using f3⟩) ?_
   clear hK K
   (refine line_do rfl rfl (fun K hK => ?_); go_simp)
   have hn1 : New wr (wr.alloc (.cells #[.int .u8 ((markB (id + 100000) k).toNat : Int)] 5)).drew := (Kp.alloc _ _ _).trans (Kp.drew _ _) fid fid
   refine hK _ _ (fun _ => ⟨New.cell hn1 f1, New.cell hn1 f3⟩) ?_
   clear hK K
   refine line_do rfl rfl (fun K hK => ?_)
   refine wp_append_end _ (.tmp 18) (.tmp 26) 55 55 rfl 5 (.int .u8 0) 1 1 Tryz.underlying55 Tryz.info_u8 rfl G cG (n + k) _ rfl (HJ.out.2.1.new hn1) _ rfl 1 _ (Src.ofRow (w := (wr.alloc (.cells #[.int .u8 ((markB (id + 100000) k).toNat : Int)] 5)).drew) Tryz.underlying55 (heap_alloc_new wr (.cells #[.int .u8 ((markB (id + 100000) k).toNat : Int)] 5)) 1 1 1 rfl (by simp [Value.oneCell'])) (by omega) (by omega) ?_
   intro G2 cG2 w2 hG2 hend
   have hk2 : Kp (Bk G) wr w2 := hn1.trans hend.kp (fun _ _ h => h.elim) fid
   have hhl := (Array.getElem?_eq_some_iff.1 HJ.out.1).1
   have h2h : w2.heap[h]? = some (.cells (cur.setIfInBounds (o + 1) (.slice G (n + k) cG)) 116 (0, 0)) := (hk2.block h hhl HJ.out.2.2.2.2.2).trans HJ.out.1
   have hsz : o + 1 < cur.size := (Array.getElem?_eq_some_iff.1 H.out.2.2.1).1
   have g1 : w2.cell? ⟨h, o + 1, none⟩ = some (.slice G (n + k) cG) := (cell_of_block h2h).trans (setIf_get _ hsz)
   have g3 : w2.cell? ⟨h, o + 3, none⟩ = some (.int .i64 (id : Int)) := (cell_of_block h2h).trans ((setIf_ne _ (by omega)).trans H.out.2.2.2.1)
   have h2G : ¬ Bk G2 h := fun hb => (hend.bk h hb).elim HJ.out.2.2.2.2.2 (fun e => by simp at e; omega)
   have gz : w2.frozen? ⟨h, o + 1, none⟩ = false := by simp [World.frozen?, h2h]
   refine hK _ _ (fun _ => ⟨g1, g3⟩) ?_
   clear hK K
   iterate 2 (refine line_get rfl rfl (fun K hK => ?_); apply Exists.intro; refine ⟨fun w s => ?_, ?_⟩; (first | (have q := s rfl; go_simp; with_reducible rfl) | (go_simp; with_reducible rfl)); (go_simp; refine hK _ ?_; clear hK K))
   (refine line_do rfl rfl (fun K hK => ?_); go_simp)
   refine hK _ _ (no_need (by kernel_rfl)) ?_
   clear hK K
   refine line_nil ?_
   go_wp2
   refine ⟨⟨k + 1, by omega, by go_num, Lib.hid ⟨G2, cG2, ?_, ?_, ?_, ?_, ?_⟩⟩, by simp [intOf]; omega⟩
   ·rw [heap_setCell_row h2h, setIf_twice]
    rfl
   ·rw [marksB_snoc, bcs_append, ← List.append_assoc]
    exact hG2.keep (fun j hj => Below.heap_setCell _ _ _ _ (fun e => h2G (by have e' : j = h := e; rw [← e']; exact hj)))
   ·refine (?_ : Own w2 5 1 A c n xs).keep (fun j hj => Below.heap_setCell _ _ _ _ (fun e => H.out.2.2.2.2.2 (by have e' : j = h := e; rw [← e']; exact hj)))
    rcases HJ.out.2.2.2.2.1 with ⟨rfl, rfl⟩ | hnew
    ·exact (hend.old (HJ.out.2.1.new hn1) hG2).pre H.out.2.2.2.2.1.1
    ·exact HJ.out.2.2.1.kp hk2 (fun j hj hb => by have := hnew j hb; have := H.out.2.2.2.2.1.lt j hj; omega)
   ·refine (HJ.out.2.2.2.1.trans hk2 fid (fun j hj hb => ?_)).trans (Kp.setCell _ _ _ (.inl rfl)) fid fid
    rcases HJ.out.2.2.2.2.1 with ⟨rfl, _⟩ | hnew
    ·exact .inr hb
    ·have := hnew j hb
     omega
   ·have hws := HJ.out.2.2.2.1.size
    rcases hend with ⟨rfl, rfl, _⟩ | ⟨rfl, _⟩
    ·exact HJ.out.2.2.2.2.1
    ·exact .inr (fun j hj => by have := Bk.some_.1 hj; simp at this; omega)
  ·obtain rfl : k = 64 := by omega
   go_wp2
   go_end0
   exact ⟨rfl, G, cG, HJ.out.2.1, HJ.out.2.2.1, HJ.out.2.2.2.1, fun j hj => HJ.out.2.2.2.2.1.elim (fun e => .inl (e.1 ▸ hj)) (fun h' => .inr (h' j hj)), HJ.out.1⟩
end Go.Proofs.YtekcoeonlfmebaaGreatDoor.Kit
