/- 2 texts in one: What came in: a slice of structs of one-cell fields, cell by cell, and how each field reads; bulks.; A script of calls that came in, opened. -/
import Derived.Test.YtekcoeonlfmebaaGreatDoorRows
import Derived.Test.YtekcoeonlfmebaaGreatDoorM0
import Derived.OpenShut
import Derived.Deep.Slices
import Derived.Deep.Fields
import Derived.Carry
import Derived.Below
import Derived.SizedLaws
import Derived.Test.YtekcoeonlfmebaaGreatDoorM46
namespace Go.Proofs.YtekcoeonlfmebaaGreatDoor.Kit
open Go Go.RowKit Go.ChangeShapes Go.WideShapes Go.ChangeAt Go.Deep
namespace bulks
theorem one_le {H : Type} (d : DataW H) : 1 ≤ Rows.uptoBulk d := by
 cases d with
 | lit l => cases l <;> simp [Rows.uptoBulk]
 | nil => simp [Rows.uptoBulk]
 | ptr d => simp [Rows.uptoBulk]
 | slice elems spare => simp [Rows.uptoBulk]
 | agg parts => simp [Rows.uptoBulk]
 | iface t d => simp [Rows.uptoBulk]
 | map entries => simp [Rows.uptoBulk]
 | held h => simp [Rows.uptoBulk]
theorem part_le {H : Type} {d : DataW H} {l : List (DataW H)} (h : d ∈ l) : Rows.uptoBulk d ≤ Rows.uptoBulkAll l := by
 induction l with
 | nil => cases h
 | cons x r ih =>
  simp only [Rows.uptoBulkAll]
  cases List.mem_cons.1 h with
  | inl e => subst e; omega
  | inr e => have := ih e; omega
theorem length_le {H : Type} (l : List (DataW H)) : l.length ≤ Rows.uptoBulkAll l := by
 induction l with
 | nil => simp [Rows.uptoBulkAll]
 | cons x r ih => have := one_le x; simp only [Rows.uptoBulkAll, List.length_cons]; omega
theorem slice_le {H : Type} (elems spare : List (DataW H)) : elems.length + spare.length + 1 ≤ Rows.uptoBulk (.slice elems spare) := by
 have h1 := length_le elems
 have h2 := length_le spare
 simp only [Rows.uptoBulk]
 omega
theorem elem_le {H : Type} {elems spare : List (DataW H)} {d : DataW H} (h : d ∈ elems) : Rows.uptoBulk d + 1 ≤ Rows.uptoBulk (.slice elems spare) := by
 have h1 := part_le h
 simp only [Rows.uptoBulk]
 omega
theorem agg_le {H : Type} {parts : List (DataW H)} {d : DataW H} (h : d ∈ parts) : Rows.uptoBulk d + 1 ≤ Rows.uptoBulk (.agg parts) := by
 have h1 := part_le h
 simp only [Rows.uptoBulk]
 omega
theorem bound {H : Type} {l : List (DataW H)} (hk : Rows.uptoSmall H l = true) : Rows.uptoBulkAll l ≤ 1048576 := by
 simpa [Rows.uptoSmall] using hk
end bulks
def Lite {H : Type} (P : Program) (t : TypeId) (d : DataW H) : Prop := ∀ n ∈ d.weights P t, n ≤ reachBytes
theorem Lite.all {H : Type} {P : Program} {e : TypeId} : ∀ {l : List (DataW H)} {d : DataW H}, (∀ n ∈ DataW.weightsAll P e l, n ≤ reachBytes) → d ∈ l → Lite P e d
 | x :: r, d, h, hd => by
  unfold DataW.weightsAll at h
  rcases List.mem_cons.1 hd with rfl | hd
  ·exact fun n hn => h n (List.mem_append_left _ hn)
  ·exact Lite.all (fun n hn => h n (List.mem_append_right _ hn)) hd
theorem Lite.each {H : Type} {P : Program} : ∀ {ts : List TypeId} {l : List (DataW H)} {j : Nat} {t : TypeId} {d : DataW H}, (∀ n ∈ DataW.weightsEach P ts l, n ≤ reachBytes) → ts[j]? = some t → l[j]? = some d → Lite P t d
 | [], _, _, _, _, _, ht, _ => by simp at ht
 | _ :: _, [], _, _, _, _, _, hd => by simp at hd
 | t0 :: ts, x :: r, j, t, d, h, ht, hd => by
  unfold DataW.weightsEach at h
  cases j with
  | zero =>
   simp only [List.getElem?_cons_zero, Option.some.injEq] at ht hd
   subst ht hd
   exact fun n hn => h n (List.mem_append_left _ hn)
  | succ j =>
   rw [List.getElem?_cons_succ] at ht hd
   exact Lite.each (fun n hn => h n (List.mem_append_right _ hn)) ht hd
theorem Lite.slice {H : Type} {P : Program} {t e : TypeId} {elems spare : List (DataW H)} (ht : P.underlying t = some (.slice e)) (h : Lite P t (.slice elems spare)) : (elems.length + spare.length) * P.bytesOf e ≤ reachBytes ∧ ∀ d ∈ elems, Lite P e d := by
 unfold Lite at h
 unfold DataW.weights at h
 rw [ht] at h
 exact ⟨h _ List.mem_cons_self, fun d hd => Lite.all (fun n hn => h n (List.mem_cons_of_mem _ (List.mem_append_left _ hn))) hd⟩
theorem Lite.agg {H : Type} {P : Program} {t : TypeId} {fs : Array Field} {parts : List (DataW H)} (ht : P.underlying t = some (.struct fs)) (h : Lite P t (.agg parts)) {j : Nat} {f : Field} {d : DataW H} (hf : fs[j]? = some f) (hd : parts[j]? = some d) : Lite P f.type d := by
 unfold Lite at h
 unfold DataW.weights at h
 rw [ht] at h
 exact Lite.each h (by rw [List.getElem?_map, Array.getElem?_toList, hf]; rfl) hd
theorem Lite.str {H : Type} {P : Program} {t : TypeId} {l : List UInt8} (h : Lite (H := H) P t (.lit (.string l))) : l.length ≤ reachBytes := h _ (by unfold DataW.weights; simp)
theorem Lite.of_sized {H : Type} {P : Program} {ts : List TypeId} {ds : List (DataW H)} (h : (DataW.weightsEach P ts ds).all (· ≤ reachBytes) = true) {j : Nat} {t : TypeId} {d : DataW H} (ht : ts[j]? = some t) (hd : ds[j]? = some d) : Lite P t d :=
 Lite.each (fun n hn => of_decide_eq_true (List.all_eq_true.1 h n hn)) ht hd
theorem Tryz.laidOut : laidOutB Tryz.prog = true := by kernel_rfl
section
variable {H : Type} {enc : TypeId × Value → H} {W : World} {base : Nat} {held : Bool}
theorem open_fields {P : Program} {e : TypeId} {fs : Array Field} {fuel : Nat} {cs : List Value} {x : DataW H × List MemPlace} (he : P.underlying e = some (.struct fs)) (h : DataW.trod enc P W base (fun _ => true) held fuel e cs = some x) :
  cs.length = P.cellsOf e ∧ ∀ (j : Nat) (f : Field), fs[j]? = some f → ∃ n y, DataW.trod enc P W base (fun _ => true) held n f.type ((cs.drop f.offset).take (P.cellsOf f.type)) = some y ∧ Rows.uptoBulk y.1 + 1 ≤ Rows.uptoBulk x.1 ∧ (Lite P e x.1 → Lite P f.type y.1) := by
 obtain ⟨ys, n', _, rfl, hl, hyl, hf⟩ := DataW.trod_struct he h
 refine ⟨hl, fun j f hj => ?_⟩
 have hjl : j < fs.size := (Array.getElem?_eq_some_iff.1 hj).1
 have h1 := hf j f hj
 rw [List.getElem?_eq_getElem (by omega)] at h1
 exact ⟨n', _, h1, bulks.agg_le (List.mem_map_of_mem (f := Prod.fst) (List.getElem_mem (show j < ys.length by omega))), fun hL => hL.agg he hj (by rw [List.getElem?_map, List.getElem?_eq_getElem (by omega)]; rfl)⟩
theorem open_rows {P : Program} {t e : TypeId} {fs : Array Field} {sz fuel : Nat} {v : Value} {x : DataW H × List MemPlace} (ht : P.underlying t = some (.slice e)) (he : P.underlying e = some (.struct fs))
  (hC : P.cellsOf e = sz) (hpos : 0 < sz) (h : DataW.trod enc P W base (fun _ => true) held fuel t [v] = some x) :
  ∃ (A : Option Addr) (len c : Nat) (R : Nat → List Value), v = .slice A len c ∧ len ≤ c ∧ c ≤ maxLen ∧ c + 1 ≤ Rows.uptoBulk x.1 ∧ (Lite P t x.1 → c * P.bytesOf e ≤ reachBytes) ∧
   (0 < len → ∃ b off, A = some ⟨b, off, none⟩ ∧ ∀ i, i < len → ∀ j, j < sz → W.cell? ⟨b, off + (i * sz + j), none⟩ = (R i)[j]?) ∧
   ∀ i, i < len → (R i).length = sz ∧ ∀ (j : Nat) (f : Field), fs[j]? = some f → ∃ n y, DataW.trod enc P W base (fun _ => true) held n f.type (((R i).drop f.offset).take (P.cellsOf f.type)) = some y ∧ Rows.uptoBulk y.1 ≤ Rows.uptoBulk x.1 ∧ (Lite P t x.1 → Lite P f.type y.1) := by
 rcases open_slice ht h with ⟨hcs, rfl⟩ | ⟨a, len, cap, m, n, D, Pl, hcs, _, hl, hm, hmm, rfl, hx⟩
 ·simp only [List.cons.injEq, and_true] at hcs
  subst hcs
  exact ⟨none, 0, 0, fun _ => [], rfl, Nat.le_refl _, Nat.zero_le _, by simp [Rows.uptoBulk], fun _ => by simp, fun h => absurd h (Nat.lt_irrefl _), fun i hi => absurd hi (Nat.not_lt_zero _)⟩
 ·simp only [List.cons.injEq, and_true] at hcs
  subst hcs
  simp only [if_true] at hmm
  subst hmm
  have key : ∀ i, i < m → ∃ (r : List Value), (∀ j, j < sz → W.cell? (a.add (i * sz + j)) = r[j]?) ∧ r.length = sz ∧
    ∀ (j : Nat) (f : Field), fs[j]? = some f → ∃ n y, DataW.trod enc P W base (fun _ => true) held n f.type ((r.drop f.offset).take (P.cellsOf f.type)) = some y ∧ Rows.uptoBulk y.1 + 1 ≤ Rows.uptoBulk (D i) ∧ (Lite P e (D i) → Lite P f.type y.1) := by
   intro i hi
   obtain ⟨cs', hc, ht'⟩ := hx i hi
   rw [hC] at hc
   obtain ⟨_, hcl, hat⟩ := World.cells?_some hc
   exact ⟨cs', fun j hj => by rw [← hat j hj, Go.Deep.add_add], hcl, (open_fields he ht').2⟩
  obtain ⟨R, hR⟩ := choose_lt (α := List Value) key
  refine ⟨some a, len, m, R, rfl, hl, hm, ?_, fun hL => ?_, fun h0 => ?_, fun i hi => ⟨(hR i (by omega)).2.1, fun j f hj => ?_⟩⟩
  ·have := bulks.slice_le (H := H) ((List.range len).map D) ((List.range (m - len)).map fun j => D (len + j))
   simp only [List.length_map, List.length_range] at this
   show m + 1 ≤ _
   simp only
   omega
  ·have h1 := (hL.slice ht).1
   simp only [List.length_map, List.length_range] at h1
   have h2 : len + (m - len) = m := by omega
   rwa [h2] at h1
  ·obtain ⟨b, off, spot⟩ := a
   have c0 := (hR 0 (by omega)).1 0 hpos
   rw [List.getElem?_eq_getElem (by rw [(hR 0 (by omega)).2.1]; exact hpos)] at c0
   have hspot : spot = none := by simpa [Addr.add] using World.cell?_spot c0
   subst hspot
   exact ⟨b, off, rfl, fun i hi j hj => by rw [← add_plain]; exact (hR i (by omega)).1 j hj⟩
  ·obtain ⟨n', y, h1, h2, h4⟩ := (hR i (by omega)).2.2 j f hj
   have h3 := bulks.elem_le (H := H) (spare := (List.range (m - len)).map fun j => D (len + j)) (List.mem_map_of_mem (f := D) (List.mem_range.2 hi))
   exact ⟨n', y, h1, by simp only at h3 ⊢; omega, fun hL => h4 ((hL.slice ht).2 _ (List.mem_map_of_mem (f := D) (List.mem_range.2 hi)))⟩
end
end Go.Proofs.YtekcoeonlfmebaaGreatDoor.Kit
namespace Go.Proofs.YtekcoeonlfmebaaGreatDoor.Kit
open Go Go.RowKit Go.ChangeShapes Go.WideShapes Go.ChangeAt Go.Deep
theorem Tryz.cells_u8 : Tryz.prog.cellsOf 5 = 1 := by kernel_rfl
theorem Tryz.bytes_u8 : Tryz.prog.bytesOf 5 = 1 := by kernel_rfl
theorem Tryz.bytes_int : Tryz.prog.bytesOf 3 = 8 := by kernel_rfl
theorem Tryz.cells_int : Tryz.prog.cellsOf 3 = 1 := by kernel_rfl
theorem Tryz.cells_string : Tryz.prog.cellsOf 9 = 1 := by kernel_rfl
theorem Tryz.cells_bool : Tryz.prog.cellsOf 4 = 1 := by kernel_rfl
theorem Tryz.cells_bs : Tryz.prog.cellsOf 55 = 1 := by kernel_rfl
theorem Tryz.cells_is : Tryz.prog.cellsOf 56 = 1 := by kernel_rfl
theorem Tryz.cells_fs : Tryz.prog.cellsOf 57 = 1 := by kernel_rfl
theorem Tryz.cells_disk : Tryz.prog.cellsOf 59 = 4 := by kernel_rfl
theorem Tryz.cells_file : Tryz.prog.cellsOf 82 = 3 := by kernel_rfl
theorem Tryz.bytes_file : Tryz.prog.bytesOf 82 = 48 := by kernel_rfl
theorem Tryz.cells_op : Tryz.prog.cellsOf 61 = 12 := by kernel_rfl
instance : Inhabited OpS := ⟨⟨0, 0, [], [], none, 0, [], 0, 0, none, 0, [], 0, none, 0, [], 0, false⟩⟩
instance : Inhabited FI := ⟨⟨[], [], 0, none, 0⟩⟩
section
variable {H : Type} {enc : TypeId × Value → H} {W : World} {base fuel : Nat} {held : Bool}
theorem open_byteF {v : Value} {x : DataW H × List MemPlace} (h : DataW.trod enc Tryz.prog W base (fun _ => true) held fuel 55 [v] = some x) :
  ∃ (A : Option Addr) (c : Nat) (l : List UInt8), v = .slice A l.length c ∧ RdB W A l ∧ c ≤ maxLen ∧ l.length + 1 ≤ Rows.uptoBulk x.1 ∧ (Lite Tryz.prog 55 x.1 → l.length ≤ reachBytes) := by
 rcases open_ints Tryz.underlying55 Tryz.underlying5 Tryz.cells_u8 h with ⟨hcs, rfl⟩ | ⟨a, len, cap, zs, hcs, _, hl, hm, hz, rfl, hcell, hwf⟩
 ·simp only [List.cons.injEq, and_true] at hcs
  subst hcs
  exact ⟨none, 0, [], rfl, fun e => absurd rfl e, Nat.zero_le _, by simp [Rows.uptoBulk], fun _ => Nat.zero_le _⟩
 ·simp only [List.cons.injEq, and_true] at hcs
  subst hcs
  simp only [if_true] at hz
  have hlen : ((zs.take len).map fun z => UInt8.ofNat z.toNat).length = len := by simp; omega
  refine ⟨some a, cap, (zs.take len).map fun z => UInt8.ofNat z.toNat, by rw [hlen], fun hne => ?_, hm, ?_, fun hL => ?_⟩
  ·by_cases h0 : 0 < zs.length
   ·obtain ⟨b, off, rfl, hc⟩ := ints_at hcell h0
    refine ⟨b, off, rfl, fun j hj => ?_⟩
    have hj' : j < len := by rw [← hlen]; exact hj
    rw [hc j (by omega)]
    have hr := range_u8 hwf j
    have hjz : j < zs.length := by omega
    simp only [List.getElem_map, List.getElem_take, List.getD_eq_getElem?_getD, List.getElem?_eq_getElem hjz, Option.getD_some] at hr ⊢
    congr 2
    rw [UInt8.toNat_ofNat']
    omega
   ·have : len = 0 := by omega
    subst this
    simp at hne
  ·have := bulks.slice_le (H := H) (lits .u8 (zs.take len)) (lits .u8 (zs.drop len))
   simp only [lits, List.length_map, List.length_take, List.length_drop] at this
   simp only [lits] at this ⊢
   rw [List.length_map, List.length_take]
   omega
  ·have := (hL.slice Tryz.underlying55).1
   rw [Tryz.bytes_u8] at this
   simp only [lits, List.length_map, List.length_take, List.length_drop] at this
   rw [List.length_map, List.length_take]
   omega
theorem open_intF {v : Value} {x : DataW H × List MemPlace} (h : DataW.trod enc Tryz.prog W base (fun _ => true) held fuel 56 [v] = some x) :
  ∃ (A : Option Addr) (c : Nat) (l : List Int), v = .slice A l.length c ∧ RdN W A l ∧ c ≤ maxLen ∧ l.length + 1 ≤ Rows.uptoBulk x.1 ∧ (Lite Tryz.prog 56 x.1 → l.length * 8 ≤ reachBytes) ∧ ∀ z ∈ l, -9223372036854775808 ≤ z ∧ z ≤ 9223372036854775807 := by
 rcases open_ints Tryz.underlying56 Tryz.underlying3 Tryz.cells_int h with ⟨hcs, rfl⟩ | ⟨a, len, cap, zs, hcs, _, hl, hm, hz, rfl, hcell, hwf⟩
 ·simp only [List.cons.injEq, and_true] at hcs
  subst hcs
  exact ⟨none, 0, [], rfl, fun e => absurd rfl e, Nat.zero_le _, by simp [Rows.uptoBulk], fun _ => by simp, by simp⟩
 ·simp only [List.cons.injEq, and_true] at hcs
  subst hcs
  simp only [if_true] at hz
  have hlen : (zs.take len).length = len := by simp; omega
  refine ⟨some a, cap, zs.take len, by rw [hlen], fun hne => ?_, hm, ?_, fun hL => ?_, fun z hz => bounds_i64 (hwf z (List.mem_of_mem_take hz))⟩
  ·by_cases h0 : 0 < zs.length
   ·obtain ⟨b, off, rfl, hc⟩ := ints_at hcell h0
    refine ⟨b, off, rfl, fun j v hj => ?_⟩
    have hj' : j < len := by rw [← hlen]; exact (List.getElem?_eq_some_iff.1 hj).1
    rw [hc j (by omega)]
    rw [List.getElem?_take, if_pos hj'] at hj
    rw [List.getD_eq_getElem?_getD, hj]
    rfl
   ·have : len = 0 := by omega
    subst this
    simp at hne
  ·have := bulks.slice_le (H := H) (lits .i64 (zs.take len)) (lits .i64 (zs.drop len))
   simp only [lits, List.length_map, List.length_take, List.length_drop] at this
   simp only [lits] at this ⊢
   rw [List.length_take]
   omega
  ·have := (hL.slice Tryz.underlying56).1
   rw [Tryz.bytes_int] at this
   simp only [lits, List.length_map, List.length_take, List.length_drop] at this
   rw [List.length_take]
   omega
theorem open_strF {v : Value} {x : DataW H × List MemPlace} (h : DataW.trod enc Tryz.prog W base (fun _ => true) held fuel 9 [v] = some x) :
  ∃ l : List UInt8, v = .string (bstr l) ∧ l.length ≤ maxLen := by
 obtain ⟨s, hs, _, hl⟩ := DataW.trod_string Tryz.underlying9 h
 simp only [List.cons.injEq, and_true] at hs
 exact ⟨s.data.toList, hs, hl⟩
theorem open_numF {v : Value} {x : DataW H × List MemPlace} (h : DataW.trod enc Tryz.prog W base (fun _ => true) held fuel 3 [v] = some x) :
  ∃ n : Int, v = .int .i64 n ∧ -9223372036854775808 ≤ n ∧ n ≤ 9223372036854775807 := by
 obtain ⟨n, hs, _, hw⟩ := DataW.trod_int Tryz.underlying3 h
 simp only [List.cons.injEq, and_true] at hs
 exact ⟨n, hs, bounds_i64 hw⟩
theorem open_boolF {v : Value} {x : DataW H × List MemPlace} (h : DataW.trod enc Tryz.prog W base (fun _ => true) held fuel 4 [v] = some x) : ∃ b : Bool, v = .bool b := by
 obtain ⟨b, hs, _⟩ := DataW.trod_bool Tryz.underlying4 h
 simp only [List.cons.injEq, and_true] at hs
 exact ⟨b, hs⟩
set_option maxRecDepth 100000 in
theorem open_filesS {v : Value} {x : DataW H × List MemPlace} (h : DataW.trod enc Tryz.prog W base (fun _ => true) held fuel 57 [v] = some x) (hL : Lite Tryz.prog 57 x.1) :
  ∃ (A : Option Addr) (c : Nat) (ys : List FI), v = .slice A ys.length c ∧ InF W A ys := by
 obtain ⟨A, len, c, R, rfl, hl, hm, hb, hw, hc, hf⟩ := open_rows Tryz.underlying57 Tryz.underlying82 Tryz.cells_file (by decide) h
 have key : ∀ i, i < len → ∃ y : FI, (RdB W y.A y.data ∧ y.name.length ≤ 9223372036854775807 ∧ y.data.length ≤ 140737488351232 ∧ -9223372036854775808 ≤ y.syn ∧ y.syn ≤ 9223372036854775807) ∧ y.cells = R i := by
  intro i hi
  obtain ⟨hl0, hf⟩ := hf i hi
  generalize R i = r at hl0 hf
  obtain ⟨r0, r1, r2, rfl⟩ : ∃ r0 r1 r2, r = [r0, r1, r2] := by
   match r, hl0 with
   | [r0, r1, r2], _ => exact ⟨_, _, _, rfl⟩
  clear hl0
  obtain ⟨_, _, h0, _⟩ := hf 0 _ rfl
  obtain ⟨_, _, h1, g1, L1⟩ := hf 1 _ rfl
  obtain ⟨_, _, h2, _⟩ := hf 2 _ rfl
  simp only [List.getElem_toArray, List.getElem_cons_zero, List.getElem_cons_succ, Tryz.cells_int, Tryz.cells_string, Tryz.cells_bs, List.drop_zero, List.drop_succ_cons, List.take_succ_cons, List.take_zero] at h0 h1 h2
  obtain ⟨s0, rfl, l0⟩ := open_strF h0
  obtain ⟨A1, c1, b1, rfl, t1, _, u1, v1⟩ := open_byteF h1
  obtain ⟨n2, rfl, m2⟩ := open_numF h2
  have w1 := v1 (L1 hL)
  simp only [maxLen] at l0
  simp only [reachBytes] at w1
  exact ⟨⟨s0, b1, n2, A1, c1⟩, ⟨t1, by show s0.length ≤ _; omega, w1, m2.1, m2.2⟩, rfl⟩
 obtain ⟨Y, hY⟩ := choose_lt key
 have hlen : ((List.range len).map Y).length = len := by simp
 have hw2 := hw hL
 rw [Tryz.bytes_file] at hw2
 simp only [reachBytes] at hw2
 refine ⟨A, c, (List.range len).map Y, by rw [hlen], ⟨⟨fun hne => ?_, fun y hy => ?_⟩, by rw [hlen]; omega, fun y hy => ?_, fun y hy => ?_, fun y hy => ?_⟩⟩
 ·have h0 : 0 < len := by
   rcases Nat.eq_zero_or_pos len with e | e
   ·subst e; simp at hne
   ·exact e
  obtain ⟨b, off, rfl, hcell⟩ := hc h0
  refine ⟨b, off, rfl, fun j u hu => ?_⟩
  have hj : j < len * 3 := by
   have := (List.getElem?_eq_some_iff.1 hu).1
   rw [FI.flat_length, hlen] at this
   exact this
  have hi : j / 3 < len := by omega
  have hjj : j = j / 3 * 3 + j % 3 := by omega
  rw [hjj] at hu ⊢
  rw [FI.flat_get _ (j / 3) (j % 3) (Y (j / 3)) (by simp [hi]) (by omega), (hY _ hi).2] at hu
  rw [← hu]
  exact hcell _ hi _ (by omega)
 all_goals
  obtain ⟨i, hi, rfl⟩ := List.mem_map.1 hy
  obtain ⟨⟨q1, q2, q3, q4, q5⟩, _⟩ := hY i (List.mem_range.1 hi)
  first | exact q1 | exact ⟨q4, q5⟩ | exact q2 | exact q3
set_option maxRecDepth 100000 in
theorem open_ops {v : Value} {x : DataW H × List MemPlace} (h : DataW.trod enc Tryz.prog W base (fun _ => true) held fuel 22 [v] = some x) (hL : Lite Tryz.prog 22 x.1) :
  ∃ (A : Option Addr) (c : Nat) (ys : List OpS), v = .slice A ys.length c ∧ RdS W A ys := by
 obtain ⟨A, len, c, R, rfl, hl, hm, hb, _, hc, hf⟩ := open_rows Tryz.underlying22 Tryz.underlying61 Tryz.cells_op (by decide) h
 have key : ∀ i, i < len → ∃ y : OpS, y.Ok W ∧ y.cells = R i := by
  intro i hi
  obtain ⟨hl0, hf⟩ := hf i hi
  generalize R i = r at hl0 hf
  obtain ⟨r0, r1, r2, r3, r4, r5, r6, r7, r8, r9, r10, r11, rfl⟩ : ∃ r0 r1 r2 r3 r4 r5 r6 r7 r8 r9 r10 r11, r = [r0, r1, r2, r3, r4, r5, r6, r7, r8, r9, r10, r11] := by
   match r, hl0 with
   | [r0, r1, r2, r3, r4, r5, r6, r7, r8, r9, r10, r11], _ => exact ⟨_, _, _, _, _, _, _, _, _, _, _, _, rfl⟩
  clear hl0
  obtain ⟨_, _, h0, _⟩ := hf 0 _ rfl
  obtain ⟨_, _, h1, _⟩ := hf 1 _ rfl
  obtain ⟨_, _, h2, _⟩ := hf 2 _ rfl
  obtain ⟨_, _, h3, _⟩ := hf 3 _ rfl
  obtain ⟨_, _, h4, g4, L4⟩ := hf 4 _ rfl
  obtain ⟨_, _, h5, _⟩ := hf 5 _ rfl
  obtain ⟨_, _, h6, _⟩ := hf 6 _ rfl
  obtain ⟨_, _, h7, g7, L7⟩ := hf 7 _ rfl
  obtain ⟨_, _, h8, _, L8⟩ := hf 8 _ rfl
  simp only [List.getElem_toArray, List.getElem_cons_zero, List.getElem_cons_succ, Tryz.cells_int, Tryz.cells_string, Tryz.cells_bs, Tryz.cells_is, Tryz.cells_disk, List.drop_zero, List.drop_succ_cons, List.take_succ_cons, List.take_zero] at h0 h1 h2 h3 h4 h5 h6 h7 h8
  obtain ⟨_, hg⟩ := open_fields Tryz.underlying59 h8
  obtain ⟨_, _, j0, _⟩ := hg 0 _ rfl
  obtain ⟨_, _, j1, _, M1⟩ := hg 1 _ rfl
  obtain ⟨_, _, j2, _⟩ := hg 2 _ rfl
  obtain ⟨_, _, j3, _⟩ := hg 3 _ rfl
  simp only [List.getElem_toArray, List.getElem_cons_zero, List.getElem_cons_succ, Tryz.cells_int, Tryz.cells_bool, Tryz.cells_fs, List.drop_zero, List.drop_succ_cons, List.take_succ_cons, List.take_zero] at j0 j1 j2 j3
  obtain ⟨n0, rfl, _⟩ := open_numF h0
  obtain ⟨n1, rfl, _⟩ := open_numF h1
  obtain ⟨s2, rfl, l2⟩ := open_strF h2
  obtain ⟨s3, rfl, l3⟩ := open_strF h3
  obtain ⟨A4, c4, b4, rfl, t4, _, u4, v4⟩ := open_byteF h4
  obtain ⟨n5, rfl, z5⟩ := open_numF h5
  obtain ⟨n6, rfl, z6⟩ := open_numF h6
  obtain ⟨A7, c7, b7, rfl, t7, _, u7, v7, in7⟩ := open_intF h7
  obtain ⟨n8, rfl, _⟩ := open_numF j0
  obtain ⟨A9, c9, y9, rfl, f9⟩ := open_filesS j1 (M1 (L8 hL))
  obtain ⟨n10, rfl, _⟩ := open_numF j2
  obtain ⟨b11, rfl⟩ := open_boolF j3
  have w4 := v4 (L4 hL)
  have w7 := v7 (L7 hL)
  simp only [reachBytes] at w4 w7
  simp only [maxLen] at l2 l3
  exact ⟨⟨n0, n1, s2, s3, A4, c4, b4, n5, n6, A7, c7, b7, n8, A9, c9, y9, n10, b11⟩, ⟨by show s2.length ≤ _; omega, by show s3.length ≤ _; omega, t4, w4, t7, by show b7.length ≤ _; omega, in7, z5, z6, f9⟩, rfl⟩
 obtain ⟨Y, hY⟩ := choose_lt key
 have hlen : ((List.range len).map Y).length = len := by simp
 refine ⟨A, c, (List.range len).map Y, by rw [hlen], ⟨fun hne => ?_, fun y hy => ?_⟩⟩
 ·have h0 : 0 < len := by
   rcases Nat.eq_zero_or_pos len with e | e
   ·subst e; simp at hne
   ·exact e
  obtain ⟨b, off, rfl, hcell⟩ := hc h0
  refine ⟨b, off, rfl, fun j u hu => ?_⟩
  have hj : j < len * 12 := by
   have := (List.getElem?_eq_some_iff.1 hu).1
   have e : (((List.range len).map Y).flatMap OpS.cells).length = ((List.range len).map Y).length * 12 := by
    generalize (List.range len).map Y = ys
    induction ys with
    | nil => rfl
    | cons q ys ih => rw [List.flatMap_cons, List.length_append, ih, List.length_cons]; simp [OpS.cells]; omega
   rw [e, hlen] at this
   exact this
  have hi : j / 12 < len := by omega
  have hjj : j = j / 12 * 12 + j % 12 := by omega
  rw [hjj] at hu ⊢
  rw [OpS.flat_get _ (j / 12) (j % 12) (Y (j / 12)) (by simp [hi]) (by omega), (hY _ hi).2] at hu
  rw [← hu]
  exact hcell _ hi _ (by omega)
 ·obtain ⟨i, hi, rfl⟩ := List.mem_map.1 hy
  exact (hY i (List.mem_range.1 hi)).1
end
end Go.Proofs.YtekcoeonlfmebaaGreatDoor.Kit
