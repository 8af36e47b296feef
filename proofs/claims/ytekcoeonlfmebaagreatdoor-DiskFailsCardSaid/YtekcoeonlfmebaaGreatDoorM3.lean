/- 3 texts in one: Bytes as a string; the turning of bytes into a string.; daybookkeep.text: a mark that is a text; the table that the library's digits read.; daybookkeep: a book that holds pages of several kinds: what a step over one kind's pages, and a list more, make of it. -/
import Derived.Test.YtekcoeonlfmebaaGreatDoorM0
import Derived.Laws.BytesArg
import Derived.Lib.Strings
import Derived.Lib.ConvBytes
import Derived.Test.YtekcoeonlfmebaaGreatDoorM2
import Derived.Lib.AppendIntMem
import Derived.Lib.LaidTab
namespace Go.Proofs.YtekcoeonlfmebaaGreatDoor.Kit
open Go Go.RowKit
def bstr (l : List UInt8) : ByteArray := ⟨l.toArray⟩
theorem bstr_toList (l : List UInt8) : (bstr l).data.toList = l := rfl
theorem bstr_size (l : List UInt8) : (bstr l).size = l.length := rfl
theorem bstr_inj {l m : List UInt8} : bstr l = bstr m ↔ l = m := ⟨fun h => by have := congrArg (fun b : ByteArray => b.data.toList) h; exact this, fun h => by rw [h]⟩
theorem strOfNums_bytes (l : List UInt8) : strOfNums (l.map fun c => (c.toNat : Int)) = bstr l := by
 unfold strOfNums bstr
 congr 2
 rw [List.map_map]
 refine (List.map_congr_left (g := id) fun c _ => ?_).trans (List.map_id l)
 simp
theorem bstr_beq (l m : List UInt8) : ((bstr l).toList == (bstr m).toList) = decide (l = m) := by
 rw [Lib.toList_data, Lib.toList_data, bstr_toList, bstr_toList]
 cases h : decide (l = m) <;> simp_all
theorem run_conv_RdB {P : Program} (w : World) {src dst e : TypeId} (hs : P.underlying src = some (.slice e)) (he : P.underlying e = some (.int .u8)) (hd : P.underlying dst = some .string) {A : Option Addr} (c : Nat) {l : List UInt8} (h : RdB w A l) :
  (convert src dst (.slice A l.length c)).run P w = .ok (.string (bstr l)) w := by
 cases A with
 | none =>
  have : l = [] := Classical.byContradiction fun hl => by obtain ⟨_, _, e, _⟩ := h hl; cases e
  subst this
  exact run_convert_bytes_nil w src e hs he _ _ dst hd
 | some a =>
  by_cases hl : l = []
  ·subst hl
   rw [run_convert_bytes_string w src dst e _ _ c hs he hd]
   simp [Conv.bytesToString, loadCells, loadCellsFrom, bstr]
   rfl
  ·obtain ⟨b, off, e', hc⟩ := h hl
   cases e'
   have := run_convert_bytes_arg (P := P) w src e hs he b off l.length c (l.map fun c => (c.toNat : Int)) (by simp) (fun i hi => by rw [hc i hi]; simp [hi]) dst hd
   rwa [strOfNums_bytes] at this
theorem run_bytes_of {P : Program} (w : World) {src dst e : TypeId} (hs : P.underlying src = some .string) (hd : P.underlying dst = some (.slice e)) (he : P.underlying e = some (.int .u8)) (l : List UInt8) :
  ∃ c w', (convert src dst (.string (bstr l))).run P w = .ok (.slice (some ⟨w.heap.size, 0, none⟩) l.length c) w' ∧ RdB w' (some ⟨w.heap.size, 0, none⟩) l ∧ New w w' ∧ w'.heap.size = w.heap.size + 1 ∧ l.length ≤ c := by
 refine ⟨_, _, Lib.run_convert_string_bytes w src dst e (bstr l) hs hd he, fun _ => ⟨w.heap.size, 0, rfl, fun j hj => ?_⟩, ?_, Lib.bytesWorld_size _ _ _, ?_⟩
 ·rw [Nat.zero_add, Lib.bytesWorld_cell _ _ _ _ hj]
  simp [bstr_toList, List.getD, hj]
 ·refine ⟨?_, ?_, ?_, by rw [Lib.bytesWorld_size]; omega, fun k hk _ => Lib.bytesWorld_at_old _ _ _ _ hk⟩ <;>
   simp [Lib.bytesWorld, World.freeze, World.alloc, World.drew, -World.alloc_eq, -World.drew_eq]
 ·exact grownCap_ge w l.length 0 e
end Go.Proofs.YtekcoeonlfmebaaGreatDoor.Kit
namespace Go.Proofs.YtekcoeonlfmebaaGreatDoor.Kit
open Go Go.RowKit Go.Shelf Go.Lib
def Tab (w : World) : Prop := Lib.TabIs Tryz.prog w "internal/strconv.uint64pow10" .u64 Lib.pow10Tab
theorem Tab.kp {w w' : World} {S : Nat → Prop} (h : Tab w) (hk : Kp S w w') (hS : ¬ S 0) : Tab w' := by
 unfold Tab Lib.TabIs World.var? at *
 have hg : Tryz.prog.globalNamed "internal/strconv.uint64pow10" = some 0 := by kernel_rfl
 rw [hg] at h ⊢
 simp only [Option.bind_some] at h ⊢
 have hl : 0 < w.heap.size := by
  apply Classical.byContradiction
  intro hn
  rw [Array.getElem?_eq_none (by omega)] at h
  simp at h
 rw [hk.block _ hl hS]
 exact h
theorem Tab.new {w w' : World} (h : Tab w) (hk : New w w') : Tab w' := h.kp hk id
theorem New.of_below {w w' : World} (b : Below w.heap.size w w') : New w w' := ⟨b.os, b.tape, b.output, b.size, fun k hk _ => b.block k hk⟩
theorem bstr_app (l m : List UInt8) : bstr l ++ bstr m = bstr (l ++ m) := by
 apply ByteArray.ext
 apply Array.toList_inj.1
 simp [bstr]
def textL (id k : Nat) : List UInt8 := [109, 97, 114, 107, 32] ++ Lib.itoa (id : Int) ++ [32] ++ Lib.itoa (k : Int)
theorem dec_len : ∀ (d n : Nat), n < 10 ^ (d + 1) → (Lib.decDigits n).length ≤ d + 1 := by
 intro d
 induction d with
 | zero => intro n h; rw [Lib.decDigits, dif_pos (by omega)]; simp
 | succ d ih =>
  intro n h
  by_cases h1 : n < 10
  ·rw [Lib.decDigits, dif_pos h1]; simp
  ·rw [Lib.decDigits, dif_neg h1, List.length_append]
   have := ih (n / 10) (by rw [Nat.div_lt_iff_lt_mul (by omega)]; rw [Nat.pow_succ] at h; omega)
   simp
   omega
theorem itoa_len (n : Nat) (h : n < 10000000000000000000) : (Lib.itoa (n : Int)).length ≤ 19 := by
 have h0 : Lib.itoa (n : Int) = Lib.decDigits n := by
  unfold Lib.itoa
  rw [if_neg (by omega)]
  rfl
 rw [h0]
 exact dec_len 18 n (by omega)
theorem itoa_calls (w : World) (n : Nat) (v : Int) (hv : v = n) (h : n ≤ 9223372036854775807) (hT : Tab w) :
  Calls Tryz.prog 269 #[.int .i64 v] w fun e w' => e = .returned (.string (bstr (Lib.itoa (n : Int)))) ∧ New w w' := by
 subst hv
 refine (Tryz.strconv_Itoa (n : Int) (by omega) (by omega) w hT).mono ?_
 rintro e w' ⟨rfl, k, os, rfl⟩
 exact ⟨rfl, New.of_below (Lib.below_grow _ w (Nat.le_refl _) k os)⟩
set_option maxHeartbeats 1000000 in
theorem text_calls (w : World) (id k : Nat) (i j : Int) (hi : i = id) (hj : j = k) (h1 : id ≤ 9223372036854775807) (h2 : k ≤ 9223372036854775807) (hT : Tab w) :
  Calls Tryz.prog 257 #[.int .i64 i, .int .i64 j] w fun e w' => e = .returned (.string (bstr (textL id k))) ∧ New w w' := by
 subst hi hj
 have HT := Lib.hid hT
 have l1 := itoa_len id (by omega)
 have l2 := itoa_len k (by omega)
 have c1 : (⟨#[109, 97, 114, 107, 32]⟩ : ByteArray) ++ bstr (Lib.itoa (id : Int)) = bstr ([109, 97, 114, 107, 32] ++ Lib.itoa (id : Int)) := bstr_app [109, 97, 114, 107, 32] _
 have c2 : bstr ([109, 97, 114, 107, 32] ++ Lib.itoa (id : Int)) ++ (⟨#[32]⟩ : ByteArray) = bstr ([109, 97, 114, 107, 32] ++ Lib.itoa (id : Int) ++ [32]) := bstr_app _ [32]
 have c3 : bstr ([109, 97, 114, 107, 32] ++ Lib.itoa (id : Int) ++ [32]) ++ bstr (Lib.itoa (k : Int)) = bstr (textL id k) := bstr_app _ _
 have s1 : (⟨#[109, 97, 114, 107, 32]⟩ : ByteArray).size + (bstr (Lib.itoa (id : Int))).size ≤ 9223372036854775807 := by rw [bstr_size]; show 5 + _ ≤ _; omega
 have s2 : (bstr ([109, 97, 114, 107, 32] ++ Lib.itoa (id : Int))).size + (⟨#[32]⟩ : ByteArray).size ≤ 9223372036854775807 := by rw [bstr_size, List.length_append]; show 5 + _ + 1 ≤ _; omega
 have s3 : (bstr ([109, 97, 114, 107, 32] ++ Lib.itoa (id : Int) ++ [32])).size + (bstr (Lib.itoa (k : Int))).size ≤ 9223372036854775807 := by rw [bstr_size, bstr_size, List.length_append, List.length_append]; show 5 + _ + 1 + _ ≤ _; omega
 have i1 := itoa_calls w id _ rfl h1 hT
 have i2 := fun w' (hT' : Tab w') => itoa_calls w' k _ rfl h2 hT'
 generalize Lib.itoa (id : Int) = d1 at *
 generalize Lib.itoa (k : Int) = d2 at *
 generalize textL id k = tx at *
 obtain ⟨p1, hp1⟩ : ∃ p, bstr ([109, 97, 114, 107, 32] ++ d1) = p := ⟨_, rfl⟩
 obtain ⟨p2, hp2⟩ : ∃ p, bstr ([109, 97, 114, 107, 32] ++ d1 ++ [32]) = p := ⟨_, rfl⟩
 rw [hp1] at c1 c2 s2
 rw [hp2] at c2 c3 s3
 clear hp1 hp2
 have HI := Lib.hid (And.intro i1 i2)
 have s1' : 5 + (bstr d1).size ≤ 9223372036854775807 := s1
 have s2' : p1.size + 1 ≤ 9223372036854775807 := s2
 clear i1 i2 hT
 go_enter Tryz.func257, Tryz.ntmps257
 go_wp2_with fail
 refine HI.out.1.mono ?_
 rintro e w1 ⟨rfl, n1⟩
 have H1 := Lib.hid n1
 clear n1
 go_wp2_with fail
 refine (HI.out.2 w1 (HT.out.new H1.out)).mono ?_
 rintro e w2 ⟨rfl, n2⟩
 have H2 := Lib.hid n2
 clear n2
 go_wp2_with fail
 go_ret
 exact ⟨rfl, H1.out.trans H2.out fid fid⟩
end Go.Proofs.YtekcoeonlfmebaaGreatDoor.Kit
namespace Go.Proofs.YtekcoeonlfmebaaGreatDoor.Kit
open Go Go.RowKit
theorem BookE.kp {K : EK} {at_ : Nat} {P : Nat → World → Pg → Prop} {w w' : World} {S : Nat → Prop} {g c : Nat} {cur : Array Value} {A : Option Addr} {ps : List Pg} (h : BookE K at_ P w g cur A c ps) (hP : ∀ i, Stable (P i)) (hk : Kp S w w') (hg : ¬ S g) (hS : ∀ x, PsFp A ps x → ¬ S x) : BookE K at_ P w' g cur A c ps :=
 ⟨(hk.block g (Array.getElem?_eq_some_iff.1 h.1).1 hg).trans h.1, h.2.1, h.2.2.kp hP hk (fun k hb => hS k (.inl hb)) (fun p hp k hf => hS k (.inr ⟨p, hp, hf⟩))⟩
theorem BookE.out {K : EK} {at_ : Nat} {P : Nat → World → Pg → Prop} {w : World} {g c : Nat} {cur : Array Value} {A : Option Addr} {ps : List Pg} (h : BookE K at_ P w g cur A c ps) : ¬ PsFp A ps g :=
 fun hf => hf.elim h.2.2.2.1 (fun ⟨p, hp, hf⟩ => by obtain ⟨i, hi⟩ := List.mem_iff_getElem?.1 hp; exact (h.2.2.2.2.1 i p hi).2.1 hf)
theorem BookE.lt {K : EK} {at_ : Nat} {P : Nat → World → Pg → Prop} {w : World} {g c : Nat} {cur : Array Value} {A : Option Addr} {ps : List Pg} (h : BookE K at_ P w g cur A c ps) : ∀ x, PsFp A ps x → x < w.heap.size := by
 rintro x (hx | ⟨p, hp, hf⟩)
 ·exact h.2.2.1.lt x hx
 ·obtain ⟨i, hi⟩ := List.mem_iff_getElem?.1 hp
  exact ((h.2.2.2.2.1 i p hi).2.2 x hf).1
theorem BookE.imp {K : EK} {at_ : Nat} {P P' : Nat → World → Pg → Prop} {w : World} {g c : Nat} {cur : Array Value} {A : Option Addr} {ps : List Pg} (h : BookE K at_ P w g cur A c ps) (hi : ∀ i p, P i w p → P' i w p) : BookE K at_ P' w g cur A c ps :=
 ⟨h.1, h.2.1, h.2.2.imp fun i p _ h => hi i p h⟩
structure Row where
 A : Option Addr
 c : Nat
 ps : List Pg
def Row.Fp (r : Row) (x : Nat) : Prop := PsFp r.A r.ps x
def total (n : Nat) (R : Nat → Row) : Nat := match n with | 0 => 0 | n + 1 => total n R + (R n).ps.length
theorem total_le {n : Nat} {R : Nat → Row} (h : ∀ i, i < n → (R i).ps.length ≤ 96) : total n R ≤ n * 96 := by
 induction n with
 | zero => simp [total]
 | succ n ih =>
  have := ih fun i hi => h i (by omega)
  have := h n (by omega)
  simp only [total]
  omega
def Row.put (R : Nat → Row) (i : Nat) (r : Row) : Nat → Row := fun j => if j = i then r else R j
theorem Row.put_at (R : Nat → Row) (i : Nat) (r : Row) : Row.put R i r i = r := by simp [Row.put]
theorem Row.put_ne {R : Nat → Row} {i j : Nat} {r : Row} (h : j ≠ i) : Row.put R i r j = R j := by simp [Row.put, h]
theorem total_put {n i : Nat} {R : Nat → Row} {r : Row} (hi : i < n) (hr : r.ps.length = (R i).ps.length + 1) : total n (Row.put R i r) = total n R + 1 := by
 induction n with
 | zero => omega
 | succ n ih =>
  simp only [total]
  by_cases h : n = i
  ·subst h
   rw [Row.put_at, hr]
   have : ∀ m, m ≤ n → total m (Row.put R n r) = total m R := by
    intro m
    induction m with
    | zero => intro _; rfl
    | succ m ihm =>
     intro hm
     simp only [total]
     rw [ihm (by omega), Row.put_ne (by omega)]
   rw [this n (Nat.le_refl _)]
   omega
  ·rw [ih (by omega), Row.put_ne h]
   omega
structure Kinds where
 n : Nat
 K : Nat → EK
 at_ : Nat → Nat
 P : Nat → Nat → Nat → World → Pg → Prop
structure Kinds.Ok (X : Kinds) : Prop where
 stable : ∀ i ph j, Stable (X.P i ph j)
 inj : ∀ i j, i < X.n → j < X.n → i ≠ j → X.at_ i ≠ X.at_ j
 pos : ∀ i, i < X.n → 6 < X.at_ i
structure BXIn (X : Kinds) (ph : Nat → Nat) (w : World) (g : Nat) (pc : List Value) (cur : Array Value) (next : Nat) (R : Nat → Row) : Prop where
 book : ∀ i, i < X.n → BookE (X.K i) (X.at_ i) (X.P i (ph i)) w g cur (R i).A (R i).c (R i).ps
 few : ∀ i, i < X.n → (R i).ps.length ≤ 96
 blk : w.heap[g]? = some (.cells cur 53 (0, 0))
 nxt : cur[6]? = some (.int .i64 (next : Int))
 le : next ≤ total X.n R
 none_ : ∀ k, 7 ≤ k → k ≤ 26 → (∀ i, i < X.n → X.at_ i ≠ k) → cur[k]? = some (.slice none 0 0)
 same : ∀ j, j < pc.length → cur[j]? = pc[j]?
 pcl : pc.length ≤ 6
 apart : ∀ i j, i < X.n → j < X.n → i ≠ j → ∀ x, (R i).Fp x → ¬ (R j).Fp x
def BXFp (X : Kinds) (g : Nat) (R : Nat → Row) (x : Nat) : Prop := x = g ∨ ∃ i, i < X.n ∧ (R i).Fp x
def BX (X : Kinds) (ph : Nat → Nat) (w : World) (g : Nat) (pc : List Value) (Φ : Nat → Prop) : Prop := ∃ cur next R, BXIn X ph w g pc cur next R ∧ ∀ x, Φ x ↔ BXFp X g R x
theorem BX.kp {X : Kinds} (hX : X.Ok) {ph : Nat → Nat} {w w' : World} {g : Nat} {pc : List Value} {Φ S : Nat → Prop} (h : BX X ph w g pc Φ) (hk : Kp S w w') (hS : ∀ x, Φ x → ¬ S x) : BX X ph w' g pc Φ := by
 obtain ⟨cur, next, R, h, hΦ⟩ := h
 have hg : ¬ S g := hS g ((hΦ g).2 (.inl rfl))
 exact ⟨cur, next, R, ⟨fun i hi => (h.book i hi).kp (hX.stable i _) hk hg (fun x hx => hS x ((hΦ x).2 (.inr ⟨i, hi, hx⟩))), h.few, (hk.block g (Array.getElem?_eq_some_iff.1 h.blk).1 hg).trans h.blk, h.nxt, h.le, h.none_, h.same, h.pcl, h.apart⟩, hΦ⟩
theorem BX.new {X : Kinds} (hX : X.Ok) {ph : Nat → Nat} {w w' : World} {g : Nat} {pc : List Value} {Φ : Nat → Prop} (h : BX X ph w g pc Φ) (hk : New w w') : BX X ph w' g pc Φ := h.kp hX hk fun _ _ => id
theorem BX.lt {X : Kinds} {ph : Nat → Nat} {w : World} {g : Nat} {pc : List Value} {Φ : Nat → Prop} (h : BX X ph w g pc Φ) : ∀ x, Φ x → x < w.heap.size := by
 obtain ⟨cur, next, R, h, hΦ⟩ := h
 intro x hx
 rcases (hΦ x).1 hx with rfl | ⟨i, hi, hx⟩
 ·exact (Array.getElem?_eq_some_iff.1 h.blk).1
 ·exact (h.book i hi).lt x hx
theorem BX.g {X : Kinds} {ph : Nat → Nat} {w : World} {g : Nat} {pc : List Value} {Φ : Nat → Prop} (h : BX X ph w g pc Φ) : Φ g := by
 obtain ⟨cur, next, R, h, hΦ⟩ := h
 exact (hΦ g).2 (.inl rfl)
theorem BX.cell {X : Kinds} {ph : Nat → Nat} {w : World} {g : Nat} {pc : List Value} {Φ : Nat → Prop} (h : BX X ph w g pc Φ) {j : Nat} {v : Value} (hv : pc[j]? = some v) : w.cell? ⟨g, j, none⟩ = some v ∧ w.frozen? ⟨g, j, none⟩ = false := by
 obtain ⟨cur, next, R, h, hΦ⟩ := h
 exact ⟨(cell_of_block h.blk).trans ((h.same j (List.getElem?_eq_some_iff.1 hv).1).trans hv), by simp [World.frozen?, h.blk]⟩
theorem BX.phase {X : Kinds} {ph ph' : Nat → Nat} {w : World} {g : Nat} {pc : List Value} {Φ : Nat → Prop} (h : BX X ph w g pc Φ) (hp : ∀ i, i < X.n → ph' i = ph i) : BX X ph' w g pc Φ := by
 obtain ⟨cur, next, R, h, hΦ⟩ := h
 exact ⟨cur, next, R, ⟨fun i hi => by rw [hp i hi]; exact h.book i hi, h.few, h.blk, h.nxt, h.le, h.none_, h.same, h.pcl, h.apart⟩, hΦ⟩
theorem BX.setPc {X : Kinds} (hX : X.Ok) {ph : Nat → Nat} {w : World} {g : Nat} {pc : List Value} {Φ : Nat → Prop} (h : BX X ph w g pc Φ) {j : Nat} (hj : j < pc.length) (v : Value) : BX X ph (w.setCell ⟨g, j, none⟩ v) g (pc.set j v) Φ := by
 obtain ⟨cur, next, R, h, hΦ⟩ := h
 have hs := heap_setCell_row (j := j) h.blk v
 have hk : Kp (fun x => x = g) w (w.setCell ⟨g, j, none⟩ v) := Kp.setCell _ _ _ rfl
 have hpl := h.pcl
 have hne : ∀ k, 6 ≤ k → (cur.setIfInBounds j v)[k]? = cur[k]? := fun k hk => by simp only [Array.getElem?_setIfInBounds]; rw [if_neg (by omega)]
 refine ⟨cur.setIfInBounds j v, next, R, ⟨fun i hi => ⟨hs, ?_, (h.book i hi).2.2.kp (hX.stable i _) hk ?_ ?_⟩, h.few, hs, (hne _ (Nat.le_refl _)).trans h.nxt, h.le, fun k h1 h2 h3 => (hne k (by omega)).trans (h.none_ k h1 h2 h3), fun k hk => ?_, by rw [List.length_set]; exact hpl, h.apart⟩, hΦ⟩
 ·have := hX.pos i hi
  rw [hne _ (by omega)]
  exact (h.book i hi).2.1
 ·exact fun x hx e => (h.book i hi).out (.inl (e ▸ hx))
 ·exact fun p hp x hx e => (h.book i hi).out (.inr ⟨p, hp, e ▸ hx⟩)
 ·rw [List.length_set] at hk
  rw [List.getElem?_set, Array.getElem?_setIfInBounds]
  have hc : j < cur.size := by
   have := (Array.getElem?_eq_some_iff.1 h.nxt).1
   omega
  by_cases e : j = k
  ·subst e
   rw [if_pos rfl, if_pos hc, if_pos rfl, if_pos hj]
  ·rw [if_neg e, if_neg e]
   exact h.same k hk
def setPh (ph : Nat → Nat) (i v : Nat) : Nat → Nat := fun j => if j = i then v else ph j
theorem BX.turn {X : Kinds} (hX : X.Ok) {ph : Nat → Nat} {w w' : World} {g : Nat} {pc : List Value} {Φ : Nat → Prop} {cur : Array Value} {next : Nat} {R : Nat → Row} (h : BXIn X ph w g pc cur next R) (hΦ : ∀ x, Φ x ↔ BXFp X g R x) {i v : Nat} (hi : i < X.n)
  (hs : PsSoT (X.K i).pt (X.P i v) w g (R i).A (R i).c (R i).ps w') : ∃ Φ', BX X (setPh ph i v) w' g pc Φ' ∧ Kp Φ w w' ∧ ∀ x, Φ' x → Φ x ∨ w.heap.size ≤ x := by
 obtain ⟨ps', hl, hPg, hfp, hk⟩ := hs
 have hgo := (h.book i hi).out
 have hk' : Kp Φ w w' := hk.mono fun x _ hx => (hΦ x).2 (.inr ⟨i, hi, hx⟩)
 have hfp' : ∀ x, PsFp (R i).A ps' x → PsFp (R i).A (R i).ps x ∨ w.heap.size ≤ x := by
  rintro x (hx | ⟨q, hq, hf⟩)
  ·exact .inl (.inl hx)
  ·exact hfp q hq x hf
 have hblk := (hk.block g (Array.getElem?_eq_some_iff.1 h.blk).1 hgo).trans h.blk
 refine ⟨BXFp X g (Row.put R i ⟨(R i).A, (R i).c, ps'⟩), ⟨cur, next, Row.put R i ⟨(R i).A, (R i).c, ps'⟩, ⟨fun j hj => ?_, fun j hj => ?_, hblk, h.nxt, ?_, h.none_, h.same, h.pcl, fun a b ha hb hab x hx hy => ?_⟩, fun x => Iff.rfl⟩, hk', ?_⟩
 ·by_cases e : j = i
  ·subst e
   rw [Row.put_at]
   rw [show setPh ph j v j = v from if_pos rfl]
   exact ⟨hblk, by simp only; rw [hl]; exact (h.book j hj).2.1, hPg⟩
  ·rw [Row.put_ne e]
   rw [show setPh ph i v j = ph j from if_neg e]
   exact (h.book j hj).kp (hX.stable j _) hk hgo fun x hx hf => h.apart j i hj hi e x hx hf
 ·by_cases e : j = i
  ·subst e
   rw [Row.put_at]
   simp only
   rw [hl]
   exact h.few j hj
  ·rw [Row.put_ne e]
   exact h.few j hj
 ·have : ∀ n, total n (Row.put R i ⟨(R i).A, (R i).c, ps'⟩) = total n R := by
   intro n
   induction n with
   | zero => rfl
   | succ n ih =>
    simp only [total]
    rw [ih]
    by_cases e : n = i
    ·subst e
     rw [Row.put_at]
     simp only
     rw [hl]
    ·rw [Row.put_ne e]
  rw [this]
  exact h.le
 ·by_cases ea : a = i
  ·subst ea
   rw [Row.put_at] at hx
   rw [Row.put_ne (fun e => hab e.symm)] at hy
   rcases hfp' x hx with hx | hx
   ·exact h.apart a b ha hb hab x hx hy
   ·have := (h.book b hb).lt x hy
    omega
  ·rw [Row.put_ne ea] at hx
   by_cases eb : b = i
   ·subst eb
    rw [Row.put_at] at hy
    rcases hfp' x hy with hy | hy
    ·exact h.apart a b ha hb hab x hx hy
    ·have := (h.book a ha).lt x hx
     omega
   ·rw [Row.put_ne eb] at hy
    exact h.apart a b ha hb hab x hx hy
 ·rintro x (rfl | ⟨j, hj, hx⟩)
  ·exact .inl ((hΦ _).2 (.inl rfl))
  ·by_cases e : j = i
   ·subst e
    rw [Row.put_at] at hx
    exact (hfp' x hx).imp (fun hx => (hΦ x).2 (.inr ⟨j, hj, hx⟩)) id
   ·rw [Row.put_ne e] at hx
    exact .inl ((hΦ x).2 (.inr ⟨j, hj, hx⟩))
def PutBX (X : Kinds) (ph : Nat → Nat) (w : World) (g : Nat) (pc : List Value) (Φ : Nat → Prop) (L : Option Addr) (w' : World) : Prop :=
 ∃ Φ', BX X ph w' g pc Φ' ∧ Kp (fun x => Φ x ∨ Bk L x) w w' ∧ ∀ x, Φ' x → Φ x ∨ Bk L x ∨ w.heap.size ≤ x
theorem BX.putE {X : Kinds} (hX : X.Ok) {ph : Nat → Nat} {w w' : World} {g : Nat} {pc : List Value} {Φ : Nat → Prop} {cur : Array Value} {next : Nat} {R : Nat → Row} (h : BXIn X ph w g pc cur next R) (hΦ : ∀ x, Φ x ↔ BXFp X g R x) {i : Nat} (hi : i < X.n) (hl : (R i).ps.length < 96) {L : Option Addr} (hL : ∀ x, Bk L x → ¬ Φ x)
  (hp : PutE (X.K i) (X.at_ i) (X.P i (ph i)) w g next cur (R i).A (R i).ps L w') (_hLl : ∀ x, Bk L x → x < w.heap.size) : PutBX X ph w g pc Φ L w' := by
 obtain ⟨A', c', p, hB, hk, hA', hf⟩ := hp
 have hpl := h.pcl
 have hpi := hX.pos i hi
 have hsz : 6 < cur.size := (Array.getElem?_eq_some_iff.1 h.nxt).1
 have hcur : ∀ k, k ≠ 6 → k ≠ X.at_ i → ((cur.setIfInBounds 6 (.int .i64 ((next + 1 : Nat) : Int))).setIfInBounds (X.at_ i) (.slice A' ((R i).ps.length + 1) c'))[k]? = cur[k]? := fun k h1 h2 => by
  rw [Array.getElem?_setIfInBounds, if_neg (fun e => h2 e.symm), Array.getElem?_setIfInBounds, if_neg (fun e => h1 e.symm)]
 have hfp : ∀ x, PsFp A' ((R i).ps ++ [p]) x → PsFp (R i).A (R i).ps x ∨ Bk L x ∨ w.heap.size ≤ x := by
  rintro x (hx | ⟨q, hq, hx⟩)
  ·exact (hA' x hx).imp .inl .inr
  ·rcases List.mem_append.1 hq with hq | hq
   ·exact .inl (.inr ⟨q, hq, hx⟩)
   ·obtain rfl := List.mem_singleton.1 hq
    exact .inr (hf x hx)
 have hkΦ : Kp (fun x => Φ x ∨ Bk L x) w w' := hk.mono fun x _ hx => by
  rcases hx with rfl | hx | hx
  ·exact .inl ((hΦ _).2 (.inl rfl))
  ·exact .inl ((hΦ _).2 (.inr ⟨i, hi, .inl hx⟩))
  ·exact .inr hx
 refine ⟨BXFp X g (Row.put R i ⟨A', c', (R i).ps ++ [p]⟩), ⟨_, next + 1, Row.put R i ⟨A', c', (R i).ps ++ [p]⟩, ⟨fun j hj => ?_, fun j hj => ?_, hB.1, ?_, ?_, fun k h1 h2 h3 => ?_, fun k hk => ?_, hpl, fun a b ha hb hab x hx hy => ?_⟩, fun x => Iff.rfl⟩, hkΦ, ?_⟩
 ·by_cases e : j = i
  ·subst e
   rw [Row.put_at]
   exact hB
  ·rw [Row.put_ne e]
   refine ⟨hB.1, ?_, (h.book j hj).2.2.kp (hX.stable j _) hk ?_ ?_⟩
   ·have := hX.pos j hj
    rw [hcur _ (by omega) (hX.inj j i hj hi e)]
    exact (h.book j hj).2.1
   ·rintro x hx (rfl | hb | hb)
    ·exact (h.book j hj).out (.inl hx)
    ·exact h.apart j i hj hi e x (.inl hx) (.inl hb)
    ·exact hL x hb ((hΦ x).2 (.inr ⟨j, hj, .inl hx⟩))
   ·rintro q hq x hx (rfl | hb | hb)
    ·exact (h.book j hj).out (.inr ⟨q, hq, hx⟩)
    ·exact h.apart j i hj hi e x (.inr ⟨q, hq, hx⟩) (.inl hb)
    ·exact hL x hb ((hΦ x).2 (.inr ⟨j, hj, .inr ⟨q, hq, hx⟩⟩))
 ·by_cases e : j = i
  ·subst e
   rw [Row.put_at]
   simp only [List.length_append, List.length_cons, List.length_nil]
   omega
  ·rw [Row.put_ne e]
   exact h.few j hj
 ·rw [Array.getElem?_setIfInBounds, if_neg (by omega), Array.getElem?_setIfInBounds, if_pos rfl, if_pos hsz]
 ·rw [total_put hi (by simp)]
  have := h.le
  omega
 ·rw [hcur k (by omega) (fun e => h3 i hi e.symm)]
  exact h.none_ k h1 h2 h3
 ·rw [hcur k (by omega) (by omega)]
  exact h.same k hk
 ·by_cases ea : a = i
  ·subst ea
   rw [Row.put_at] at hx
   rw [Row.put_ne (fun e => hab e.symm)] at hy
   rcases hfp x hx with hx | hx | hx
   ·exact h.apart a b ha hb hab x hx hy
   ·exact hL x hx ((hΦ x).2 (.inr ⟨b, hb, hy⟩))
   ·have := (h.book b hb).lt x hy
    omega
  ·rw [Row.put_ne ea] at hx
   by_cases eb : b = i
   ·subst eb
    rw [Row.put_at] at hy
    rcases hfp x hy with hy | hy | hy
    ·exact h.apart a b ha hb hab x hx hy
    ·exact hL x hy ((hΦ x).2 (.inr ⟨a, ha, hx⟩))
    ·have := (h.book a ha).lt x hx
     omega
   ·rw [Row.put_ne eb] at hy
    exact h.apart a b ha hb hab x hx hy
 ·rintro x (rfl | ⟨j, hj, hx⟩)
  ·exact .inl ((hΦ _).2 (.inl rfl))
  ·by_cases e : j = i
   ·subst e
    rw [Row.put_at] at hx
    exact (hfp x hx).imp (fun hx => (hΦ x).2 (.inr ⟨j, hj, hx⟩)) id
   ·rw [Row.put_ne e] at hx
    exact .inl ((hΦ x).2 (.inr ⟨j, hj, hx⟩))
theorem BX.putNone {X : Kinds} {ph : Nat → Nat} {w : World} {g : Nat} {pc : List Value} {Φ : Nat → Prop} (h : BX X ph w g pc Φ) (L : Option Addr) : PutBX X ph w g pc Φ L w := ⟨Φ, h, Kp.refl _ _, fun _ h => .inl h⟩
def SX (X : Kinds) (ph : Nat → Nat) (g : Nat) (pc : List Value) (Φ0 : Nat → Prop) (W0 w : World) : Prop :=
 ∃ Φ, BX X ph w g pc Φ ∧ Kp Φ0 W0 w ∧ (∀ x, Φ x → Φ0 x ∨ W0.heap.size ≤ x) ∧ Tab w ∧ ¬ Φ0 0 ∧ 0 < W0.heap.size
theorem SX.new {X : Kinds} (hX : X.Ok) {ph : Nat → Nat} {g : Nat} {pc : List Value} {Φ0 : Nat → Prop} {W0 w w' : World} (h : SX X ph g pc Φ0 W0 w) (hk : New w w') : SX X ph g pc Φ0 W0 w' := by
 obtain ⟨Φ, h1, h2, h3, h4, h5⟩ := h
 exact ⟨Φ, h1.new hX hk, h2.trans hk fid (fun _ _ h => h.elim), h3, h4.new hk, h5⟩
theorem SX.phase {X : Kinds} {ph ph' : Nat → Nat} {g : Nat} {pc : List Value} {Φ0 : Nat → Prop} {W0 w : World} (h : SX X ph g pc Φ0 W0 w) (hp : ∀ i, i < X.n → ph' i = ph i) : SX X ph' g pc Φ0 W0 w := by
 obtain ⟨Φ, h1, h2⟩ := h
 exact ⟨Φ, h1.phase hp, h2⟩
theorem SX.tab {Φ0 Φ : Nat → Prop} {W0 : World} (h3 : ∀ x, Φ x → Φ0 x ∨ W0.heap.size ≤ x) (h5 : ¬ Φ0 0 ∧ 0 < W0.heap.size) : ¬ Φ 0 := fun h => (h3 _ h).elim h5.1 (fun h => by omega)
theorem SX.turn {X : Kinds} (hX : X.Ok) {ph : Nat → Nat} {w w' W0 : World} {g : Nat} {pc : List Value} {Φ0 Φ : Nat → Prop} {cur : Array Value} {next : Nat} {R : Nat → Row} (h : BXIn X ph w g pc cur next R) (hΦ : ∀ x, Φ x ↔ BXFp X g R x) {i v : Nat} (hi : i < X.n)
  (h2 : Kp Φ0 W0 w) (h3 : ∀ x, Φ x → Φ0 x ∨ W0.heap.size ≤ x) (h4 : Tab w) (h5 : ¬ Φ0 0 ∧ 0 < W0.heap.size)
  (hs : PsSoT (X.K i).pt (X.P i v) w g (R i).A (R i).c (R i).ps w') : SX X (setPh ph i v) g pc Φ0 W0 w' := by
 obtain ⟨Φ', k1, k2, k3⟩ := BX.turn hX h hΦ hi hs
 have hz := h2.size
 refine ⟨Φ', k1, h2.trans k2 fid (fun x hx hf => (h3 x hf).elim id (fun h => by omega)), fun x hx => (k3 x hx).elim (h3 x) (fun h => .inr (by omega)), h4.kp k2 ?_, h5⟩
 exact fun hf => (h3 _ hf).elim h5.1 (fun h => by omega)
end Go.Proofs.YtekcoeonlfmebaaGreatDoor.Kit
