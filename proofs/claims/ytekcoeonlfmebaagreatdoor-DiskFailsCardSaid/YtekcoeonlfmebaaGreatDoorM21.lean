/- 3 texts in one: disk.names: the files' names, rising; the library's sort of strings.; slices.Clone and slices.Clip of bytes.; disk.Sync: a file's bytes made to last. -/
import Derived.Test.YtekcoeonlfmebaaGreatDoorM13
import Derived.Test.YtekcoeonlfmebaaGreatDoorM16
import Derived.Test.YtekcoeonlfmebaaGreatDoorM2
import Derived.Sort.OwnSorted
import Derived.Laws.MakeOwn
import Derived.Test.YtekcoeonlfmebaaGreatDoorM0
import Derived.WalkSpells
namespace Go.Proofs.YtekcoeonlfmebaaGreatDoor.Kit
open Go Go.RowKit
theorem Tryz.info_str : (Tryz.prog.info? 9).map (fun i => (i.zero, i.size, i.bytes)) = some (some (.string ⟨#[]⟩), 1, 16) := by kernel_rfl
def sortN (l : List Nm) : List Nm := l.mergeSort fun x y => decide (x ≤ y)
def SortPost (w : World) (A : Option Addr) (c : Nat) (ss : List Nm) (e : Ending) (w' : World) : Prop := e = .returned (.tuple #[]) ∧ Own w' 9 1 A c ss.length ((sortN ss).map sv) ∧ Kp (Bk A) w w'
theorem sort_calls (w : World) (A : Option Addr) (c n : Nat) (ss : List Nm) (h : Own w 9 1 A c n (ss.map sv)) (hn : n = ss.length) (hb : n < 4611686018427387904) :
  Calls Tryz.prog 155 #[.slice A n c] w (SortPost w A c ss) := by
 subst hn
 rcases h.2 with ⟨rfl, rfl, h0⟩ | ⟨g, cur, rfl, hg, h1, h2, h3, h4⟩
 ·have hs : ss = [] := List.eq_nil_of_length_eq_zero h0
  subst hs
  refine (Tryz.slices_Sort_string_none none 0 w).mono ?_
  rintro e w' ⟨rfl, rfl⟩
  exact ⟨rfl, by simpa [sortN] using h, Kp.refl _ _⟩
 ·have hH : Sort.Holds encStr w g 0 ss.toArray := holds_of_block hg (by rw [Nat.mul_one] at h4; exact h4)
  refine (Tryz.slices_Sort_string g 0 c ss w hH (Array.getElem?_eq_some_iff.1 hg).1 hb).mono ?_
  rintro e w' ⟨rfl, k, os, rfl⟩
  have hl : (sortN ss).length = ss.length := by simp [sortN]
  refine ⟨rfl, ⟨by simp [hl], .inr ⟨g, _, rfl, heap_sorted _ hg, h1, h2, by simp [Sort.putCells]; omega, ?_⟩⟩, (Kp.of_grown (grownBy_sorted _)).mono fun k _ hk => Bk.some_.2 (by cases hk; rfl)⟩
  have := take_putCells cur (sortN ss) (by rw [hl]; omega)
  rw [hl] at this
  rw [Nat.mul_one]
  exact this
theorem sortN_perm (l : List Nm) : (sortN l).Perm l := List.mergeSort_perm l _
theorem le_total' (a b : Nm) : (decide (a ≤ b) || decide (b ≤ a)) = true := by
 rcases List.le_total a b with h | h <;> simp [h]
theorem le_trans' (a b c : Nm) (h : decide (a ≤ b) = true) (k : decide (b ≤ c) = true) : decide (a ≤ c) = true := by
 simp only [decide_eq_true_eq] at *
 exact List.le_trans h k
theorem nm_le_of_lt {a b : Nm} (h : a < b) : a ≤ b := List.not_lt.1 fun k => nm_irrefl a (nm_lt_trans h k)
theorem sortN_rise {l m : List Nm} (hp : l.Perm m) (hm : m.Pairwise (· < ·)) : sortN l = m := by
 refine List.Perm.eq_of_pairwise (le := fun a b => a ≤ b) (fun a b _ _ h k => List.le_antisymm h k) ?_ (hm.imp nm_le_of_lt) ((sortN_perm l).trans hp)
 have := List.pairwise_mergeSort (le := fun x y : Nm => decide (x ≤ y)) le_trans' le_total' l
 exact this.imp fun h => by simpa using h
theorem Own.made (w : World) (e : TypeId) (sz : Nat) (C : Array Value) (n : Nat) (h : n * sz ≤ C.size) (hn : n ≤ maxLen) : Own (w.alloc (.cells C e)) e sz (some ⟨w.heap.size, 0, none⟩) n 0 [] :=
 ⟨by simp, .inr ⟨w.heap.size, C, rfl, heap_alloc_new w _, Nat.zero_le _, hn, h, by simp⟩⟩
def DS.namesOf (s : DS) : List Nm := s.files.map (·.name)
def NewNames (w : World) (l : List Nm) (w' : World) (A : Option Addr) (n c : Nat) : Prop :=
 n = l.length ∧ Own w' 9 1 A c n (l.map sv) ∧ New w w' ∧ (∀ k, Bk A k → w.heap.size ≤ k)
def NamesPost (w : World) (s : DS) (e : Ending) (w' : World) : Prop := ∃ A n c, e = .returned (.slice A n c) ∧ NewNames w s.namesOf w' A n c
def lenV : Value → Nat
 | .slice _ n _ => n
 | _ => 0
set_option maxRecDepth 100000 in
set_option maxHeartbeats 4000000 in
theorem names_calls (w : World) (d : Nat) (s : DS) (F : List Nat) (hD : DiskAt w d s F) :
  Calls Tryz.prog 50 #[.pointer (some ⟨d, 0, none⟩)] w (NamesPost w s) := by
 obtain ⟨bm, xs, hX, rfl⟩ := hD
 have c2 : w.cell? ⟨d, 2, none⟩ = some (.map (some bm)) := (cell_of_block hX.blk).trans rfl
 have hsz : ∀ ty, (Builtin.len_ #[83] ty #[.map (some bm)]).run Tryz.prog w = .ok (.int .i64 (xs.length : Int)) w := fun ty => by
  rw [run_size (P := Tryz.prog) Tryz.underlying83 hX.map ty, List.length_map]
 have hfew : xs.length ≤ 64 := by have := hX.ok.few; rw [← hX.perm.length_eq, List.length_map] at this; exact this
 obtain ⟨i, hi, hz, h1, h2⟩ := info_parts Tryz.info_str
 have hmk := run_make (P := Tryz.prog) w 77 9 i _ Tryz.underlying77 hi hz .i64 .i64 0 (xs.length : Int) (by omega) (by omega) (by rw [h2]; omega) (by omega)
 rw [h1] at hmk
 simp only [Int.toNat_natCast, Int.toNat_zero, Nat.mul_one] at hmk
 obtain ⟨C, hC⟩ : ∃ C, madeCells (Value.string ⟨#[]⟩).cells xs.length = C := ⟨_, rfl⟩
 have hCs : xs.length ≤ C.size := by rw [← hC]; simp [madeCells]
 rw [hC] at hmk
 obtain ⟨W, hW⟩ : ∃ W, w.alloc (.cells C 9) = W := ⟨_, rfl⟩
 have hO : Own W 9 1 (some ⟨w.heap.size, 0, none⟩) xs.length 0 [] := hW ▸ Own.made w 9 1 C xs.length (by omega) (by unfold maxLen; omega)
 have nW : New w W := hW ▸ Kp.alloc _ _ _
 have zW : W.heap.size = w.heap.size + 1 := by rw [← hW]; simp
 rw [hW] at hmk
 have d2 : W.cell? ⟨d, 2, none⟩ = some (.map (some bm)) := nW.cell c2
 obtain ⟨it, hr, hR⟩ := run_range (P := Tryz.prog) Tryz.underlying83 (hX.new nW).map
 have HX := Lib.hid (And.intro hX (And.intro hO (And.intro nW (And.intro zW hR))))
 have hbl := hX.map.lt
 clear hX hi hz h1 h2 hC hCs hW hO nW zW hR
 go_enter Tryz.func50, Tryz.ntmps50
 go_wp2_with fail
 go_loopw [3] (fun v wr => ∃ (A1 : Option Addr) (c1 : Nat) (ss : List Nm) (todo : List (List UInt8 × Value)), v = .slice A1 ss.length c1 ∧ ss.length ≤ xs.length ∧ Hid (Own wr 9 1 A1 c1 ss.length (ss.map sv) ∧ Rng wr bm W.heap.size todo ∧ (ss ++ todo.map (·.1)).Perm (xs.map fun x => x.f.name) ∧ New w wr ∧ (∀ k, Bk A1 k → w.heap.size ≤ k) ∧ W.heap.size < wr.heap.size)) (fun v _ => xs.length - lenV v)
 case atStart =>
  have hk1 : Kp (fun _ => False) W (W.alloc it) := Kp.alloc _ _ _
  exact ⟨some ⟨w.heap.size, 0, none⟩, xs.length, [], xs.map FE.ent, rfl, Nat.zero_le _, Lib.hid ⟨HX.out.2.1.new hk1, HX.out.2.2.2.2, by rw [List.nil_append, List.map_map]; exact List.Perm.refl _, HX.out.2.2.1.trans hk1 fid fid, fun k h => by have := Bk.some_.1 h; simp at this; omega, by simp⟩⟩
 case round =>
  obtain ⟨A1, c1, ss, todo, rfl, hle, HI⟩ := hrel
  have hcells : ∀ k, Bk A1 k → ∃ cs e fr, wr.heap[k]? = some (.cells cs e fr) := fun k hk => by
   rcases HI.out.1.2 with ⟨rfl, _⟩ | ⟨g, cur, rfl, hg, _⟩
   ·exact absurd hk Bk.none_
   ·obtain rfl : g = k := Bk.some_.1 hk
    exact ⟨_, _, _, hg⟩
  have hrb : ¬ Bk A1 W.heap.size ∧ ¬ Bk A1 bm := by
   obtain ⟨es, clock, l, seen, c0, q1, q2, q3, _⟩ := HI.out.2.1
   refine ⟨fun h => ?_, fun h => ?_⟩
   ·obtain ⟨cs, e, fr, hc⟩ := hcells _ h
    rw [q3] at hc
    cases hc
   ·obtain ⟨cs, e, fr, hc⟩ := hcells _ h
    rw [q1] at hc
    cases hc
  rcases run_next (P := Tryz.prog) HI.out.2.1 (by rw [HX.out.2.2.2.1]; omega) with ⟨h0, hn⟩ | ⟨t1, x, t2, w', ht, hn, hR', hk', hen⟩
  ·have hperm : ss.Perm (xs.map fun x => x.f.name) := by have := HI.out.2.2.1; rw [h0] at this; simpa using this
   have HP := Lib.hid hperm
   clear h0 hperm hcells hrb
   go_wp2_with fail
   refine (sort_calls wr A1 c1 ss.length ss HI.out.1 rfl (by omega)).mono ?_
   rintro e w2 ⟨rfl, ho, hk⟩
   have HS := Lib.hid (And.intro ho hk)
   clear ho hk
   go_wp2_with fail
   go_ret
   have hs : sortN ss = s.namesOf := by
    refine sortN_rise (HP.out.trans ?_) HX.out.1.ok.rise
    have := HX.out.1.perm.map (·.name)
    rw [List.map_map] at this
    exact this
   have hl : ss.length = s.namesOf.length := by rw [← hs]; simp [sortN]
   refine ⟨A1, _, c1, rfl, hl, by rw [← hs]; exact HS.out.1, HI.out.2.2.2.1.trans HS.out.2 fid (fun k hk hb => by have := HI.out.2.2.2.2.1 k hb; omega), HI.out.2.2.2.2.1⟩
  ·have hlen : ss.length + (t1.length + t2.length + 1) = xs.length := by
    have := HI.out.2.2.1.length_eq
    rw [ht] at this
    simp at this
    omega
   have hO' : Own w' 9 1 A1 c1 ss.length (ss.map sv) := HI.out.1.kp hk' (fun k hb e => hrb.1 (e ▸ hb))
   have hn' : New w w' := HI.out.2.2.2.1.trans hk' fid (fun k hk e => by have := HX.out.2.2.2.1; omega)
   have hz' := hk'.size
   have HN := Lib.hid (And.intro ht (And.intro hR' (And.intro hk' (And.intro hO' (And.intro hn' hrb)))))
   clear ht hR' hk' hO' hn' hcells hrb
   go_wp2_with (at_builtin; refine wpList_append_src _ rfl (.tmp 20) (.tmp 22) 77 77 rfl 9 (.string ⟨#[]⟩) 1 16 Tryz.underlying77 Tryz.info_str rfl A1 c1 ss.length (ss.map sv) rfl (HN.out.2.2.2.1.new (Kp.alloc _ _ _)) _ rfl 1 _ (Src.ofNew _ Tryz.underlying77 #[sv x.1] 9 1 1 1 rfl (by simp [Value.oneCell'])) (by omega) (by omega) ?_; intro A3 c3 w3 h31 h32 h33; have H3 := Lib.hid (And.intro h31 (And.intro h32 h33)); clear h31 h32 h33)
   have hkA : Kp (Bk A1) w' w3 := (Kp.alloc (fun _ => False) w' _).trans H3.out.2.1 (fun _ _ h => h.elim) fid
   have hz3 := hkA.size
   have hbr := HI.out.2.2.2.2.2
   refine ⟨⟨A3, c3, ss ++ [x.1], t1 ++ t2, by simp, by simp; omega, Lib.hid ⟨?_, HN.out.2.1.keep ?_ ?_, ?_, HN.out.2.2.2.2.1.trans hkA fid (fun k hk hb => by have := HI.out.2.2.2.2.1 k hb; omega), fun k hk => ?_, by omega⟩⟩, ?_⟩
   ·have := H3.out.1
    rw [List.map_append, List.length_append]
    exact this
   ·exact hkA.block bm (by have := HI.out.2.2.2.1.size; omega) HN.out.2.2.2.2.2.2
   ·exact hkA.block _ (by omega) HN.out.2.2.2.2.2.1
   ·refine List.Perm.trans ?_ HI.out.2.2.1
    rw [HN.out.1, List.append_assoc, List.map_append, List.map_append, List.map_cons]
    exact List.Perm.append_left _ (by rw [List.singleton_append]; exact List.perm_middle.symm)
   ·rcases H3.out.2.2 k hk with h | h
    ·exact HI.out.2.2.2.2.1 k h
    ·have h1 : (w'.alloc (.cells #[sv x.1] 9)).heap.size = w'.heap.size + 1 := by simp
     have := HI.out.2.2.2.1.size
     omega
   ·simp [lenV]
    omega
def ClonePost (w : World) (l : List UInt8) (e : Ending) (w' : World) : Prop := ∃ A n c, e = .returned (.slice A n c) ∧ NewBytes w l w' A n c
set_option maxRecDepth 100000 in
set_option maxHeartbeats 1000000 in
theorem Clone_calls (w : World) (A : Option Addr) (n c : Nat) (l : List UInt8) (hl : RdB w A l) (hn : n = l.length) (hb : n ≤ 70368744177664) :
  Calls Tryz.prog 51 #[.slice A n c] w (ClonePost w l) := by
 subst hn
 have H := Lib.hid hl
 clear hl
 have q := fun w => Lib.run_eql_slice_nil (P := Tryz.prog) w 55 5 A l.length c 0 0 Tryz.underlying55
 cases A with
 | none =>
  have hnil : l = [] := Classical.byContradiction fun hl => by obtain ⟨_, _, e, _⟩ := H.out hl; cases e
  subst hnil
  have q' : ∀ w, (binOp BinOp.eql 55 (.slice none 0 c) (.slice none 0 0)).run Tryz.prog w = .ok (.bool true) w := q
  clear q
  go_enter Tryz.func51, Tryz.ntmps51
  go_wp2_with fail
  go_ret
  exact ⟨none, 0, 0, rfl, rfl, Own.nil _ _ _, Kp.refl _ _, fun k h => absurd h Bk.none_⟩
 | some a =>
  have q' : ∀ w, (binOp BinOp.eql 55 (.slice (some a) l.length c) (.slice none 0 0)).run Tryz.prog w = .ok (.bool false) w := q
  clear q
  go_enter Tryz.func51, Tryz.ntmps51
  go_wp2_with (at_builtin; refine wpList_append_src _ rfl (.tmp 5) (.tmp 6) 55 55 rfl 5 (.int .u8 0) 1 1 Tryz.underlying55 Tryz.info_u8 rfl _ 0 0 [] rfl (Own.bare _ _ _) _ rfl l.length (bcs l) (Src.ofRdB _ Tryz.underlying55 c (H.out.new (Kp.alloc _ _ _))) (by omega) (by omega) ?_; intro A2 c2 w2 h1 h2 h3; have H2 := Lib.hid (And.intro h1 (And.intro h2 h3)); clear h1 h2 h3)
  go_ret
  refine ⟨A2, l.length, c2, by simp, rfl, by simpa using H2.out.1, (Kp.alloc (fun _ => False) w _).trans H2.out.2.1 fid (fun x hx h => by have := Bk.some_.1 h; simp at this; omega), fun j hj => (H2.out.2.2 j hj).elim (fun h => by have := Bk.some_.1 h; simp at this; omega) (fun h => by simp at h; omega)⟩
theorem Clip_calls (w : World) (A : Option Addr) (n c : Nat) (h : n ≤ c) :
  Calls Tryz.prog 154 #[.slice A n c] w fun e w' => e = .returned (.slice A n n) ∧ w = w' := by
 have hs := run_slice_mid3 (P := Tryz.prog) 55 5 Tryz.underlying55 1 Tryz.size_u8 A n c 0 n n (Nat.zero_le _) (Nat.le_refl _) h
 rw [adv_zero] at hs
 go_enter Tryz.func154, Tryz.ntmps154
 go_wp2
 go_ret
 exact ⟨rfl, rfl⟩
theorem boxes2 {w : World} {d : Nat} {n : Nm} {w1 : World} (hd : d < w.heap.size) (hw1 : (w.alloc (.cells #[.pointer (some ⟨d, 0, none⟩)] 26)).alloc (.cells #[.string (bstr n)] 9) = w1) : Bx2 d w.heap.size n w1 ∧ New w w1 :=
 ⟨⟨hd, hw1 ▸ (Bx.new_ w _ _).kp (Kp.alloc (fun _ => False) _ _) id, hw1 ▸ (by have := Bx.new_ (w.alloc (.cells #[.pointer (some ⟨d, 0, none⟩)] 26)) 9 (.string (bstr n)); rwa [World.size_alloc] at this)⟩, hw1 ▸ (Kp.alloc _ _ _).trans (Kp.alloc _ _ _) fid fid⟩
theorem there_zero {s : DS} {n : Nm} (h : s.there n = 0) : goodN n = true ∧ ∃ f, s.find n = some f := by
 unfold DS.there at h
 split at h
 ·rename_i hg
  split at h
  ·rename_i hf
   exact ⟨hg, Option.isSome_iff_exists.1 hf⟩
  ·cases h
 ·cases h
theorem DiskX.look_some {w : World} {d bm : Nat} {s : DS} {xs : List FE} {n : Nm} {f : Fl} (h : DiskX w d s bm xs) (hf : s.find n = some f) : ∃ x l1 l2, xs = l1 ++ x :: l2 ∧ x.f = f ∧ f.name = n ∧ at? (xs.map FE.ent) n = some x.ptr := by
 rcases h.look n with ⟨h1, _⟩ | ⟨x, l1, l2, h1, h2, h3, h4, _⟩
 ·rw [hf] at h1; cases h1
 ·have e : x.f = f := Option.some.inj (h3.symm.trans hf)
  exact ⟨x, l1, l2, h1, e, e ▸ h2, h4⟩
theorem DiskX.mem_cut {w : World} {d bm : Nat} {s : DS} {l1 l2 : List FE} {x : FE} (h : DiskX w d s bm (l1 ++ x :: l2)) : x.at_ w := h.file x (by simp)
set_option maxHeartbeats 1000000 in
theorem Sync1_calls (w : World) (d B : Nat) (s : DS) (F : List Nat) (n : Nm) (hB : Bx2 d B n w) (hD : DiskAt w d s F) (hn : n.length ≤ 9223372036854775807) :
  Calls Tryz.prog 152 #[.pointer (some ⟨B, 0, none⟩), .pointer (some ⟨B + 1, 0, none⟩)] w fun e w' => e = .returned (.int .i64 (s.there n : Int)) ∧ New w w' := by
 have c0 := hB.2.1.cell
 have c1 := hB.2.2.cell
 have HD := Lib.hid hD
 clear hB hD
 go_enter Tryz.func152, Tryz.ntmps152
 go_wp2_with fail
 refine (there_calls w d s F n HD.out hn).mono ?_
 rintro e w1 ⟨rfl, hn1⟩
 have HN := Lib.hid hn1
 clear hn1
 go_wp2_with fail
 go_ret
 exact ⟨rfl, HN.out⟩
def syncF (f : Fl) : Fl := { f with syn := f.data.length }
set_option maxRecDepth 100000 in
set_option maxHeartbeats 2000000 in
theorem Sync2_calls (w : World) (d B : Nat) (s : DS) (F : List Nat) (n : Nm) (f : Fl) (hB : Bx2 d B n w) (hD : DiskAt w d s F) (hf : s.find n = some f) :
  Calls Tryz.prog 153 #[.pointer (some ⟨B, 0, none⟩), .pointer (some ⟨B + 1, 0, none⟩)] w fun e w' => e = .returned (.tuple #[]) ∧ ∃ F', DiskAt w' d { s with files := updF n syncF s.files } F' ∧ Mv F F' w w' := by
 obtain ⟨bm, xs, hX, rfl⟩ := hD
 obtain ⟨x, l1, l2, rfl, rfl, hfn, hat⟩ := hX.look_some hf
 have c0 := hB.2.1.cell
 have c1 := hB.2.2.cell
 have c2 : w.cell? ⟨d, 2, none⟩ = some (.map (some bm)) := (cell_of_block hX.blk).trans rfl
 have hl : ∀ j, (Instr.lookup 83 (.map (some bm)) (.string (bstr n)) false).run Tryz.prog (w.drewN j) = .ok (.pointer (some ⟨x.b, 0, none⟩)) (w.drewN j) := fun j => by rw [run_look_at (hX.map.drewN j) n, hat]; rfl
 have hxb := hX.mem_cut.1
 have f0 : w.cell? ⟨x.b, 0, none⟩ = some (.slice x.A x.f.data.length x.c) := (cell_of_block hxb).trans rfl
 have f1 : w.frozen? ⟨x.b, 1, none⟩ = false := by simp [World.frozen?, hxb]
 have g1 : w.cell? ⟨x.b, 1, none⟩ = some (.int .i64 (x.f.syn : Int)) := (cell_of_block hxb).trans rfl
 have H := Lib.hid (And.intro hX (And.intro hf (And.intro hfn hxb)))
 clear hX hf hfn hat hxb hB
 go_enter Tryz.func153, Tryz.ntmps153
 go_wp2_with fail
 go_quiet (fail)
 go_wp2_with fail
 go_end0
 have k1 : Kp (fun k => k = x.b) (w.drewN nq) ((w.drewN nq).setCell ⟨x.b, 1, none⟩ (.int .i64 (x.f.data.length : Int))) := Kp.setCell _ _ _ rfl
 have kk : Kp (fun k => k = x.b) w ((w.drewN nq).setCell ⟨x.b, 1, none⟩ (.int .i64 (x.f.data.length : Int))) := (Kp.drewN _ _ _).trans k1 fid fid
 obtain ⟨n1, n2, n3⟩ := H.out.1.blk_ne
 have hus := used_upd H.out.1.ok H.out.2.1 syncF
 have hu : usedF (updF n syncF s.files) = s.used := by
  have : (syncF x.f).data.length = x.f.data.length := rfl
  omega
 have g2 := heap_setCell_row (w := w.drewN nq) (j := 1) H.out.2.2.2 (.int .i64 (x.f.data.length : Int))
 refine ⟨rfl, H.out.1.updAt (x' := ⟨syncF x.f, x.b, x.A, x.c⟩) kk (fun k e => .inr (e ▸ List.mem_cons_self)) ?_ rfl rfl ⟨g2, ?_⟩ (fun k h => .inl h) syncF rfl (by rw [H.out.2.2.1]) (H.out.1.ok.upd n H.out.2.1 syncF (fun _ => rfl) (Nat.le_refl _) (by rw [hu]; exact H.out.1.ok.used))⟩
 ·refine (kk.block d (H.out.1.lt d (mem_fpD.2 (.inl rfl))) (fun e => (n1 x.b List.mem_cons_self).1 e.symm)).trans (H.out.1.blk.trans ?_)
  unfold dcells DS.used
  rw [← DS.used, hu]
 ·exact H.out.1.mem_cut.2.kp kk fun k hb e => by
   have := (List.nodup_append.1 (List.nodup_append.1 (fpD_cut d bm l1 l2 x ▸ H.out.1.own)).2.1).1
   exact (List.nodup_cons.1 this).1 (mem_bks.2 (e ▸ hb))
theorem Sync_calls (w : World) (d : Nat) (s : DS) (F : List Nat) (n : Nm) (hD : DiskAt w d s F) (hn : n.length ≤ 9223372036854775807) :
  Calls Tryz.prog 44 #[.pointer (some ⟨d, 0, none⟩), .string (bstr n)] w (ChangePost d F w (s.sync n)) := by
 have HD := Lib.hid hD
 clear hD
 go_enter Tryz.func44, Tryz.ntmps44
 go_wp2_with fail
 obtain ⟨w1, hw1⟩ : ∃ w1, (w.alloc (.cells #[.pointer (some ⟨d, 0, none⟩)] 26)).alloc (.cells #[.string (bstr n)] 9) = w1 := ⟨_, rfl⟩
 obtain ⟨hB, n1⟩ := boxes2 (HD.out.lt d HD.out.mem) hw1
 rw [hw1]
 refine (changing_calls w1 d s F (HD.out.new n1) 152 153 (Go.Proofs.enters_of Tryz.func152 (by kernel_rfl) rfl) (Go.Proofs.enters_of Tryz.func153 (by kernel_rfl) rfl) _ _ (Bx2 d w.heap.size n) hB (fun _ _ h k => h.new k) (fun _ _ h k => h.kd k) (s.there n) (fun s => { s with files := updF n syncF s.files })
  (fun w hB hD => Sync1_calls w d _ s F n hB hD hn) (fun h0 _ w fuse hB hD => ?_)).mono ?_
 ·obtain ⟨_, f, hf⟩ := there_zero h0
  exact Sync2_calls w d _ { s with fuse := fuse } F n f hB hD hf
 ·rintro e w2 ⟨rfl, F', h1, h2⟩
  have HE := Lib.hid (And.intro h1 (And.intro h2 n1))
  clear h1 h2 n1 hB hw1
  go_wp2_with fail
  go_ret
  exact ⟨rfl, F', HE.out.1, (Mv.of_new HE.out.2.2).trans HE.out.2.1⟩
end Go.Proofs.YtekcoeonlfmebaaGreatDoor.Kit
