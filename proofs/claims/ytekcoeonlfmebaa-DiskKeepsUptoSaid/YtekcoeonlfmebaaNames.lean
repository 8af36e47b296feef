/- disk.names: the files' names, rising; the library's sort of strings. -/
import Derived.Test.YtekcoeonlfmebaaDisk
import Derived.Test.YtekcoeonlfmebaaDiskF
import Derived.Test.YtekcoeonlfmebaaMapOps
import Derived.Test.YtekcoeonlfmebaaShelf
import Derived.Sort.OwnSorted
import Derived.Laws.MakeOwn
namespace Go.Proofs.Ytekcoeonlfmebaa.Kit
open Go Go.RowKit

theorem Try.info_str : (Try.prog.info? 9).map (fun i => (i.zero, i.size, i.bytes)) = some (some (.string ⟨#[]⟩), 1, 16) := by kernel_rfl
def sortN (l : List Nm) : List Nm := l.mergeSort fun x y => decide (x ≤ y)
def SortPost (w : World) (A : Option Addr) (c : Nat) (ss : List Nm) (e : Ending) (w' : World) : Prop := e = .returned (.tuple #[]) ∧ Own w' 9 1 A c ss.length ((sortN ss).map sv) ∧ Kp (Bk A) w w'

theorem sort_calls (w : World) (A : Option Addr) (c n : Nat) (ss : List Nm) (h : Own w 9 1 A c n (ss.map sv)) (hn : n = ss.length) (hb : n < 4611686018427387904) :
    Calls Try.prog 51 #[.slice A n c] w (SortPost w A c ss) := by
  subst hn
  rcases h.2 with ⟨rfl, rfl, h0⟩ | ⟨g, cur, rfl, hg, h1, h2, h3, h4⟩
  · have hs : ss = [] := List.eq_nil_of_length_eq_zero h0
    subst hs
    refine (Try.slices_Sort_string_none none 0 w).mono ?_
    rintro e w' ⟨rfl, rfl⟩
    exact ⟨rfl, by simpa [sortN] using h, Kp.refl _ _⟩
  · have hH : Sort.Holds encStr w g 0 ss.toArray := holds_of_block hg (by rw [Nat.mul_one] at h4; exact h4)
    refine (Try.slices_Sort_string g 0 c ss w hH (Array.getElem?_eq_some_iff.1 hg).1 hb).mono ?_
    rintro e w' ⟨rfl, k, os, rfl⟩
    have hl : (sortN ss).length = ss.length := by simp [sortN]
    refine ⟨rfl, ⟨by simp [hl], .inr ⟨g, _, rfl, heap_sorted _ hg, h1, h2, by simp [Sort.putCells]; omega, ?_⟩⟩, (Kp.of_grown (grownBy_sorted _)).mono fun k _ hk => Bk.some_.2 (by cases hk; rfl)⟩
    have := take_putCells cur (sortN ss) (by rw [hl]; omega)
    rw [hl] at this
    rw [Nat.mul_one]
    exact this
theorem sortN_perm (l : List Nm) : (sortN l).Perm l := List.mergeSort_perm l _
theorem le_total' (a b : Nm) : (decide (a ≤ b) || decide (b ≤ a)) = true := by
  rcases List.le_total a b with h | h <;> simp [h]
theorem le_trans' (a b c : Nm) (h : decide (a ≤ b) = true) (k : decide (b ≤ c) = true) : decide (a ≤ c) = true := by
  simp only [decide_eq_true_eq] at *
  exact List.le_trans h k
theorem nm_le_of_lt {a b : Nm} (h : a < b) : a ≤ b := List.not_lt.1 fun k => nm_irrefl a (nm_lt_trans h k)
/-- A rising list is what any list of its members sorts to. -/
theorem sortN_rise {l m : List Nm} (hp : l.Perm m) (hm : m.Pairwise (· < ·)) : sortN l = m := by
  refine List.Perm.eq_of_pairwise (le := fun a b => a ≤ b) (fun a b _ _ h k => List.le_antisymm h k) ?_ (hm.imp nm_le_of_lt) ((sortN_perm l).trans hp)
  have := List.pairwise_mergeSort (le := fun x y : Nm => decide (x ≤ y)) le_trans' le_total' l
  exact this.imp fun h => by simpa using h
theorem Own.made (w : World) (e : TypeId) (sz : Nat) (C : Array Value) (n : Nat) (h : n * sz ≤ C.size) (hn : n ≤ maxLen) : Own (w.alloc (.cells C e)) e sz (some ⟨w.heap.size, 0, none⟩) n 0 [] :=
  ⟨by simp, .inr ⟨w.heap.size, C, rfl, heap_alloc_new w _, Nat.zero_le _, hn, h, by simp⟩⟩
def DS.namesOf (s : DS) : List Nm := s.files.map (·.name)
/-- A new slice of names. -/
def NewNames (w : World) (l : List Nm) (w' : World) (A : Option Addr) (n c : Nat) : Prop :=
  n = l.length ∧ Own w' 9 1 A c n (l.map sv) ∧ New w w' ∧ (∀ k, Bk A k → w.heap.size ≤ k)
def NamesPost (w : World) (s : DS) (e : Ending) (w' : World) : Prop := ∃ A n c, e = .returned (.slice A n c) ∧ NewNames w s.namesOf w' A n c
def lenV : Value → Nat
  | .slice _ n _ => n
  | _ => 0

set_option maxRecDepth 100000 in
set_option maxHeartbeats 4000000 in
theorem names_calls (w : World) (d : Nat) (s : DS) (F : List Nat) (hD : DiskAt w d s F) :
    Calls Try.prog 33 #[.pointer (some ⟨d, 0, none⟩)] w (NamesPost w s) := by
  obtain ⟨bm, xs, hX, rfl⟩ := hD
  have c2 : w.cell? ⟨d, 2, none⟩ = some (.map (some bm)) := (cell_of_block hX.blk).trans rfl
  have hsz : ∀ ty, (Builtin.len_ #[67] ty #[.map (some bm)]).run Try.prog w = .ok (.int .i64 (xs.length : Int)) w := fun ty => by
    rw [run_size (P := Try.prog) Try.underlying67 hX.map ty, List.length_map]
  have hfew : xs.length ≤ 64 := by have := hX.ok.few; rw [← hX.perm.length_eq, List.length_map] at this; exact this
  obtain ⟨i, hi, hz, h1, h2⟩ := info_parts Try.info_str
  have hmk := run_make (P := Try.prog) w 58 9 i _ Try.underlying58 hi hz .i64 .i64 0 (xs.length : Int) (by omega) (by omega) (by rw [h2]; omega) (by omega)
  rw [h1] at hmk
  simp only [Int.toNat_natCast, Int.toNat_zero, Nat.mul_one] at hmk
  obtain ⟨C, hC⟩ : ∃ C, madeCells (Value.string ⟨#[]⟩).cells xs.length = C := ⟨_, rfl⟩
  have hCs : xs.length ≤ C.size := by rw [← hC]; simp [madeCells]
  rw [hC] at hmk
  obtain ⟨W, hW⟩ : ∃ W, w.alloc (.cells C 9) = W := ⟨_, rfl⟩
  have hO : Own W 9 1 (some ⟨w.heap.size, 0, none⟩) xs.length 0 [] := hW ▸ Own.made w 9 1 C xs.length (by omega) (by unfold maxLen; omega)
  have nW : New w W := hW ▸ Kp.alloc _ _ _
  have zW : W.heap.size = w.heap.size + 1 := by rw [← hW]; simp
  rw [hW] at hmk
  have d2 : W.cell? ⟨d, 2, none⟩ = some (.map (some bm)) := nW.cell c2
  obtain ⟨it, hr, hR⟩ := run_range (P := Try.prog) Try.underlying67 (hX.new nW).map
  have HX := Lib.hid (And.intro hX (And.intro hO (And.intro nW (And.intro zW hR))))
  have hbl := hX.map.lt
  clear hX hi hz h1 h2 hC hCs hW hO nW zW hR
  go_enter Try.func33, Try.ntmps33
  go_wp2_with fail
  go_loopw [3] (fun v wr => ∃ (A1 : Option Addr) (c1 : Nat) (ss : List Nm) (todo : List (List UInt8 × Value)), v = .slice A1 ss.length c1 ∧ ss.length ≤ xs.length ∧ Hid (Own wr 9 1 A1 c1 ss.length (ss.map sv) ∧ Rng wr bm W.heap.size todo ∧ (ss ++ todo.map (·.1)).Perm (xs.map fun x => x.f.name) ∧ New w wr ∧ (∀ k, Bk A1 k → w.heap.size ≤ k) ∧ W.heap.size < wr.heap.size)) (fun v _ => xs.length - lenV v)
  case atStart =>
    have hk1 : Kp (fun _ => False) W (W.alloc it) := Kp.alloc _ _ _
    exact ⟨some ⟨w.heap.size, 0, none⟩, xs.length, [], xs.map FE.ent, rfl, Nat.zero_le _, Lib.hid ⟨HX.out.2.1.new hk1, HX.out.2.2.2.2, by rw [List.nil_append, List.map_map]; exact List.Perm.refl _, HX.out.2.2.1.trans hk1 (fun _ _ h => h) (fun _ _ h => h), fun k h => by have := Bk.some_.1 h; simp at this; omega, by simp⟩⟩
  case round =>
    obtain ⟨A1, c1, ss, todo, rfl, hle, HI⟩ := hrel
    have hcells : ∀ k, Bk A1 k → ∃ cs e fr, wr.heap[k]? = some (.cells cs e fr) := fun k hk => by
      rcases HI.out.1.2 with ⟨rfl, _⟩ | ⟨g, cur, rfl, hg, _⟩
      · exact absurd hk Bk.none_
      · obtain rfl : g = k := Bk.some_.1 hk
        exact ⟨_, _, _, hg⟩
    have hrb : ¬ Bk A1 W.heap.size ∧ ¬ Bk A1 bm := by
      obtain ⟨es, clock, l, seen, c0, q1, q2, q3, _⟩ := HI.out.2.1
      refine ⟨fun h => ?_, fun h => ?_⟩
      · obtain ⟨cs, e, fr, hc⟩ := hcells _ h
        rw [q3] at hc
        cases hc
      · obtain ⟨cs, e, fr, hc⟩ := hcells _ h
        rw [q1] at hc
        cases hc
    rcases run_next (P := Try.prog) HI.out.2.1 (by rw [HX.out.2.2.2.1]; omega) with ⟨h0, hn⟩ | ⟨t1, x, t2, w', ht, hn, hR', hk', hen⟩
    · have hperm : ss.Perm (xs.map fun x => x.f.name) := by have := HI.out.2.2.1; rw [h0] at this; simpa using this
      have HP := Lib.hid hperm
      clear h0 hperm hcells hrb
      go_wp2_with fail
      refine (sort_calls wr A1 c1 ss.length ss HI.out.1 rfl (by omega)).mono ?_
      rintro e w2 ⟨rfl, ho, hk⟩
      have HS := Lib.hid (And.intro ho hk)
      clear ho hk
      go_wp2_with fail
      go_ret
      have hs : sortN ss = s.namesOf := by
        refine sortN_rise (HP.out.trans ?_) HX.out.1.ok.rise
        have := HX.out.1.perm.map (·.name)
        rw [List.map_map] at this
        exact this
      have hl : ss.length = s.namesOf.length := by rw [← hs]; simp [sortN]
      refine ⟨A1, _, c1, rfl, hl, by rw [← hs]; exact HS.out.1, HI.out.2.2.2.1.trans HS.out.2 (fun _ _ h => h) (fun k hk hb => by have := HI.out.2.2.2.2.1 k hb; omega), HI.out.2.2.2.2.1⟩
    · have hlen : ss.length + (t1.length + t2.length + 1) = xs.length := by
        have := HI.out.2.2.1.length_eq
        rw [ht] at this
        simp at this
        omega
      have hO' : Own w' 9 1 A1 c1 ss.length (ss.map sv) := HI.out.1.kp hk' (fun k hb e => hrb.1 (e ▸ hb))
      have hn' : New w w' := HI.out.2.2.2.1.trans hk' (fun _ _ h => h) (fun k hk e => by have := HX.out.2.2.2.1; omega)
      have hz' := hk'.size
      have HN := Lib.hid (And.intro ht (And.intro hR' (And.intro hk' (And.intro hO' (And.intro hn' hrb)))))
      clear ht hR' hk' hO' hn' hcells hrb
      go_wp2_with (at_builtin; refine wpList_append_src _ rfl (.tmp 20) (.tmp 22) 58 58 rfl 9 (.string ⟨#[]⟩) 1 16 Try.underlying58 Try.info_str rfl A1 c1 ss.length (ss.map sv) rfl (HN.out.2.2.2.1.new (Kp.alloc _ _ _)) _ rfl 1 _ (Src.ofNew _ Try.underlying58 #[sv x.1] 9 1 1 1 rfl (by simp [Value.oneCell'])) (by omega) (by omega) ?_; intro A3 c3 w3 h31 h32 h33; have H3 := Lib.hid (And.intro h31 (And.intro h32 h33)); clear h31 h32 h33)
      have hkA : Kp (Bk A1) w' w3 := (Kp.alloc (fun _ => False) w' _).trans H3.out.2.1 (fun _ _ h => h.elim) (fun _ _ h => h)
      have hz3 := hkA.size
      have hbr := HI.out.2.2.2.2.2
      refine ⟨⟨A3, c3, ss ++ [x.1], t1 ++ t2, by simp, by simp; omega, Lib.hid ⟨?_, HN.out.2.1.keep ?_ ?_, ?_, HN.out.2.2.2.2.1.trans hkA (fun _ _ h => h) (fun k hk hb => by have := HI.out.2.2.2.2.1 k hb; omega), fun k hk => ?_, by omega⟩⟩, ?_⟩
      · have := H3.out.1
        rw [List.map_append, List.length_append]
        exact this
      · exact hkA.block bm (by have := HI.out.2.2.2.1.size; omega) HN.out.2.2.2.2.2.2
      · exact hkA.block _ (by omega) HN.out.2.2.2.2.2.1
      · refine List.Perm.trans ?_ HI.out.2.2.1
        rw [HN.out.1, List.append_assoc, List.map_append, List.map_append, List.map_cons]
        exact List.Perm.append_left _ (by rw [List.singleton_append]; exact List.perm_middle.symm)
      · rcases H3.out.2.2 k hk with h | h
        · exact HI.out.2.2.2.2.1 k h
        · have h1 : (w'.alloc (.cells #[sv x.1] 9)).heap.size = w'.heap.size + 1 := by simp
          have := HI.out.2.2.2.1.size
          omega
      · simp [lenV]
        omega
end Go.Proofs.Ytekcoeonlfmebaa.Kit
