/- 2 texts in one: The laws of the disk: loosened: a state whose lists have marks behind them.; daybookref03: Create, Fuse, Down, Free, From. -/
import Derived.Test.YtekcoeonlfmebaaGreatDoorM25
import Derived.Test.YtekcoeonlfmebaaGreatDoorM19
import Derived.Test.YtekcoeonlfmebaaGreatDoorM26
import Derived.Test.YtekcoeonlfmebaaGreatDoorM24
namespace Go.Proofs.YtekcoeonlfmebaaGreatDoor.Kit
open Go Go.RowKit
theorem Tryz.info_bs2 : (Tryz.prog.info? 55).map (fun i => (i.zero, i.size, i.bytes)) = some (some (.slice none 0 0), 1, 24) := by kernel_rfl
structure LooseOk (w : World) (ys : List FI) (w' : World) (A2 : Option Addr) (c2 : Nat) (xs : List BSl) (A3 : Option Addr) (c3 : Nat) (zs : List FI) : Prop where
 own : OwnL w' 55 5 A2 c2 xs
 lists : xs.map BSl.l = ys.map fun y => y.data ++ marksB 700000 64
 row : Own w' 82 3 A3 c3 (zs.length + 64) (zs.flatMap FI.cells ++ kFiles.marks 700000 64)
 tel : zs.map FI.tel = ys.map FI.tel
 at_ : ∀ z ∈ zs, ∃ x ∈ xs, z.A = x.A ∧ ∃ r, x.l = z.data ++ r
 apart : ∀ k, Bk A3 k → k ∉ bks A2 ++ blks xs
 fresh : ∀ k, Bk A3 k ∨ k ∈ bks A2 ++ blks xs → w.heap.size ≤ k
 new : New w w'
def LoosePost (w : World) (cap fuse : Int) (down : Bool) (ys : List FI) (e : Ending) (w' : World) : Prop :=
 ∃ A2 c2 xs A3 c3 zs, e = .returned (.tuple #[.agg #[.int .i64 cap, .slice A3 zs.length c3, .int .i64 fuse, .bool down], .slice A2 xs.length c2, .slice A3 (zs.length + 64) c3]) ∧ LooseOk w ys w' A2 c2 xs A3 c3 zs
theorem FI.flat_length (ys : List FI) : (ys.flatMap FI.cells).length = ys.length * 3 := by
 induction ys with
 | nil => rfl
 | cons y ys ih => rw [List.flatMap_cons, List.length_append, ih, List.length_cons]; simp [FI.cells]; omega
theorem FI.elt_flat {ys : List FI} {i : Nat} {y : FI} (hy : ys[i]? = some y) : elt (ys.flatMap FI.cells) 3 i = cellsFiles y.name y.A y.data.length y.c y.syn := by
 apply List.ext_getElem?
 intro j
 by_cases hj : j < 3
 ·rw [elt_get hj, FI.flat_get ys i j y hy hj]
  rfl
 ·have h1 : (elt (ys.flatMap FI.cells) 3 i).length ≤ 3 := by unfold elt; rw [List.length_take]; omega
  rw [List.getElem?_eq_none (by omega), List.getElem?_eq_none (by simp [cellsFiles]; omega)]
theorem FI.flat_wf (ys : List FI) : ∀ i, i < ys.length → kFiles.wf (elt (ys.flatMap FI.cells) kFiles.sz i) := fun _ hi => ⟨_, _, _, _, _, FI.elt_flat (List.getElem?_eq_getElem hi)⟩
theorem LooseOk.len {w w' : World} {ys zs : List FI} {A2 A3 : Option Addr} {c2 c3 : Nat} {xs : List BSl} (h : LooseOk w ys w' A2 c2 xs A3 c3 zs) : zs.length = ys.length ∧ xs.length = ys.length := by
 have h1 := congrArg List.length h.tel
 have h2 := congrArg List.length h.lists
 simp only [List.length_map] at h1 h2
 exact ⟨h1, h2⟩
def LooseSo (ys : List FI) (W : World) (k : Nat) (A2 : Option Addr) (c2 : Nat) (xs : List BSl) (A1 : Option Addr) (c1 : Nat) (zs : List FI) (wr : World) : Prop :=
 OwnL wr 55 5 A2 c2 xs ∧ xs.map BSl.l = (ys.map fun y => y.data ++ marksB 700000 64).take k ∧ Own wr 82 3 A1 c1 k (zs.flatMap FI.cells) ∧ zs.map FI.tel = (ys.map FI.tel).take k ∧
 (∀ z ∈ zs, ∃ x ∈ xs, z.A = x.A ∧ ∃ r, x.l = z.data ++ r) ∧ (∀ j, Bk A1 j → j ∉ bks A2 ++ blks xs) ∧ (∀ j, Bk A1 j ∨ j ∈ bks A2 ++ blks xs → W.heap.size ≤ j) ∧ New W wr
set_option maxRecDepth 100000 in
set_option maxHeartbeats 8000000 in
theorem loosened_calls (w : World) (cap fuse : Int) (down : Bool) (A : Option Addr) (c : Nat) (ys : List FI) (h : InF w A ys) (hT : Tab w) :
  Calls Tryz.prog 94 #[.agg #[.int .i64 cap, .slice A ys.length c, .int .i64 fuse, .bool down]] w (LoosePost w cap fuse down ys) := by
 have hmo : Tryz.prog.follows Departure.mixedOrders = true := by kernel_rfl
 have hlen := h.len
 have HR := Lib.hid (And.intro h hT)
 clear h hT
 go_enter Tryz.func94, Tryz.ntmps94
 go_wp2_with fail
 obtain ⟨W, hW⟩ : ∃ W, ((w.alloc (.cells #[.int .i64 cap, .slice A ys.length c, .int .i64 fuse, .bool down] 59)).alloc (.cells #[.int .i64 0, .slice none 0 0, .int .i64 0, .bool false] 59)).alloc (.cells #[.int .i64 cap, .slice A ys.length c, .int .i64 fuse, .bool down] 59) = W := ⟨_, rfl⟩
 rw [hW]
 have HW := Lib.hid (new3 hW)
 clear hW
 go_loopw [6, 7, 8] (fun l f i wr => ∃ (k : Nat) (A2 : Option Addr) (c2 : Nat) (xs : List BSl) (A1 : Option Addr) (c1 : Nat) (zs : List FI), k ≤ ys.length ∧ i = .int .i64 (k : Int) ∧ l = .slice A2 k c2 ∧ f = .slice A1 k c1 ∧ Hid (xs.length = k ∧ zs.length = k ∧ LooseSo ys W k A2 c2 xs A1 c1 zs wr)) (fun _ _ i _ => ys.length - (intOf i).toNat)
 case atStart =>
  exact ⟨0, none, 0, [], none, 0, [], Nat.zero_le _, rfl, rfl, rfl, Lib.hid ⟨rfl, rfl, OwnL.nil _ _ _, rfl, Own.nil _ _ _, rfl, by simp, fun j h => absurd h Bk.none_, fun j h => by simp [bks, blks, Bk] at h, Kp.refl _ _⟩⟩
 case round =>
  obtain ⟨k, A2, c2, xs, A1, c1, zs, hk, rfl, rfl, rfl, HI⟩ := hrel
  have nWr : New W wr := HI.out.2.2.2.2.2.2.2.2.2
  have bB : wr.heap[w.heap.size]? = some (.cells #[.int .i64 cap, .slice A ys.length c, .int .i64 fuse, .bool down] 59 (0, 0)) := heap_kp' HW.out.2.2.1 nWr id
  have e1 : wr.cell? ⟨w.heap.size, 1, none⟩ = some (.slice A ys.length c) := (cell_of_block bB).trans rfl
  have hk0 : (0 : Int) ≤ k := by omega
  have HB := Lib.hid bB
  by_cases hlt : k < ys.length
  ·have hki : (k : Int) < (ys.length : Int) := by omega
   have n01 : New w wr := HW.out.1.trans nWr fid fid
   have hkr : RdI wr A ys := HR.out.1.rd.new n01
   obtain ⟨y, hy⟩ : ∃ y, ys[k]? = some y := ⟨_, List.getElem?_eq_getElem hlt⟩
   obtain ⟨g, off, rfl, r0, r1, r2⟩ := hkr.at_ hy
   have hym := List.mem_of_getElem? hy
   have hyr := hkr.2 y hym
   have hyl := HR.out.1.data y hym
   have HY := Lib.hid (And.intro hy (And.intro n01 nWr))
   clear hy hym n01 nWr bB hkr
   go_wp2_with fail
   refine (RoomB_calls wr y.A y.data.length y.c y.data hyr rfl hyl).mono ?_
   rintro e w5 ⟨A5, n5, c5, rfl, rfl, o5, n5, f5⟩
   have hl5 : (y.data ++ marksB 700000 64).length = y.data.length + 64 := by rw [List.length_append, marksB_length]
   rw [hl5] at o5 ⊢
   have hc5 := o5.cap
   simp only [maxLen] at hc5
   have q1 := New.cell n5 e1
   have q2 := New.cell n5 r0
   have q3 := New.cell n5 r1
   have q4 := New.cell n5 r2
   have ol5 := (HI.out.2.2.1.keep (w' := w5) fun k hk => n5.block k (HI.out.2.2.1.lt k hk) id)
   have H5 := Lib.hid (And.intro o5 (And.intro n5 (And.intro f5 ol5)))
   clear o5 n5 f5 ol5 e1 r0 r1 r2 hyr
   go_wp2_with (at_builtin; refine wpList_append_src _ rfl (.tmp 26) (.tmp 28) 97 97 rfl 55 _ 1 24 Tryz.underlying97 Tryz.info_bs2 rfl A2 c2 k (xs.map BSl.val) rfl ((HI.out.1 ▸ H5.out.2.2.2.1).new (Kp.alloc _ _ _)) _ rfl 1 _ (Src.ofNew w5 Tryz.underlying97 #[.slice A5 (y.data.length + 64) c5] 55 1 1 1 rfl (by simp [Value.oneCell'])) (by omega) (by omega) ?_; intro A6 c6 w6 p1 p2 p3; have n6 : Kp (Bk A2) w5 w6 := (Kp.alloc (Bk A2) w5 _).trans p2 fid fid; have hneb : ∀ b, b < wr.heap.size → ¬ (w.heap.size ≤ b ∧ False) := fun _ _ h => h.2; have H6 := Lib.hid (And.intro p1 (And.intro n6 p3)); clear p1 p2 p3 n6 hneb)
   have hA2f : ∀ j, Bk A2 j → W.heap.size ≤ j := fun j hj => HI.out.2.2.2.2.2.2.2.2.1 j (.inr (List.mem_append_left _ (mem_bks.2 hj)))
   have hzW := HW.out.2.1
   have s1 : w6.cell? ⟨w.heap.size, 1, none⟩ = some (.slice (some ⟨g, off, none⟩) ys.length c) := H6.out.2.1.cell_of q1 (fun hb => by have := hA2f _ hb; simp only at this; omega)
   have hgl : g < w.heap.size := by
    have hh := HR.out.1.rd.at_ HY.out.1
    obtain ⟨b', off', he, t0, _, _⟩ := hh
    cases he
    exact World.block_lt_of_cell? w _ t0
   have hng : ¬ Bk A2 g := fun hb => by have := hA2f _ hb; omega
   have s2 := H6.out.2.1.cell_of q2 hng
   have s3 := H6.out.2.1.cell_of q3 hng
   have s4 := H6.out.2.1.cell_of q4 hng
   clear q1 q2 q3 q4 hA2f hzW hng
   have hup := fun (w : World) => run_slice_upto (P := Tryz.prog) 55 5 Tryz.underlying55 1 Tryz.size_u8 A5 (y.data.length + 64) c5 y.data.length (by omega) w
   refine wp_region_line (fun w' => w'.cell? ⟨w.heap.size, 1, none⟩ = some (.slice (some ⟨g, off, none⟩) ys.length c) ∧ w'.cell? ⟨g, off + k * 3, none⟩ = some (.string (bstr y.name)) ∧ w'.cell? ⟨g, off + k * 3 + 1, none⟩ = some (.slice y.A y.data.length y.c) ∧ w'.cell? ⟨g, off + k * 3 + 2, none⟩ = some (.int .i64 y.syn)) (pl := [(0, true), (1, true), (2, true), (3, true), (4, true), (5, true), (6, true), (7, true), (8, true), (9, true), (10, true), (11, true), (12, true), (13, true), (14, true), (15, true), (16, true), (17, true), (18, true), (19, true), (20, true), (21, true), (22, true), (23, false), (24, false), (25, true)]) hmo (by kernel_rfl) ⟨by simpa using s1, by simpa using s2, by simpa using s3, by simpa using s4⟩ ?_
   iterate 23 (refine line_get rfl rfl (fun K hK => ?_); apply Exists.intro; refine ⟨fun w s => ?_, ?_⟩; (first | (have q := s rfl; go_simp; with_reducible rfl) | (go_simp; with_reducible rfl)); (go_simp; refine hK _ ?_; clear hK K))
   clear hup
   (refine line_do rfl rfl (fun K hK => ?_); go_simp)
   refine hK _ _ (no_need (by kernel_rfl)) ?_
   clear hK K s1 s2 s3 s4
   refine line_do rfl rfl (fun K hK => ?_)
   have kA1 : ∀ j, Bk A1 j → j < wr.heap.size := fun j hj => HI.out.2.2.2.2.1.lt j hj
   have own6 : Own w6 82 3 A1 c1 k (zs.flatMap FI.cells) := (HI.out.2.2.2.2.1.new H5.out.2.1).kp H6.out.2.1 (fun j hj hb => HI.out.2.2.2.2.2.2.2.1 j hj (List.mem_append_left _ (mem_bks.2 hb)))
   have nd : New w6 w6.drew := Kp.drew _ _
   refine wp_append_src _ (.tmp 30) (.tmp 53) 57 57 rfl 82 _ 3 48 Tryz.underlying57 Tryz.info_file rfl A1 c1 k (zs.flatMap FI.cells) rfl ((own6.new nd).new (Kp.alloc _ _ _)) _ rfl 1 _ (Src.ofNew w6.drew Tryz.underlying57 #[.string (bstr y.name), .slice A5 y.data.length c5, .int .i64 y.syn] 82 3 1 1 rfl (by simp [Value.oneCell'])) (by omega) (by omega) ?_
   intro A8 c8 w8 p1 p2 p3
   have k8 : Kp (Bk A1) w6 w8 := (nd.trans (Kp.alloc (Bk A1) _ _) (fun _ _ h => h.elim) fid).trans p2 fid fid
   have hz8 : (w6.alloc (.cells #[.string (bstr y.name), .slice A5 y.data.length c5, .int .i64 y.syn] 82)).drew.heap.size = w6.heap.size + 1 := by simp
   have H8 := Lib.hid (And.intro p1 (And.intro k8 (And.intro p3 hz8)))
   clear p1 p2 p3 k8 nd own6 hz8
   refine hK _ _ (no_need (by kernel_rfl)) ?_
   clear hK K
   (refine line_get rfl rfl (fun K hK => ?_); apply Exists.intro; refine ⟨fun w s => ?_, ?_⟩; (first | (have q := s rfl; go_simp; with_reducible rfl) | (go_simp; with_reducible rfl)); (go_simp; refine hK _ ?_; clear hK K))
   refine line_nil ?_
   go_wp2_with fail
   have hz5 := H5.out.2.1.size
   have hz6 := H6.out.2.1.size
   have hzr := HY.out.2.2.size
   have hA5 : ∀ j, Bk A5 j → wr.heap.size ≤ j ∧ j < w5.heap.size := fun j hj => ⟨H5.out.2.2.1 j hj, H5.out.1.lt j hj⟩
   have hold : ∀ j, j ∈ bks A2 ++ blks xs → j < wr.heap.size := HI.out.2.2.1.lt
   have hz5a : (w5.alloc (.cells #[.slice A5 (y.data.length + 64) c5] 55)).heap.size = w5.heap.size + 1 := by simp
   have hA6 : ∀ j, Bk A6 j → Bk A2 j ∨ w5.heap.size ≤ j := fun j hj => (H6.out.2.2 j hj).imp id (fun h => by omega)
   have hA8 : ∀ j, Bk A8 j → Bk A1 j ∨ w6.heap.size ≤ j := fun j hj => (H8.out.2.2.1 j hj).imp id (fun h => by have := H8.out.2.2.2; omega)
   have hA6l : ∀ j, Bk A6 j → j < w6.heap.size := H6.out.1.lt
   have hA1n : ∀ j, Bk A1 j → j ∉ bks A2 ++ blks xs := HI.out.2.2.2.2.2.2.2.1
   have kall : Kp (fun j => Bk A2 j ∨ Bk A1 j) wr w8 := (H5.out.2.1.trans H6.out.2.1 (fun _ _ h => h.elim) (fun _ _ h => Or.inl h)).trans H8.out.2.1 fid (fun _ _ h => Or.inr h)
   have hnd2 := (List.nodup_append.1 HI.out.2.2.1.2.2)
   have hmem : ∀ j, j ∈ bks A6 ++ blks (xs ++ [⟨A5, c5, y.data ++ marksB 700000 64⟩]) → j ∈ bks A2 ++ blks xs ∨ wr.heap.size ≤ j := by
    intro j hj
    rcases List.mem_append.1 hj with hj | hj
    ·exact (hA6 j (mem_bks.1 hj)).imp (fun h => List.mem_append_left _ (mem_bks.2 h)) (fun h => by omega)
    ·rw [blks_snoc] at hj
     rcases List.mem_append.1 hj with hj | hj
     ·exact .inl (List.mem_append_right _ hj)
     ·exact .inr (hA5 j (mem_bks.1 hj)).1
   refine ⟨⟨k + 1, A6, c6, xs ++ [⟨A5, c5, y.data ++ marksB 700000 64⟩], A8, c8, zs ++ [⟨y.name, y.data, y.syn, A5, c5⟩], by omega, by go_num, rfl, rfl, Lib.hid ⟨by rw [List.length_append, HI.out.1]; rfl, by rw [List.length_append, HI.out.2.1]; rfl, ?_, ?_, ?_, ?_, ?_, ?_, ?_, ?_⟩⟩, by simp [intOf]; omega⟩
   ·refine OwnL.push HI.out.2.2.1 ⟨A5, c5, y.data ++ marksB 700000 64⟩ ?_ ?_ (fun j hj => ?_) (fun j hj => (hA5 j hj).1) (fun j hj => ?_)
    ·show Own w8 5 1 A5 c5 (y.data ++ marksB 700000 64).length _
     rw [List.length_append, marksB_length]
     exact (H5.out.1.kp H6.out.2.1 (fun j hj hb => by have := hA5 j hj; have := hold j (List.mem_append_left _ (mem_bks.2 hb)); omega)).kp H8.out.2.1 (fun j hj hb => by have := hA5 j hj; have := kA1 j hb; omega)
    ·have := H6.out.1.kp H8.out.2.1 (fun j hj hb => (hA6 j hj).elim (fun h => hA1n j hb (List.mem_append_left _ (mem_bks.2 h))) (fun h => by have := kA1 j hb; omega))
     rw [HI.out.1]
     show Own w8 _ 1 A6 c6 (k + 1) (xs.map BSl.val ++ [.slice A5 (y.data ++ marksB 700000 64).length c5])
     rw [List.length_append, marksB_length]
     exact this
    ·exact kall.block j (hold j (List.mem_append_right _ hj)) (fun he => he.elim (fun h => hnd2.2.2 j (mem_bks.2 h) j hj rfl) (fun h => hA1n j h (List.mem_append_right _ hj)))
    ·rcases hA6 j hj with h | h
     ·exact .inl h
     ·exact .inr ⟨by omega, fun hb => by have := (hA5 j hb).2; omega⟩
   ·rw [List.map_append, HI.out.2.2.2.1, List.take_add_one, List.getElem?_map, HY.out.1]
    rfl
   ·have h8 := H8.out.1
    rw [List.flatMap_append]
    simpa [FI.cells] using h8
   ·rw [List.map_append, HI.out.2.2.2.2.2.1, List.take_add_one, List.getElem?_map, HY.out.1]
    rfl
   ·intro z hz
    rcases List.mem_append.1 hz with hz | hz
    ·obtain ⟨x, hx, h1, h2⟩ := HI.out.2.2.2.2.2.2.1 z hz
     exact ⟨x, List.mem_append_left _ hx, h1, h2⟩
    ·obtain rfl := List.mem_singleton.1 hz
     exact ⟨⟨A5, c5, y.data ++ marksB 700000 64⟩, by simp, rfl, marksB 700000 64, rfl⟩
   ·intro j hj hm
    rcases hA8 j hj with h | h
    ·rcases List.mem_append.1 hm with hm | hm
     ·rcases hA6 j (mem_bks.1 hm) with h' | h'
      ·exact hA1n j h (List.mem_append_left _ (mem_bks.2 h'))
      ·have := kA1 j h
       omega
     ·rw [blks_snoc] at hm
      rcases List.mem_append.1 hm with hm | hm
      ·exact hA1n j h (List.mem_append_right _ hm)
      ·have := (hA5 j (mem_bks.1 hm)).1
       have := kA1 j h
       omega
    ·rcases List.mem_append.1 hm with hm | hm
     ·have := hA6l j (mem_bks.1 hm)
      omega
     ·rw [blks_snoc] at hm
      rcases List.mem_append.1 hm with hm | hm
      ·have := hold j (List.mem_append_right _ hm)
       omega
      ·have := (hA5 j (mem_bks.1 hm)).2
       omega
   ·rintro j (hj | hj)
    ·exact (hA8 j hj).elim (fun h => HI.out.2.2.2.2.2.2.2.2.1 j (.inl h)) (fun h => by omega)
    ·exact (hmem j hj).elim (fun h => HI.out.2.2.2.2.2.2.2.2.1 j (.inr h)) (fun h => by omega)
   ·exact HY.out.2.2.trans kall fid (fun j hj he => he.elim (fun h => by have := HI.out.2.2.2.2.2.2.2.2.1 j (.inr (List.mem_append_left _ (mem_bks.2 h))); omega) (fun h => by have := HI.out.2.2.2.2.2.2.2.2.1 j (.inl h); omega))
  ·obtain rfl : k = ys.length := by omega
   have hkd : decide (ys.length < ys.length) = false := by simp
   have HN := Lib.hid nWr
   have hTr := (HR.out.2.new HW.out.1).new nWr
   have HTr := Lib.hid hTr
   clear nWr bB hTr
   go_wp2_with fail
   refine (RoomFiles_calls wr A1 ys.length c1 (zs.flatMap FI.cells) HI.out.2.2.2.2.1.rdC (by rw [FI.flat_length, HI.out.2.1]; rfl) (by have := FI.flat_wf zs; rwa [HI.out.2.1] at this) hlen HTr.out).mono ?_
   rintro e w5 ⟨A3, c3, rfl, o3, n3, f3⟩
   have b2 : w5.heap[w.heap.size + 1]? = some (.cells #[.int .i64 0, .slice none 0 0, .int .i64 0, .bool false] 59 (0, 0)) := heap_kp' (heap_kp' HW.out.2.2.2.1 HN.out id) n3 id
   have b3 : w5.heap[w.heap.size + 1 + 1]? = some (.cells #[.int .i64 cap, .slice A ys.length c, .int .i64 fuse, .bool down] 59 (0, 0)) := heap_kp' (heap_kp' HW.out.2.2.2.2 HN.out id) n3 id
   have hup := fun (w : World) => run_slice_upto (P := Tryz.prog) 57 82 Tryz.underlying57 3 (by kernel_rfl) A3 (ys.length + 64) c3 ys.length (by have := o3.cap; omega) w
   have a0 : w5.cell? ⟨w.heap.size + 1 + 1, 0, none⟩ = some (.int .i64 cap) := (cell_of_block b3).trans rfl
   have a1 : w5.cell? ⟨w.heap.size + 1 + 1, 1, none⟩ = some (.slice A ys.length c) := (cell_of_block b3).trans rfl
   have a2 : w5.cell? ⟨w.heap.size + 1 + 1, 2, none⟩ = some (.int .i64 fuse) := (cell_of_block b3).trans rfl
   have a3 : w5.cell? ⟨w.heap.size + 1 + 1, 3, none⟩ = some (.bool down) := (cell_of_block b3).trans rfl
   have z1 : w5.frozen? ⟨w.heap.size + 1 + 1, 1, none⟩ = false := by simp [World.frozen?, b3]
   have d0 : w5.cell? ⟨w.heap.size + 1, 0, none⟩ = some (.int .i64 0) := (cell_of_block b2).trans rfl
   have d1 : w5.cell? ⟨w.heap.size + 1, 1, none⟩ = some (.slice none 0 0) := (cell_of_block b2).trans rfl
   have d2 : w5.cell? ⟨w.heap.size + 1, 2, none⟩ = some (.int .i64 0) := (cell_of_block b2).trans rfl
   have d3 : w5.cell? ⟨w.heap.size + 1, 3, none⟩ = some (.bool false) := (cell_of_block b2).trans rfl
   have y0 : w5.frozen? ⟨w.heap.size + 1, 0, none⟩ = false := by simp [World.frozen?, b2]
   have y1 : w5.frozen? ⟨w.heap.size + 1, 1, none⟩ = false := by simp [World.frozen?, b2]
   have y2 : w5.frozen? ⟨w.heap.size + 1, 2, none⟩ = false := by simp [World.frozen?, b2]
   have y3 : w5.frozen? ⟨w.heap.size + 1, 3, none⟩ = false := by simp [World.frozen?, b2]
   have H3 := Lib.hid (And.intro o3 (And.intro n3 (And.intro f3 (And.intro b2 b3))))
   clear o3 n3 f3 b2 b3
   go_wp2_with fail
   have hzn := HN.out.size
   have hzn3 := H3.out.2.1.size
   have hzW := HW.out.2.1
   have E1 : w.heap.size + 1 + 1 < w5.heap.size := by omega
   have kk : Kp (fun j => j = w.heap.size + 1 + 1 ∨ j = w.heap.size + 1) w5 (((((w5.setCell ⟨w.heap.size + 1 + 1, 1, none⟩ (.slice A3 ys.length c3)).setCell ⟨w.heap.size + 1, 0, none⟩ (.int .i64 cap)).setCell ⟨w.heap.size + 1, 1, none⟩ (.slice A3 ys.length c3)).setCell ⟨w.heap.size + 1, 2, none⟩ (.int .i64 fuse)).setCell ⟨w.heap.size + 1, 3, none⟩ (.bool down)) :=
    (((((Kp.setCell w5 ⟨w.heap.size + 1 + 1, 1, none⟩ _ (Or.inl rfl)).trans (Kp.setCell _ ⟨w.heap.size + 1, 0, none⟩ _ (Or.inr rfl)) fid fid).trans (Kp.setCell _ ⟨w.heap.size + 1, 1, none⟩ _ (Or.inr rfl)) fid fid).trans (Kp.setCell _ ⟨w.heap.size + 1, 2, none⟩ _ (Or.inr rfl)) fid fid).trans (Kp.setCell _ ⟨w.heap.size + 1, 3, none⟩ _ (Or.inr rfl)) fid fid)
   have b2' : (w5.setCell ⟨w.heap.size + 1 + 1, 1, none⟩ (.slice A3 ys.length c3)).heap[w.heap.size + 1]? = some (.cells #[.int .i64 0, .slice none 0 0, .int .i64 0, .bool false] 59 (0, 0)) := heap_kp' H3.out.2.2.2.1 (Kp.setCell (S := fun j => j = w.heap.size + 1 + 1) w5 ⟨w.heap.size + 1 + 1, 1, none⟩ _ rfl) (by omega)
   have m0 := heap_setCell_row (j := 0) b2' (.int .i64 cap)
   have m1 := heap_setCell_row (j := 1) m0 (.slice A3 ys.length c3)
   have m2 := heap_setCell_row (j := 2) m1 (.int .i64 fuse)
   have m3 := heap_setCell_row (j := 3) m2 (.bool down)
   clear m0 m1 m2 b2' a0 a1 a2 a3 z1 d0 d1 d2 d3 y0 y1 y2 y3 hup
   generalize (((((w5.setCell ⟨w.heap.size + 1 + 1, 1, none⟩ (.slice A3 ys.length c3)).setCell ⟨w.heap.size + 1, 0, none⟩ (.int .i64 cap)).setCell ⟨w.heap.size + 1, 1, none⟩ (.slice A3 ys.length c3)).setCell ⟨w.heap.size + 1, 2, none⟩ (.int .i64 fuse)).setCell ⟨w.heap.size + 1, 3, none⟩ (.bool down)) = wz at *
   have v0 : wz.cell? ⟨w.heap.size + 1, 0, none⟩ = some (.int .i64 cap) := (cell_of_block m3).trans rfl
   have v1 : wz.cell? ⟨w.heap.size + 1, 1, none⟩ = some (.slice A3 ys.length c3) := (cell_of_block m3).trans rfl
   have v2 : wz.cell? ⟨w.heap.size + 1, 2, none⟩ = some (.int .i64 fuse) := (cell_of_block m3).trans rfl
   have v3 : wz.cell? ⟨w.heap.size + 1, 3, none⟩ = some (.bool down) := (cell_of_block m3).trans rfl
   obtain ⟨i1, i2, i3, i4, i5, i6, i7, i8, i9, i10⟩ := HI.out
   have hge : ∀ j, Bk A3 j ∨ j ∈ bks A2 ++ blks xs → ¬ (j = w.heap.size + 1 + 1 ∨ j = w.heap.size + 1) := fun j hj he => hj.elim (fun h => by have := H3.out.2.2.1 j h; omega) (fun h => by have := i9 j (.inr h); omega)
   refine bodyPost_ret (v := .tuple #[.agg #[.int .i64 cap, .slice A3 ys.length c3, .int .i64 fuse, .bool down], .slice A2 ys.length c2, .slice A3 (ys.length + 64) c3]) (by simp [results, Tryz.results94, go_sem, v0, v1, v2, v3]) rfl ⟨A2, c2, xs, A3, c3, zs, by rw [i1, i2], ?_, ?_, ?_, ?_, i7, ?_, ?_, ?_⟩
   ·exact (i3.keep (w' := w5) fun k hk => H3.out.2.1.block k (i3.lt k hk) id).keep fun k hk => kk.block k (Nat.lt_of_lt_of_le (i3.lt k hk) H3.out.2.1.size) (hge k (.inr hk))
   ·rw [i4, List.take_of_length_le (by simp)]
   ·rw [i2]
    exact H3.out.1.kp kk fun j hj => hge j (.inl hj)
   ·rw [i6, List.take_of_length_le (by simp)]
   ·intro j hj hm
    have := H3.out.2.2.1 j hj
    have := i3.lt j hm
    omega
   ·rintro j (hj | hj)
    ·have := H3.out.2.2.1 j hj
     omega
    ·have := i9 j (.inr hj)
     omega
   ·exact ((HW.out.1.trans HN.out fid fid).trans H3.out.2.1 fid fid).trans kk fid (fun j hj he => by omega)
set_option maxRecDepth 100000 in
set_option maxHeartbeats 4000000 in
theorem RCreate_calls (w : World) (r : Nat) (s : DS) (F : List Nat) (n : Nm) (h : RefAt w r s F) (hn : n.length ≤ 9223372036854775807) :
  Calls Tryz.prog 100 #[.pointer (some ⟨r, 0, none⟩), .string (bstr n)] w (RChangePost r F w (s.create n)) := by
 obtain ⟨A, c, ys, hX, rfl⟩ := h
 have c1 : w.cell? ⟨r, 1, none⟩ = some (.slice A ys.length c) := (cell_of_block hX.blk).trans rfl
 have c3 : w.cell? ⟨r, 3, none⟩ = some (.bool s.down) := (cell_of_block hX.blk).trans rfl
 have hfew := hX.few
 have HX := Lib.hid hX
 clear hX
 have HR := Lib.hid (show ∀ q e w', q = s.create n → RChangePost r (r :: nblks A ys) w q e w' → RChangePost r (r :: nblks A ys) w (s.create n) e w' from fun _ _ _ h h' => h ▸ h')
 cases hdn : s.down with
 | true =>
  rw [hdn] at c3
  have HD := Lib.hid (show (34, s) = s.create n from (change_down hdn).symm)
  clear hdn
  go_enter Tryz.func100, Tryz.ntmps100
  go_wp2_with fail
  go_ret
  exact HR.out _ _ _ HD.out ⟨rfl, HX.out.same (Kp.refl _ _)⟩
 | false =>
  rw [hdn] at c3
  have HD := Lib.hid hdn
  clear hdn
  by_cases hg : goodN n = true
  ·have HG := Lib.hid hg
   clear hg
   rcases findZ_or s.files n with ⟨hz, hnf⟩ | ⟨hz, hnf⟩
   ·have HZ := Lib.hid (And.intro hz hnf)
    clear hz hnf
    by_cases hlen : 64 ≤ ys.length
    ·have hle : decide (64 ≤ ys.length) = true := decide_eq_true hlen
     have hle2 : decide ((64 : Int) ≤ (ys.length : Int)) = true := decide_eq_true (by omega)
     have HM := Lib.hid (show (2, s) = s.create n from (by unfold DS.create DS.find; rw [if_pos HG.out, HZ.out.2, if_neg (by simp), if_pos (by rw [← HX.out.files, List.length_map]; exact hlen)]; exact (change_err HD.out (by decide)).symm))
     clear hlen
     go_enter Tryz.func100, Tryz.ntmps100
     go_wp2_with fail
     refine (RName_calls w n hn).mono ?_
     rintro e x ⟨rfl, rfl⟩
     rw [HG.out]
     go_wp2_with fail
     refine (RAt_calls w r c s A ys n HX.out).mono ?_
     rintro e x ⟨rfl, rfl⟩
     rw [HZ.out.1]
     go_wp2_with fail
     go_ret
     exact HR.out _ _ _ HM.out ⟨rfl, HX.out.same (Kp.refl _ _)⟩
    ·have hle : decide (64 ≤ ys.length) = false := decide_eq_false hlen
     have hle2 : decide ((64 : Int) ≤ (ys.length : Int)) = false := decide_eq_false (by omega)
     have he : s.create n = s.change 0 (fun s => { s with files := ins ⟨n, [], 0⟩ s.files }) := by unfold DS.create DS.find; rw [if_pos HG.out, HZ.out.2, if_neg (by simp), if_neg (by rw [← HX.out.files, List.length_map]; exact hlen)]
     have HL := Lib.hid hlen
     clear hlen
     by_cases hfu : s.fuse = 0
     ·have HM := Lib.hid (show (34, s.power) = s.create n from (by rw [he]; exact (change_fuse HD.out hfu).symm))
      have HF := Lib.hid (show (!decide (s.fuse = 0)) = false by rw [hfu]; rfl)
      clear hfu he
      go_enter Tryz.func100, Tryz.ntmps100
      go_wp2_with fail
      refine (RName_calls w n hn).mono ?_
      rintro e x ⟨rfl, rfl⟩
      rw [HG.out]
      go_wp2_with fail
      refine (RAt_calls w r c s A ys n HX.out).mono ?_
      rintro e x ⟨rfl, rfl⟩
      rw [HZ.out.1]
      go_wp2_with fail
      refine (RPower_calls w r c s A ys HX.out HD.out).mono ?_
      rintro e w1 ⟨rfl, hx1, k1⟩
      rw [HF.out]
      have H1 := Lib.hid (And.intro hx1 k1)
      clear hx1 k1
      go_wp2_with fail
      go_ret
      exact HR.out _ _ _ HM.out ⟨rfl, H1.out.1.same H1.out.2⟩
     ·have HM := Lib.hid (show (0, (fun s => { s with files := ins ⟨n, [], 0⟩ s.files }) s.power) = s.create n from (by rw [he]; exact (change_go (h := fun s => { s with files := ins ⟨n, [], 0⟩ s.files }) HD.out hfu).symm))
      have HF := Lib.hid (And.intro (show (!decide (s.fuse = 0)) = true by rw [decide_eq_false hfu]; rfl) hfu)
      clear hfu he
      go_enter Tryz.func100, Tryz.ntmps100
      go_wp2_with fail
      refine (RName_calls w n hn).mono ?_
      rintro e x ⟨rfl, rfl⟩
      rw [HG.out]
      go_wp2_with fail
      refine (RAt_calls w r c s A ys n HX.out).mono ?_
      rintro e x ⟨rfl, rfl⟩
      rw [HZ.out.1]
      go_wp2_with fail
      refine (RPower_calls w r c s A ys HX.out HD.out).mono ?_
      rintro e w1 ⟨rfl, hx1, k1⟩
      rw [HF.out.1]
      have d1 : w1.cell? ⟨r, 1, none⟩ = some (.slice A ys.length c) := (cell_of_block hx1.blk).trans rfl
      have H1 := Lib.hid (And.intro hx1 k1)
      clear hx1 k1 c1 c3
      go_wp2_with fail
      refine (RPut_calls w1 A c ys ⟨⟨n, [], 0⟩, none, 0⟩ H1.out.1.own.rd hfew).mono ?_
      rintro e w2 ⟨A2, c2, rfl, o2, n2, f2⟩
      have e1 := n2.cell d1
      have e2 : w2.frozen? ⟨r, 1, none⟩ = false := by simp [World.frozen?, heap_kp H1.out.1.blk n2 id]
      have H2 := Lib.hid (And.intro o2 (And.intro n2 f2))
      clear o2 n2 f2 d1
      go_wp2_with fail
      go_ret
      have hpm := putAll_perm ⟨⟨n, [], 0⟩, none, 0⟩ ys
      have hfb : (fblks (putAll ⟨⟨n, [], 0⟩, none, 0⟩ ys)).Perm (fblks ys) := by
       have := hpm.flatMap_right (fun y : FV => bks y.A)
       simpa [fblks, bks] using this
      have hf : (putAll ⟨⟨n, [], 0⟩, none, 0⟩ ys).map FV.f = ins ⟨n, [], 0⟩ s.power.files := by
       rw [DS.power_files, ← HX.out.files, putAll_f]
      have hx := H1.out.1.rows (s' := { s.power with files := ins ⟨n, [], 0⟩ s.power.files }) H2.out.2.1 H2.out.1 H2.out.2.2 (fun y hy => (List.mem_cons.1 (hpm.subset hy)).elim (fun e => by subst e; exact Own.nil _ _ _) (fun hy => H1.out.1.one hy)) (hfb.nodup_iff.2 H1.out.1.fnd) (fun hm => H1.out.1.out (List.mem_append_right _ (hfb.subset hm))) rfl rfl rfl hf ((HX.out.ok.power HD.out).create n HG.out ((DS.power_find s n).trans HZ.out.2) (by rw [DS.power_files, ← HX.out.files, List.length_map]; have := HL.out; omega))
      exact HR.out _ _ _ HM.out ⟨rfl, hx.1.mv (H1.out.2.trans hx.2 fid fid) (fun _ e => e ▸ List.mem_cons_self) fun k hk => by
       rcases List.mem_append.1 hk with hk | hk
       ·have := H2.out.2.2 k (mem_bks.1 hk)
        have := H1.out.2.size
        exact .inr (by omega)
       ·exact .inl (List.mem_append_right _ (hfb.subset hk))⟩
   ·have HM := Lib.hid (show (33, s) = s.create n from (by unfold DS.create DS.find; rw [if_pos HG.out, if_pos hnf]; exact (change_err HD.out (by decide)).symm))
    have hzd : decide ((0 : Int) ≤ findZ s.files n) = true := decide_eq_true hz
    obtain ⟨z, hzz⟩ : ∃ z, findZ s.files n = z := ⟨_, rfl⟩
    rw [hzz] at hz hzd
    have HZ := Lib.hid hzz
    clear hnf hzz
    go_enter Tryz.func100, Tryz.ntmps100
    go_wp2_with fail
    refine (RName_calls w n hn).mono ?_
    rintro e x ⟨rfl, rfl⟩
    rw [HG.out]
    go_wp2_with fail
    refine (RAt_calls w r c s A ys n HX.out).mono ?_
    rintro e x ⟨rfl, rfl⟩
    rw [HZ.out]
    go_wp2_with fail
    go_ret
    exact HR.out _ _ _ HM.out ⟨rfl, HX.out.same (Kp.refl _ _)⟩
  ·have HG := Lib.hid (show goodN n = false by simpa using hg)
   have HM := Lib.hid (show (32, s) = s.create n from (by unfold DS.create; rw [if_neg hg]; exact (change_err HD.out (by decide)).symm))
   clear hg
   go_enter Tryz.func100, Tryz.ntmps100
   go_wp2_with fail
   refine (RName_calls w n hn).mono ?_
   rintro e x ⟨rfl, rfl⟩
   rw [HG.out]
   go_wp2_with fail
   go_ret
   exact HR.out _ _ _ HM.out ⟨rfl, HX.out.same (Kp.refl _ _)⟩
set_option maxRecDepth 100000 in
set_option maxHeartbeats 2000000 in
theorem RFuse_calls (w : World) (r : Nat) (s : DS) (F : List Nat) (n : Int) (h : RefAt w r s F) : Calls Tryz.prog 109 #[.pointer (some ⟨r, 0, none⟩), .int .i64 n] w (RChangePost r F w (s.setFuse n)) := by
 obtain ⟨A, c, ys, hX, rfl⟩ := h
 have hb := hX.blk
 have c3 : w.cell? ⟨r, 3, none⟩ = some (.bool s.down) := (cell_of_block hb).trans rfl
 have c2 : w.cell? ⟨r, 2, none⟩ = some (.int .i64 s.fuse) := (cell_of_block hb).trans rfl
 have z2 : w.frozen? ⟨r, 2, none⟩ = false := by simp [World.frozen?, hb]
 have HX := Lib.hid (And.intro hX hb)
 clear hX hb
 have HR := Lib.hid (show ∀ q e w', q = s.setFuse n → RChangePost r (r :: nblks A ys) w q e w' → RChangePost r (r :: nblks A ys) w (s.setFuse n) e w' from fun _ _ _ h h' => h ▸ h')
 by_cases h1 : n < -1
 ·have h1d : decide (n < -1) = true := decide_eq_true h1
  have HM := Lib.hid (show (1, s) = s.setFuse n by unfold DS.setFuse; rw [if_pos (.inl h1)])
  clear h1
  go_enter Tryz.func109, Tryz.ntmps109
  go_wp2_with fail
  go_ret
  exact HR.out _ _ _ HM.out ⟨rfl, HX.out.1.same (Kp.refl _ _)⟩
 ·have h1d : decide (n < -1) = false := decide_eq_false h1
  by_cases h2 : 1048576 < n
  ·have h2d : decide (1048576 < n) = true := decide_eq_true h2
   have HM := Lib.hid (show (1, s) = s.setFuse n by unfold DS.setFuse; rw [if_pos (.inr h2)])
   clear h1 h2
   go_enter Tryz.func109, Tryz.ntmps109
   go_wp2_with fail
   go_ret
   exact HR.out _ _ _ HM.out ⟨rfl, HX.out.1.same (Kp.refl _ _)⟩
  ·have h2d : decide (1048576 < n) = false := decide_eq_false h2
   cases hdn : s.down with
   | true =>
    rw [hdn] at c3
    have HM := Lib.hid (show (34, s) = s.setFuse n by unfold DS.setFuse; rw [if_neg (by omega), if_pos hdn])
    clear h1 h2 hdn
    go_enter Tryz.func109, Tryz.ntmps109
    go_wp2_with fail
    go_ret
    exact HR.out _ _ _ HM.out ⟨rfl, HX.out.1.same (Kp.refl _ _)⟩
   | false =>
    rw [hdn] at c3
    have HM := Lib.hid (And.intro (show (0, { s with fuse := n }) = s.setFuse n by unfold DS.setFuse; rw [if_neg (by omega), if_neg (by rw [hdn]; simp)]) (And.intro (show -1 ≤ n ∧ n ≤ 1048576 by omega) hdn))
    clear h1 h2 hdn
    go_enter Tryz.func109, Tryz.ntmps109
    go_wp2_with fail
    go_ret
    have hb2 := heap_setCell_row (j := 2) HX.out.2 (.int .i64 n)
    have kk : Kp (fun k => k = r) w (w.setCell ⟨r, 2, none⟩ (.int .i64 n)) := Kp.setCell _ _ _ rfl
    have ok : DS.Ok { s with fuse := n } := ⟨HX.out.1.ok.cap, HX.out.1.ok.used, HX.out.1.ok.few, HX.out.1.ok.rise, HX.out.1.ok.good, HX.out.1.ok.syn, HM.out.2.1, fun hd => by rw [HM.out.2.2] at hd; cases hd⟩
    exact HR.out _ _ _ HM.out.1 ⟨rfl, (HX.out.1.setD (s' := { s with fuse := n }) hb2 kk rfl ok).same kk⟩
end Go.Proofs.YtekcoeonlfmebaaGreatDoor.Kit
