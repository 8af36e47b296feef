/- 3 texts in one: daybookref03: the document's disk in memory; Name, at, there, power.; The place of a name among files: plain laws.; disk: there; changing: what a changing call does round its own work. -/
import Derived.Test.YtekcoeonlfmebaaGreatDoorM13
import Derived.Test.YtekcoeonlfmebaaGreatDoorM0
import Derived.Deep.DeepMust
namespace Go.Proofs.YtekcoeonlfmebaaGreatDoor.Kit
open Go Go.RowKit
structure RefX (w : World) (r : Nat) (s : DS) (A : Option Addr) (c : Nat) (ys : List FV) : Prop where
 blk : w.heap[r]? = some (.cells #[.int .i64 (s.cap : Int), .slice A ys.length c, .int .i64 s.fuse, .bool s.down] 93 (0, 0))
 own : OwnN 82 w A c ys
 out : r ∉ nblks A ys
 files : ys.map FV.f = s.files
 ok : s.Ok
def RefAt (w : World) (r : Nat) (s : DS) (F : List Nat) : Prop := ∃ A c ys, RefX w r s A c ys ∧ F = r :: nblks A ys
theorem RefX.lt {w : World} {r c : Nat} {s : DS} {A : Option Addr} {ys : List FV} (h : RefX w r s A c ys) : ∀ k ∈ r :: nblks A ys, k < w.heap.size := by
 intro k hk
 rcases List.mem_cons.1 hk with rfl | hk
 ·exact (Array.getElem?_eq_some_iff.1 h.blk).1
 ·exact h.own.lt k hk
theorem RefX.kp {w w' : World} {S : Nat → Prop} {r c : Nat} {s : DS} {A : Option Addr} {ys : List FV} (h : RefX w r s A c ys) (hk : Kp S w w') (hS : ∀ k ∈ r :: nblks A ys, ¬ S k) : RefX w' r s A c ys :=
 ⟨(hk.block r (Array.getElem?_eq_some_iff.1 h.blk).1 (hS r List.mem_cons_self)).trans h.blk, h.own.kp hk fun k hm => hS k (List.mem_cons_of_mem _ hm), h.out, h.files, h.ok⟩
theorem RefX.new {w w' : World} {r c : Nat} {s : DS} {A : Option Addr} {ys : List FV} (h : RefX w r s A c ys) (hk : New w w') : RefX w' r s A c ys := h.kp hk fun _ _ => id
theorem RefAt.kp {w w' : World} {S : Nat → Prop} {r : Nat} {s : DS} {F : List Nat} (h : RefAt w r s F) (hk : Kp S w w') (hS : ∀ k ∈ F, ¬ S k) : RefAt w' r s F := by
 obtain ⟨A, c, ys, h1, rfl⟩ := h
 exact ⟨A, c, ys, h1.kp hk hS, rfl⟩
theorem RefAt.new {w w' : World} {r : Nat} {s : DS} {F : List Nat} (h : RefAt w r s F) (hk : New w w') : RefAt w' r s F := h.kp hk fun _ _ => id
theorem RefAt.lt {w : World} {r : Nat} {s : DS} {F : List Nat} (h : RefAt w r s F) : ∀ k ∈ F, k < w.heap.size := by
 obtain ⟨A, c, ys, h1, rfl⟩ := h
 exact h1.lt
theorem RefAt.ok {w : World} {r : Nat} {s : DS} {F : List Nat} (h : RefAt w r s F) : s.Ok := by
 obtain ⟨A, c, ys, h1, rfl⟩ := h
 exact h1.ok
theorem RefX.few {w : World} {r c : Nat} {s : DS} {A : Option Addr} {ys : List FV} (h : RefX w r s A c ys) : ys.length ≤ 64 := by
 have h1 := congrArg List.length h.files
 rw [List.length_map] at h1
 have := h.ok.few
 omega
set_option maxRecDepth 100000 in
set_option maxHeartbeats 2000000 in
theorem RName_calls (w : World) (s : List UInt8) (hs : s.length ≤ 9223372036854775807) :
  Calls Tryz.prog 202 #[.string (bstr s)] w fun e w' => e = .returned (.bool (goodN s)) ∧ w = w' := by
 have hz : (bstr s).size = s.length := rfl
 by_cases h0 : 0 < s.length ∧ s.length ≤ 40
 ·obtain ⟨h1, h2⟩ := h0
  have h1i : decide ((s.length : Int) < 1) = false := decide_eq_false (by omega)
  have h2i : decide ((40 : Int) < (s.length : Int)) = false := decide_eq_false (by omega)
  have hkey : goodN s = s.all nameByte := by unfold goodN; rw [decide_eq_true ⟨h1, h2⟩, Bool.true_and]
  rw [hkey]
  clear hkey
  go_enter Tryz.func202, Tryz.ntmps202
  go_wp2_with fail
  go_loop [3] (fun i => ∃ k : Nat, k ≤ s.length ∧ i = .int .i64 (k : Int) ∧ Hid ((s.take k).all nameByte = true)) (fun i => s.length - (intOf i).toNat)
  case atStart => exact ⟨0, Nat.zero_le _, rfl, Lib.hid (by simp)⟩
  case round =>
   obtain ⟨k, hk, rfl, HI⟩ := hrel
   have hk0 : (0 : Int) ≤ k := by omega
   by_cases hlt : k < s.length
   ·have hki : (k : Int) < (s.length : Int) := by omega
    obtain ⟨x, hx⟩ : ∃ x, (bstr s)[k]'(by rw [hz]; exact hlt) = x := ⟨_, rfl⟩
    have hxe : s[k] = x := hx
    have HX := Lib.hid (And.intro (fun h : nameByte x = true => all_step hlt HI.out (by rw [hxe]; exact h)) (fun h : ¬ nameByte x = true => all_stop hlt (by rw [hxe]; exact h)))
    have hxl := x.toNat_lt
    clear hxe
    go_wp2_with fail
    all_goals clear hx
    all_goals (try simp only [Bool.not_eq_true', Bool.not_eq_false', bne_iff_ne, bne_eq_false_iff_eq, ne_eq, decide_eq_true_eq, decide_eq_false_iff_not] at *)
    all_goals first
     | exact ⟨⟨k + 1, by omega, by go_num, Lib.hid (HX.out.1 ((nameByte_iff x).2 (by omega)))⟩, by simp [intOf]; omega⟩
     | (go_ret; exact ⟨by rw [HX.out.2 (fun h => by have := (nameByte_iff x).1 h; omega)]; rfl, rfl⟩)
   ·obtain rfl : k = s.length := by omega
    go_wp2_with fail
    go_ret
    exact ⟨by have h := HI.out; rw [List.take_length] at h; rw [h]; rfl, rfl⟩
 ·have hkey : goodN s = false := by unfold goodN; rw [decide_eq_false h0, Bool.false_and]
  rw [hkey]
  clear hkey
  by_cases h1 : 0 < s.length
  ·have h1i : decide ((s.length : Int) < 1) = false := decide_eq_false (by omega)
   have h3i : decide ((40 : Int) < (s.length : Int)) = true := decide_eq_true (by omega)
   clear h0
   go_enter Tryz.func202, Tryz.ntmps202
   go_wp2_with fail
   go_ret
   exact ⟨rfl, rfl⟩
  ·have h1i : decide ((s.length : Int) < 1) = true := decide_eq_true (by omega)
   clear h0
   go_enter Tryz.func202, Tryz.ntmps202
   go_wp2_with fail
   go_ret
   exact ⟨rfl, rfl⟩
def findZ (l : List Fl) (n : Nm) : Int := match l.findIdx? (fun f => f.name == n) with
 | some i => (i : Int)
 | none => -1
theorem findZ_at {ys : List FV} {n : Nm} {k : Nat} {y : FV} (hy : ys[k]? = some y) (hq : y.f.name = n) (hp : ∀ j z, j < k → ys[j]? = some z → z.f.name ≠ n) : findZ (ys.map FV.f) n = (k : Int) := by
 have hk := (List.getElem?_eq_some_iff.1 hy).1
 have : (ys.map FV.f).findIdx? (fun f => f.name == n) = some k := by
  rw [List.findIdx?_eq_some_iff_getElem]
  refine ⟨by simpa using hk, ?_, fun j hj => ?_⟩
  ·rw [List.getElem_map, (List.getElem?_eq_some_iff.1 hy).2, hq]
   simp
  ·have hj' : j < ys.length := by omega
   have := hp j ys[j] hj (List.getElem?_eq_getElem hj')
   simpa using this
 unfold findZ
 rw [this]
theorem findZ_no {ys : List FV} {n : Nm} (hp : ∀ j z, j < ys.length → ys[j]? = some z → z.f.name ≠ n) : findZ (ys.map FV.f) n = -1 := by
 have : (ys.map FV.f).findIdx? (fun f => f.name == n) = none := by
  rw [List.findIdx?_eq_none_iff]
  intro f hf
  obtain ⟨z, hz, rfl⟩ := List.mem_map.1 hf
  obtain ⟨j, hj⟩ := List.mem_iff_getElem?.1 hz
  have := hp j z (List.getElem?_eq_some_iff.1 hj).1 hj
  simpa using this
 unfold findZ
 rw [this]
theorem findZ_some {ys : List FV} {n : Nm} {g : Fl} (h : (ys.map FV.f).find? (fun f => f.name == n) = some g) : ∃ (i : Nat) (y : FV), ys[i]? = some y ∧ y.f = g ∧ g.name = n ∧ findZ (ys.map FV.f) n = (i : Int) := by
 rw [List.find?_eq_some_iff_getElem] at h
 obtain ⟨hg, i, hi, he, hp⟩ := h
 have hi' : i < ys.length := by simpa using hi
 have hg' : g.name = n := by simpa using hg
 have hy : ys[i].f = g := by simpa using he
 refine ⟨i, ys[i], List.getElem?_eq_getElem hi', hy, hg', findZ_at (List.getElem?_eq_getElem hi') (hy ▸ hg') fun j z hj hz => ?_⟩
 have h1 := hp j hj
 have h2 : ys[j]'(by omega) = z := (List.getElem?_eq_some_iff.1 hz).2
 simp only [List.getElem_map, h2] at h1
 simpa using h1
theorem findZ_none {ys : List FV} {n : Nm} (h : (ys.map FV.f).find? (fun f => f.name == n) = none) : findZ (ys.map FV.f) n = -1 := findZ_no fun j z _ hz => by
 have := List.find?_eq_none.1 h z.f (List.mem_map.2 ⟨z, List.mem_of_getElem? hz, rfl⟩)
 simpa using this
theorem take_filter_snoc {p : FV → Bool} {ys : List FV} {k : Nat} {y : FV} (hy : ys[k]? = some y) : (ys.take (k + 1)).filter p = (ys.take k).filter p ++ if p y = true then [y] else [] := by
 rw [List.take_add_one, hy, List.filter_append]
 congr 1
 by_cases h : p y = true
 ·simp [h]
 ·simp [h]
theorem fblks_sub {zs ys : List FV} (h : zs.Sublist ys) : (fblks zs).Sublist (fblks ys) := by
 unfold fblks
 induction h with
 | slnil => simp
 | cons a _ ih => rw [List.flatMap_cons]; exact ih.trans (List.sublist_append_right _ _)
 | cons_cons a _ ih => rw [List.flatMap_cons, List.flatMap_cons]; exact ih.append_left _
theorem map_set_updF {ys : List FV} (hn : ((ys.map FV.f).map (·.name)).Nodup) {i : Nat} {y z : FV} {n : Nm} (hy : ys[i]? = some y) (hyn : y.f.name = n) {u : Fl → Fl} (hz : z.f = u y.f) : (ys.set i z).map FV.f = updF n u (ys.map FV.f) := by
 obtain ⟨hi, hiy⟩ := List.getElem?_eq_some_iff.1 hy
 apply List.ext_getElem?
 intro j
 unfold updF
 rw [List.getElem?_map, List.getElem?_set, List.getElem?_map, List.getElem?_map]
 by_cases hij : i = j
 ·subst hij
  rw [if_pos rfl, if_pos hi, hy]
  simp only [Option.map_some, Option.some.injEq]
  rw [if_pos hyn, hz]
 ·rw [if_neg hij]
  cases hj : ys[j]? with
  | none => rfl
  | some x =>
   simp only [Option.map_some, Option.some.injEq]
   rw [if_neg]
   intro e
   have h1 : ((ys.map FV.f).map (·.name))[i]? = some n := by simp [hy, hyn]
   have h2 : ((ys.map FV.f).map (·.name))[j]? = some n := by simp [hj, e]
   exact hij ((List.getElem?_inj (by simpa using hi) hn).1 (h1.trans h2.symm))
theorem bstr_ne {a b : Nm} (h : a ≠ b) : ((bstr a).toList == (bstr b).toList) = false := by
 rw [bstr_beq]
 exact decide_eq_false h
theorem zero_filep (w : World) : (zeroValue 87).run Tryz.prog w = .ok (.pointer none) w := by kernel_rfl
set_option maxHeartbeats 1000000 in
theorem there_calls (w : World) (d : Nat) (s : DS) (F : List Nat) (n : Nm) (hD : DiskAt w d s F) (hn : n.length ≤ 9223372036854775807) :
  Calls Tryz.prog 150 #[.pointer (some ⟨d, 0, none⟩), .string (bstr n)] w fun e w' => e = .returned (.int .i64 (s.there n : Int)) ∧ New w w' := by
 have HD := Lib.hid hD
 clear hD
 by_cases hg : goodN n = true
 ·cases hf : s.find n
  ·have hs : s.there n = 31 := by unfold DS.there; rw [if_pos hg, hf]; rfl
   rw [hs]
   have HF := Lib.hid hf
   clear hs hf
   go_enter Tryz.func150, Tryz.ntmps150
   go_wp2_with fail
   refine (good_calls w n hn).mono ?_
   rintro e w1 ⟨rfl, hn1⟩
   rw [hg]
   have HN := Lib.hid hn1
   obtain ⟨bm, xs, hX, -⟩ := HD.out.new hn1
   have f2 : w1.cell? ⟨d, 2, none⟩ = some (.map (some bm)) := (cell_of_block hX.blk).trans rfl
   have HX := Lib.hid hX
   clear hn1 hX hg
   have H2 : Hid (at? (xs.map FE.ent) n = none) := Lib.hid (by
    rcases HX.out.look n with ⟨_, h⟩ | ⟨x, l1, l2, _, _, h3, _⟩
    ·exact h
    ·rw [HF.out] at h3; cases h3)
   go_wp2_with (at_lookup; refine wpList_look rfl _ _ 83 rfl 9 87 Tryz.underlying83 Tryz.underlying9 zero_filep bm (xs.map FE.ent) rfl HX.out.map n rfl (.pointer none) (by rw [H2.out]; rfl) ?_)
   go_ret
   exact ⟨rfl, HN.out⟩
  ·have hs : s.there n = 0 := by unfold DS.there; rw [if_pos hg, hf]; rfl
   rw [hs]
   have HF := Lib.hid hf
   clear hs hf
   go_enter Tryz.func150, Tryz.ntmps150
   go_wp2_with fail
   refine (good_calls w n hn).mono ?_
   rintro e w1 ⟨rfl, hn1⟩
   rw [hg]
   have HN := Lib.hid hn1
   obtain ⟨bm, xs, hX, -⟩ := HD.out.new hn1
   have f2 : w1.cell? ⟨d, 2, none⟩ = some (.map (some bm)) := (cell_of_block hX.blk).trans rfl
   have HX := Lib.hid hX
   clear hn1 hX hg
   obtain ⟨x, H2⟩ : ∃ x : FE, Hid (at? (xs.map FE.ent) n = some x.ptr) := by
    rcases HX.out.look n with ⟨h, _⟩ | ⟨x, l1, l2, _, _, _, h4, _⟩
    ·rw [HF.out] at h; cases h
    ·exact ⟨x, Lib.hid h4⟩
   go_wp2_with (at_lookup; refine wpList_look rfl _ _ 83 rfl 9 87 Tryz.underlying83 Tryz.underlying9 zero_filep bm (xs.map FE.ent) rfl HX.out.map n rfl (.pointer (some ⟨x.b, 0, none⟩)) (by rw [H2.out]; rfl) ?_)
   go_ret
   exact ⟨rfl, HN.out⟩
 ·have hg' : goodN n = false := by simpa using hg
  have hs : s.there n = 32 := by unfold DS.there; rw [if_neg hg]
  rw [hs]
  clear hg hs
  go_enter Tryz.func150, Tryz.ntmps150
  go_wp2_with fail
  refine (good_calls w n hn).mono ?_
  rintro e w1 ⟨rfl, hn1⟩
  rw [hg']
  have HN := Lib.hid hn1
  clear hn1 hg'
  go_wp2_with fail
  go_ret
  exact ⟨rfl, HN.out⟩
end Go.Proofs.YtekcoeonlfmebaaGreatDoor.Kit
