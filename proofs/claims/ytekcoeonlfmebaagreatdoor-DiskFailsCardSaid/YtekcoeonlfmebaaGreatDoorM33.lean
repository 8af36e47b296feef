/- 3 texts in one: disk.Remove: a file taken away.; A disk in memory: a file given another name.; disk.Rename: another name for a file; what had it is gone. -/
import Derived.Test.YtekcoeonlfmebaaGreatDoorM21
namespace Go.Proofs.YtekcoeonlfmebaaGreatDoor.Kit
open Go Go.RowKit
theorem used_at {s : DS} (h : s.Ok) {n : Nm} {f : Fl} (hf : s.find n = some f) : f.data.length ≤ s.used := by
 have := used_out h hf
 omega
set_option maxHeartbeats 1000000 in
theorem Remove1_calls (w : World) (d B : Nat) (s : DS) (F : List Nat) (n : Nm) (hB : Bx2 d B n w) (hD : DiskAt w d s F) (hn : n.length ≤ 9223372036854775807) :
  Calls Tryz.prog 211 #[.pointer (some ⟨B, 0, none⟩), .pointer (some ⟨B + 1, 0, none⟩)] w fun e w' => e = .returned (.int .i64 (s.there n : Int)) ∧ New w w' := by
 have c0 := hB.2.1.cell
 have c1 := hB.2.2.cell
 have HD := Lib.hid hD
 clear hB hD
 go_enter Tryz.func211, Tryz.ntmps211
 go_wp2_with fail
 refine (there_calls w d s F n HD.out hn).mono ?_
 rintro e w1 ⟨rfl, hn1⟩
 have HN := Lib.hid hn1
 clear hn1
 go_wp2_with fail
 go_ret
 exact ⟨rfl, HN.out⟩
set_option maxRecDepth 100000 in
set_option maxHeartbeats 4000000 in
theorem Remove2_calls (w : World) (d B : Nat) (s : DS) (F : List Nat) (n : Nm) (f : Fl) (hB : Bx2 d B n w) (hD : DiskAt w d s F) (hf : s.find n = some f) (hFB : ∀ k ∈ F, k < B) :
  Calls Tryz.prog 212 #[.pointer (some ⟨B, 0, none⟩), .pointer (some ⟨B + 1, 0, none⟩)] w fun e w' => e = .returned (.tuple #[]) ∧ ∃ F', DiskAt w' d { s with files := outF n s.files } F' ∧ Mv F F' w w' := by
 obtain ⟨bm, xs, hX, rfl⟩ := hD
 obtain ⟨x, l1, l2, rfl, rfl, hfn, hat⟩ := hX.look_some hf
 have c0 := hB.2.1.cell
 have c1 := hB.2.2.cell
 have c3 : w.cell? ⟨d, 2, none⟩ = some (.map (some bm)) := (cell_of_block hX.blk).trans rfl
 have c4 : w.cell? ⟨d, 1, none⟩ = some (.int .i64 (s.used : Int)) := (cell_of_block hX.blk).trans rfl
 have z4 : w.frozen? ⟨d, 1, none⟩ = false := by simp [World.frozen?, hX.blk]
 have hlk : (Instr.lookup 83 (.map (some bm)) (.string (bstr n)) false).run Tryz.prog w.drew = .ok (.pointer (some ⟨x.b, 0, none⟩)) w.drew := by rw [run_look_at (hX.map.keep (w' := w.drew) rfl) n, hat]; rfl
 have hxb := hX.mem_cut.1
 have f0 : w.cell? ⟨x.b, 0, none⟩ = some (.slice x.A x.f.data.length x.c) := (cell_of_block hxb).trans rfl
 have hxl := used_at hX.ok hf
 have hou := used_out hX.ok hf
 have hcap := hX.ok.cap
 have hus := hX.ok.used
 have hmo : Tryz.prog.follows Departure.mixedOrders = true := by kernel_rfl
 have H := Lib.hid (And.intro hX (And.intro hf (And.intro hfn (And.intro hB (And.intro hou hFB)))))
 clear hX hf hfn hat hxb hB hou hFB
 have hw : IntKind.i64.wrap ((s.used : Int) - (x.f.data.length : Int)) = (s.used : Int) - (x.f.data.length : Int) := by rw [IntKind.wrap_i64]; omega
 go_enter Tryz.func212, Tryz.ntmps212
 go_wp2_with fail
 refine wp_region_line (fun w' => w'.cell? ⟨B, 0, none⟩ = some (.pointer (some ⟨d, 0, none⟩)) ∧ w'.cell? ⟨B + 1, 0, none⟩ = some (.string (bstr n)) ∧ w'.cell? ⟨d, 1, none⟩ = some (.int .i64 (s.used : Int)) ∧ w'.cell? ⟨d, 2, none⟩ = some (.map (some bm)) ∧ w'.cell? ⟨x.b, 0, none⟩ = some (.slice x.A x.f.data.length x.c) ∧ (Instr.lookup 83 (.map (some bm)) (.string (bstr n)) false).run Tryz.prog w' = .ok (.pointer (some ⟨x.b, 0, none⟩)) w')
  (pl := [(0, true), (1, true), (2, true), (3, true), (4, true), (5, true), (6, true), (7, true), (8, true), (9, true), (10, true), (11, true), (12, true), (13, true), (14, true), (15, true), (16, true), (17, false)]) hmo (by kernel_rfl) ⟨by simpa using c0, by simpa using c1, by simpa using c4, by simpa using c3, by simpa using f0, hlk⟩ ?_
 iterate 17 (refine line_get rfl rfl (fun K hK => ?_); apply Exists.intro; refine ⟨fun w s => ?_, ?_⟩; (first | (have q := s rfl; go_simp; with_reducible rfl) | (go_simp; with_reducible rfl)); (go_simp; refine hK _ ?_; clear hK K))
 (refine line_do rfl rfl (fun K hK => ?_); go_simp)
 refine hK _ _ (no_need (by kernel_rfl)) ?_
 clear hK K
 refine line_nil ?_
 obtain ⟨m1, m2, m3⟩ := H.out.1.blk_ne
 have g1 := heap_setCell_row (j := 1) H.out.1.blk (.int .i64 ((s.used : Int) - (x.f.data.length : Int)))
 have k1 : Kp (fun k => k = d) w (w.setCell ⟨d, 1, none⟩ (.int .i64 ((s.used : Int) - (x.f.data.length : Int)))).drew := (Kp.setCell (S := fun k => k = d) w ⟨d, 1, none⟩ _ rfl).trans (Kp.drew _ _) fid fid
 have e0 := (H.out.2.2.2.1.2.1.kp k1 (fun e => by have := H.out.2.2.2.1.1; omega)).cell
 have e1 := (H.out.2.2.2.1.2.2.kp k1 (fun e => by have := H.out.2.2.2.1.1; omega)).cell
 have d1 : (w.setCell ⟨d, 1, none⟩ (.int .i64 ((s.used : Int) - (x.f.data.length : Int)))).drew.heap[d]? = some (.cells ((dcells s bm).setIfInBounds 1 (.int .i64 ((s.used : Int) - (x.f.data.length : Int)))) 85 (0, 0)) := g1
 have e2 : (w.setCell ⟨d, 1, none⟩ (.int .i64 ((s.used : Int) - (x.f.data.length : Int)))).drew.cell? ⟨d, 2, none⟩ = some (.map (some bm)) := (cell_of_block d1).trans rfl
 have hm1 := H.out.1.map.keep (k1.block bm H.out.1.map.lt (fun e => m3 e.symm))
 have HK := Lib.hid (And.intro k1 (And.intro d1 hm1))
 clear g1 d1 k1 m1 m2 c0 c1 c3 c4 z4 f0 hlk hm1
 generalize (w.setCell ⟨d, 1, none⟩ (.int .i64 ((s.used : Int) - (x.f.data.length : Int)))).drew = w1 at *
 go_wp2_with fail
 refine wp_region_line (fun w' => w'.cell? ⟨B, 0, none⟩ = some (.pointer (some ⟨d, 0, none⟩)) ∧ w'.cell? ⟨B + 1, 0, none⟩ = some (.string (bstr n)) ∧ w'.cell? ⟨d, 2, none⟩ = some (.map (some bm))) (pl := [(0, true), (1, true), (2, true), (3, true), (4, true), (5, false)]) hmo (by kernel_rfl) ⟨by simpa using e0, by simpa using e1, by simpa using e2⟩ ?_
 iterate 5 (refine line_get rfl rfl (fun K hK => ?_); apply Exists.intro; refine ⟨fun w s => ?_, ?_⟩; (first | (have q := s rfl; go_simp; with_reducible rfl) | (go_simp; with_reducible rfl)); (go_simp; refine hK _ ?_; clear hK K))
 refine line_do rfl rfl (fun K hK => ?_)
 refine wp_mapdel 83 9 (.tmp 22) (.tmp 23) rfl 87 Tryz.underlying83 Tryz.underlying9 bm ((l1 ++ x :: l2).map FE.ent) rfl (HK.out.2.2.keep rfl) n rfl ?_
 intro w2 hm2 hk2
 refine hK _ _ (no_need (by kernel_rfl)) ?_
 clear hK K
 refine line_nil ?_
 go_end0
 have k2 : Kp (fun k => k = d ∨ k = bm) w w2 := (HK.out.1.trans (Kp.drew (fun k => k = d) _) fid fid).trans hk2 (fun _ _ h => .inl h) (fun _ _ h => .inr h)
 refine ⟨rfl, H.out.1.remAt k2 (fun _ h => h) ?_ (by rw [H.out.2.2.1]; exact hm2) (by rw [H.out.2.2.1]) (H.out.1.ok.out n)⟩
 refine (hk2.block d ?_ m3).trans (HK.out.2.1.trans ?_)
 ·exact (Array.getElem?_eq_some_iff.1 HK.out.2.1).1
 ·have h1 := H.out.2.2.2.2.1
  have e : (s.used : Int) - (x.f.data.length : Int) = (usedF (outF n s.files) : Int) := by omega
  rw [e]
  unfold dcells DS.used
  rfl
theorem Remove_calls (w : World) (d : Nat) (s : DS) (F : List Nat) (n : Nm) (hD : DiskAt w d s F) (hn : n.length ≤ 9223372036854775807) :
  Calls Tryz.prog 106 #[.pointer (some ⟨d, 0, none⟩), .string (bstr n)] w (ChangePost d F w (s.remove n)) := by
 have HD := Lib.hid hD
 clear hD
 go_enter Tryz.func106, Tryz.ntmps106
 go_wp2_with fail
 obtain ⟨w1, hw1⟩ : ∃ w1, (w.alloc (.cells #[.pointer (some ⟨d, 0, none⟩)] 26)).alloc (.cells #[.string (bstr n)] 9) = w1 := ⟨_, rfl⟩
 obtain ⟨hB, n1⟩ := boxes2 (HD.out.lt d HD.out.mem) hw1
 rw [hw1]
 refine (changing_calls w1 d s F (HD.out.new n1) 211 212 (Go.Proofs.enters_of Tryz.func211 (by kernel_rfl) rfl) (Go.Proofs.enters_of Tryz.func212 (by kernel_rfl) rfl) _ _ (Bx2 d w.heap.size n) hB (fun _ _ h k => h.new k) (fun _ _ h k => h.kd k) (s.there n) (fun s => { s with files := outF n s.files })
  (fun w hB hD => Remove1_calls w d _ s F n hB hD hn) (fun h0 _ w fuse hB hD => ?_)).mono ?_
 ·obtain ⟨_, f, hf⟩ := there_zero h0
  exact Remove2_calls w d _ { s with fuse := fuse } F n f hB hD hf (fun k hk => HD.out.lt k hk)
 ·rintro e w2 ⟨rfl, F', h1, h2⟩
  have HE := Lib.hid (And.intro h1 (And.intro h2 n1))
  clear h1 h2 n1 hB hw1
  go_wp2_with fail
  go_ret
  exact ⟨rfl, F', HE.out.1, (Mv.of_new HE.out.2.2).trans HE.out.2.1⟩
theorem del_put {l : List (List UInt8 × Value)} {a b : Nm} {v : Value} (hab : a ≠ b) : del (put l b v) a = put (del l a) b v := by
 have hany : ((del l a).any fun x => x.1 == b) = l.any fun x => x.1 == b := by
  rw [Bool.eq_iff_iff, List.any_eq_true, List.any_eq_true]
  constructor
  ·rintro ⟨x, hx, h⟩
   exact ⟨x, (List.mem_filter.1 hx).1, h⟩
  ·rintro ⟨x, hx, h⟩
   refine ⟨x, List.mem_filter.2 ⟨hx, ?_⟩, h⟩
   rw [beq_iff_eq] at h
   rw [bne_iff_ne, h]
   exact fun e => hab e.symm
 unfold put
 rw [hany]
 split
 ·unfold del
  rw [List.filter_map]
  have e : ((fun x : List UInt8 × Value => x.1 != a) ∘ fun x => if x.1 = b then (b, v) else x) = fun x => x.1 != a := by
   funext x
   simp only [Function.comp]
   split
   ·rename_i h
    rw [h]
   ·rfl
  rw [e]
 ·unfold del
  rw [List.filter_append]
  congr 1
  rw [List.filter_cons_of_pos (by simpa using fun e => hab e.symm)]
  rfl
theorem put_ents {m1 m2 : List FE} {y : FE} {b : Nm} {x' : FE} (hy : y.f.name = b) (hx : x'.f.name = b) (hne : ∀ z ∈ m1 ++ m2, z.f.name ≠ b) : put ((m1 ++ y :: m2).map FE.ent) b x'.ptr = (m1 ++ x' :: m2).map FE.ent := by
 have hany : ((m1 ++ y :: m2).map FE.ent).any (fun x => x.1 == b) = true := List.any_eq_true.2 ⟨y.ent, List.mem_map.2 ⟨y, by simp, rfl⟩, by simp [FE.ent, hy]⟩
 unfold put
 rw [if_pos hany, List.map_map, List.map_append, List.map_append, List.map_cons, List.map_cons]
 have hid : ∀ {l : List FE}, (∀ z ∈ l, z.f.name ≠ b) → l.map ((fun x => if x.1 = b then (b, x'.ptr) else x) ∘ FE.ent) = l.map FE.ent := fun {l} hl => List.map_congr_left fun z hz => by
  exact if_neg (show ¬ z.ent.1 = b from hl z hz)
 rw [hid fun z hz => hne z (List.mem_append_left _ hz), hid fun z hz => hne z (List.mem_append_right _ hz)]
 simp [FE.ent, hy, hx]
theorem flat_perm {d bm : Nat} {xs ys : List FE} (h : xs.Perm ys) : (fpD d bm xs).Perm (fpD d bm ys) := ((h.flatMap_right FE.blk).cons bm).cons d
theorem at_none_ent {l : List FE} {b : Nm} (h : ∀ z ∈ l, z.f.name ≠ b) : at? (l.map FE.ent) b = none := by
 unfold at?
 have : (l.map FE.ent).find? (fun x => x.1 == b) = none := by
  rw [List.find?_eq_none]
  intro x hx
  obtain ⟨z, hz, rfl⟩ := List.mem_map.1 hx
  simpa [FE.ent] using h z hz
 rw [this]
 rfl
theorem DiskX.move {w w' : World} {d bm : Nat} {s s' : DS} {l1 l2 : List FE} {x : FE} {S : Nat → Prop} {b : Nm} (h : DiskX w d s bm (l1 ++ x :: l2)) (hab : x.f.name ≠ b) (hk : Kp S w w') (hS : ∀ k, S k → k = d ∨ k = bm) (hb : w'.heap[d]? = some (.cells (dcells s' bm) 85 (0, 0)))
  (hm : SMap w' bm (del (put ((l1 ++ x :: l2).map FE.ent) b x.ptr) x.f.name)) (hf : s'.files = moved x.f.name b s.files) (ok : s'.Ok) : ∃ F', DiskAt w' d s' F' ∧ Mv (fpD d bm (l1 ++ x :: l2)) F' w w' := by
 obtain ⟨n1, n2, n3⟩ := h.blk_ne
 have hne : ∀ y ∈ l1 ++ l2, y.f.name ≠ x.f.name := nodup_of_map h.names rfl
 have hin : ∀ y ∈ l1 ++ l2, y ∈ l1 ++ x :: l2 := fun y hy => by rcases List.mem_append.1 hy with hy | hy <;> simp [hy]
 rw [del_put hab, del_ents rfl hne] at hm
 have hfx : s.find x.f.name = some x.f := by
  rcases h.look x.f.name with ⟨_, h2⟩ | ⟨y, m1, m2, e, _, h3, _, h5⟩
  ·have := at_none_ent (l := l1 ++ l2) hne
   rw [← del_ents (x := x) rfl hne] at this
   exact absurd h2 (by
    unfold at?
    rw [show (fun y : List UInt8 × Value => y.1 == x.f.name) = fun y => y.1 == x.f.name from rfl, List.find?_map]
    have := find_cut (x := x) hne
    rw [show ((fun y : List UInt8 × Value => y.1 == x.f.name) ∘ FE.ent) = fun y => y.f.name == x.f.name from rfl, this]
    simp)
  ·have hx : x ∈ m1 ++ y :: m2 := e ▸ List.mem_append_right _ List.mem_cons_self
   rcases List.mem_append.1 hx with hx | hx
   ·exact absurd rfl (h5 x (List.mem_append_left _ hx))
   ·rcases List.mem_cons.1 hx with rfl | hx
    ·exact h3
    ·exact absurd rfl (h5 x (List.mem_append_right _ hx))
 have hzs : ((l1 ++ l2).map FE.f).Perm (outF x.f.name s.files) := by
  have e : (l1 ++ l2).map FE.f = outF x.f.name ((l1 ++ x :: l2).map FE.f) := by
   rw [List.map_append, List.map_append, List.map_cons, outF_cut rfl]
   intro g hg
   rw [← List.map_append] at hg
   obtain ⟨y, hy, rfl⟩ := List.mem_map.1 hg
   exact hne y hy
  rw [e]
  exact h.perm.filter _
 have hmv : s'.files = ins { x.f with name := b } (outF b (outF x.f.name s.files)) := by
  rw [hf]
  unfold moved
  rw [if_neg hab, show s.files.find? (fun f => f.name == x.f.name) = some x.f from hfx]
 have hfile : ∀ y ∈ l1 ++ x :: l2, y.at_ w' := fun y hy => by
  refine (h.file y hy).kp hk fun k hkk hs => ?_
  rcases List.mem_append.1 hy with hy | hy
  ·exact (hS k hs).elim (n2 y (List.mem_append_left _ hy) k hkk).1 (n2 y (List.mem_append_left _ hy) k hkk).2.1
  ·rcases List.mem_cons.1 hy with rfl | hy
   ·exact (hS k hs).elim (n1 k hkk).1 (n1 k hkk).2
   ·exact (hS k hs).elim (n2 y (List.mem_append_right _ hy) k hkk).1 (n2 y (List.mem_append_right _ hy) k hkk).2.1
 obtain ⟨x', hx'⟩ : ∃ x' : FE, x' = ⟨{ x.f with name := b }, x.b, x.A, x.c⟩ := ⟨_, rfl⟩
 have hxa : x'.at_ w' := by subst hx'; exact hfile x (by simp)
 have hxb : x'.blk = x.blk := by subst hx'; rfl
 have hxn : x'.f.name = b := by subst hx'; rfl
 have hxp : x'.ptr = x.ptr := by subst hx'; rfl
 have hxf : x'.f = { x.f with name := b } := by subst hx'; rfl
 have hperm0 : (l1 ++ l2 ++ [x]).Perm (l1 ++ x :: l2) := by
  rw [List.append_assoc]
  exact List.Perm.append_left _ List.perm_append_comm
 have hnd0 : (fpD d bm (l1 ++ l2 ++ [x'])).Nodup := by
  have e : fpD d bm (l1 ++ l2 ++ [x']) = fpD d bm (l1 ++ l2 ++ [x]) := by simp [fpD, hxb]
  rw [e]
  exact (flat_perm hperm0).nodup_iff.2 h.own
 have hsub0 : ∀ k ∈ fpD d bm (l1 ++ l2 ++ [x']), k ∈ fpD d bm (l1 ++ x :: l2) := fun k hk => by
  have e : fpD d bm (l1 ++ l2 ++ [x']) = fpD d bm (l1 ++ l2 ++ [x]) := by simp [fpD, hxb]
  rw [e] at hk
  exact (flat_perm hperm0).mem_iff.1 hk
 have hmvk : Kp (· ∈ fpD d bm (l1 ++ x :: l2)) w w' := hk.mono fun k _ hs => (hS k hs).elim (fun e => e ▸ mem_fpD.2 (.inl rfl)) (fun e => e ▸ mem_fpD.2 (.inr (.inl rfl)))
 by_cases hex : ∃ y ∈ l1 ++ l2, y.f.name = b
 ·obtain ⟨y, hy, hyb⟩ := hex
  obtain ⟨m1, m2, hmm⟩ := List.append_of_mem hy
  have hnz : ((l1 ++ l2).map fun x => x.f.name).Nodup := by
   have := h.names
   have hs : ((l1 ++ l2).map fun x => x.f.name).Sublist ((l1 ++ x :: l2).map fun x => x.f.name) := ((List.Sublist.refl _).append (List.sublist_cons_self _ _)).map _
   exact hs.nodup this
  have hnb : ∀ z ∈ m1 ++ m2, z.f.name ≠ b := fun z hz e => nodup_of_map hnz hmm z hz (e.trans hyb.symm)
  rw [hmm, ← hxp, put_ents hyb hxn hnb] at hm
  have hsubl : (m1 ++ m2 ++ [x']).Sublist (l1 ++ l2 ++ [x']) := by
   rw [hmm]
   exact ((List.Sublist.refl _).append (List.sublist_cons_self _ _)).append (List.Sublist.refl _)
  have hpm : (m1 ++ x' :: m2).Perm (m1 ++ m2 ++ [x']) := by
   rw [List.append_assoc]
   exact List.Perm.append_left _ (List.perm_append_comm (l₁ := [x']))
  have hsubf : (fpD d bm (m1 ++ m2 ++ [x'])).Sublist (fpD d bm (l1 ++ l2 ++ [x'])) := by
   unfold fpD
   rw [hmm]
   simp only [List.flatMap_append, List.flatMap_cons]
   exact ((((List.Sublist.refl _).append (List.sublist_append_right _ _)).append (List.Sublist.refl _)).cons_cons bm).cons_cons d
  refine ⟨_, ⟨bm, m1 ++ x' :: m2, ⟨hb, hm, fun z hz => ?_, (flat_perm hpm).nodup_iff.2 (hsubf.nodup hnd0), ?_, ok⟩, rfl⟩, hmvk, fun k hk => .inl (hsub0 k (hsubf.subset ((flat_perm hpm).mem_iff.1 hk)))⟩
  ·rcases List.mem_cons.1 ((List.perm_middle).mem_iff.1 hz) with rfl | hz
   ·exact hxa
   ·exact hfile z (hin z (hmm ▸ (by rcases List.mem_append.1 hz with hz | hz <;> simp [hz])))
  ·have e : outF b ((l1 ++ l2).map FE.f) = (m1 ++ m2).map FE.f := by
    rw [hmm, List.map_append, List.map_cons, outF_cut hyb, List.map_append]
    intro g hg
    rw [← List.map_append] at hg
    obtain ⟨z, hz, rfl⟩ := List.mem_map.1 hg
    exact hnb z hz
   have p1 : ((m1 ++ m2).map FE.f).Perm (outF b (outF x.f.name s.files)) := e ▸ hzs.filter _
   rw [hmv, ← hxf]
   refine ((List.perm_middle (a := x')).map FE.f).trans ?_
   rw [List.map_cons]
   exact (p1.cons x'.f).trans (ins_perm _ _).symm
 ·have hnb : ∀ z ∈ l1 ++ l2, z.f.name ≠ b := fun z hz e => hex ⟨z, hz, e⟩
  rw [put_new (at_none_ent hnb)] at hm
  refine ⟨_, ⟨bm, l1 ++ l2 ++ [x'], ⟨hb, ?_, fun z hz => ?_, hnd0, ?_, ok⟩, rfl⟩, hmvk, fun k hk => .inl (hsub0 k hk)⟩
  ·have e : (l1 ++ l2 ++ [x']).map FE.ent = (l1 ++ l2).map FE.ent ++ [(b, x.ptr)] := by
    rw [List.map_append]
    simp [FE.ent, hxn, hxp]
   rw [e]
   exact hm
  ·rcases List.mem_append.1 hz with hz | hz
   ·exact hfile z (hin z hz)
   ·obtain rfl := List.mem_singleton.1 hz
    exact hxa
  ·have e : outF b ((l1 ++ l2).map FE.f) = (l1 ++ l2).map FE.f := List.filter_eq_self.2 fun g hg => by
    obtain ⟨z, hz, rfl⟩ := List.mem_map.1 hg
    simpa using hnb z hz
   have p1 : ((l1 ++ l2).map FE.f).Perm (outF b (outF x.f.name s.files)) := by
    have := hzs.filter (fun f => f.name != b)
    exact e ▸ this
   rw [hmv, ← hxf, List.map_append]
   exact (List.perm_append_comm (l₂ := [x'.f])).trans ((p1.cons x'.f).trans (ins_perm _ _).symm)
theorem used_moved {s : DS} (h : s.Ok) {a b : Nm} {f : Fl} (hf : s.find a = some f) (hab : a ≠ b) : usedF (moved a b s.files) + ((s.find b).map fun g => g.data.length).getD 0 = s.used := by
 have h1 := used_out h hf
 have hm : moved a b s.files = ins { f with name := b } (outF b (outF a s.files)) := by
  unfold moved
  rw [if_neg hab, show s.files.find? (fun f => f.name == a) = some f from hf]
 rw [hm, used_ins]
 have hfb : (outF a s.files).find? (fun f => f.name == b) = s.find b := by
  unfold outF DS.find
  rw [List.find?_filter]
  congr 1
  funext g
  by_cases hg : g.name = b
  ·have : (g.name != a) = true := by rw [bne_iff_ne, hg]; exact fun e => hab e.symm
   rw [this]
   cases (g.name == b) <;> simp
  ·have : (g.name == b) = false := by rw [beq_eq_false_iff_ne]; exact hg
   simp [this]
 cases hb : s.find b with
 | none =>
  rw [hb] at hfb
  rw [outF_none hfb]
  simp only [Option.map_none, Option.getD_none]
  omega
 | some g =>
  rw [hb] at hfb
  have h2 := used_out (h.out a) (n := b) (f := g) hfb
  have e3 : DS.used { s with files := outF a s.files } = usedF (outF a s.files) := rfl
  rw [e3] at h2
  have e4 : usedF (outF b ({ s with files := outF a s.files } : DS).files) = usedF (outF b (outF a s.files)) := rfl
  rw [e4] at h2
  simp only [Option.map_some, Option.getD_some]
  omega
def BxR (d B : Nat) (a b : Nm) (w : World) : Prop := Bx2 d B a w ∧ Bx w (B + 1 + 1) 9 (.string (bstr b))
theorem BxR.new {d B : Nat} {a b : Nm} {w w' : World} (h : BxR d B a b w) (hk : New w w') : BxR d B a b w' := ⟨h.1.new hk, h.2.kp hk id⟩
theorem BxR.kd {d B : Nat} {a b : Nm} {w w' : World} (h : BxR d B a b w) (hk : Kp (fun k => k = d) w w') : BxR d B a b w' := ⟨h.1.kd hk, h.2.kp hk (fun e => by have := h.1.1; omega)⟩
def renErr (s : DS) (a b : Nm) : Nat := if goodN b = true then s.there a else 32
set_option maxHeartbeats 1000000 in
theorem Rename1_calls (w : World) (d B : Nat) (s : DS) (F : List Nat) (a b : Nm) (hB : BxR d B a b w) (hD : DiskAt w d s F) (ha : a.length ≤ 9223372036854775807) (hb : b.length ≤ 9223372036854775807) :
  Calls Tryz.prog 208 #[.pointer (some ⟨B + 1 + 1, 0, none⟩), .pointer (some ⟨B, 0, none⟩), .pointer (some ⟨B + 1, 0, none⟩)] w fun e w' => e = .returned (.int .i64 (renErr s a b : Int)) ∧ New w w' := by
 have c2 := hB.2.cell
 have HB := Lib.hid hB
 have HD := Lib.hid hD
 clear hB hD
 by_cases hg : goodN b = true
 ·have hr : renErr s a b = s.there a := by unfold renErr; rw [if_pos hg]
  rw [hr]
  clear hr
  go_enter Tryz.func208, Tryz.ntmps208
  go_wp2_with fail
  refine (good_calls w b hb).mono ?_
  rintro e w1 ⟨rfl, hn1⟩
  rw [hg]
  have d0 := (HB.out.new hn1).1.2.1.cell
  have d1 := (HB.out.new hn1).1.2.2.cell
  have HN := Lib.hid hn1
  clear hn1 hg
  go_wp2_with fail
  refine (there_calls w1 d s F a (HD.out.new HN.out) ha).mono ?_
  rintro e w2 ⟨rfl, hn2⟩
  have HM := Lib.hid hn2
  clear hn2
  go_wp2_with fail
  go_ret
  exact ⟨rfl, HN.out.trans HM.out fid fid⟩
 ·have hr : renErr s a b = 32 := by unfold renErr; rw [if_neg hg]
  rw [hr]
  have hg' : goodN b = false := by simpa using hg
  clear hr hg
  go_enter Tryz.func208, Tryz.ntmps208
  go_wp2_with fail
  refine (good_calls w b hb).mono ?_
  rintro e w1 ⟨rfl, hn1⟩
  rw [hg']
  have HN := Lib.hid hn1
  clear hn1 hg'
  go_wp2_with fail
  go_ret
  exact ⟨rfl, HN.out⟩
def RenameEnd (d bm : Nat) (s : DS) (l1 l2 : List FE) (x : FE) (b : Nm) (w : World) (e : Ending) (w' : World) : Prop := e = .returned (.tuple #[]) ∧ ∃ F', DiskAt w' d { s with files := moved x.f.name b s.files } F' ∧ Mv (fpD d bm (l1 ++ x :: l2)) F' w w'
set_option maxRecDepth 100000 in
set_option maxHeartbeats 8000000 in
theorem Rename2_calls (w : World) (d B : Nat) (s : DS) (F : List Nat) (a b : Nm) (f : Fl) (hB : BxR d B a b w) (hD : DiskAt w d s F) (hf : s.find a = some f) (hg : goodN b = true) (hFB : ∀ k ∈ F, k < B) :
  Calls Tryz.prog 209 #[.pointer (some ⟨B + 1, 0, none⟩), .pointer (some ⟨B + 1 + 1, 0, none⟩), .pointer (some ⟨B, 0, none⟩)] w fun e w' => e = .returned (.tuple #[]) ∧ ∃ F', DiskAt w' d { s with files := moved a b s.files } F' ∧ Mv F F' w w' := by
 have c0 := hB.1.2.1.cell
 have c1 := hB.1.2.2.cell
 have c2 := hB.2.cell
 by_cases hab : a = b
 ·subst hab
  have HD := Lib.hid hD
  clear hB hD hf hg hFB
  go_enter Tryz.func209, Tryz.ntmps209
  go_wp2_with fail
  refine bodyPost_ret (results_none rfl _ _ _) rfl ?_
  refine ⟨rfl, F, ?_, Mv.refl _ _⟩
  have : moved a a s.files = s.files := by unfold moved; rw [if_pos rfl]
  rw [this]
  exact HD.out
 ·have hq := bstr_ne hab
  obtain ⟨bm, xs, hX, rfl⟩ := hD
  obtain ⟨x, l1, l2, rfl, rfl, rfl, hat⟩ := hX.look_some hf
  have c3 : w.cell? ⟨d, 2, none⟩ = some (.map (some bm)) := (cell_of_block hX.blk).trans rfl
  have hum := used_moved hX.ok hf hab
  have hus := hX.ok.used
  have hcap := hX.ok.cap
  have hmo : Tryz.prog.follows Departure.mixedOrders = true := by kernel_rfl
  cases hfb : s.find b with
  | none =>
   have hatb : at? ((l1 ++ x :: l2).map FE.ent) b = none := by
    rcases hX.look b with ⟨_, h⟩ | ⟨y, m1, m2, _, _, h3, _⟩
    ·exact h
    ·rw [hfb] at h3; cases h3
   have hlk : ∀ j, (Instr.lookup 83 (.map (some bm)) (.string (bstr b)) false).run Tryz.prog (w.drewN j) = .ok (.pointer none) (w.drewN j) := fun j => by rw [run_look_at (hX.map.drewN j) b, hatb]; rfl
   rw [hfb] at hum
   have H := Lib.hid (And.intro hX (And.intro hf (And.intro hat (And.intro hB (And.intro hum (And.intro hFB (And.intro hg hab)))))))
   clear hX hf hat hB hum hFB hg hab hatb hfb
   go_enter Tryz.func209, Tryz.ntmps209
   go_wp2_with fail
   go_quiet (fail)
   go_wp2_with fail
   have e0 : (w.drewN nq).cell? ⟨B, 0, none⟩ = some (.pointer (some ⟨d, 0, none⟩)) := by simpa using c0
   have e1 : (w.drewN nq).cell? ⟨B + 1, 0, none⟩ = some (.string (bstr x.f.name)) := by simpa using c1
   have e2 : (w.drewN nq).cell? ⟨B + 1 + 1, 0, none⟩ = some (.string (bstr b)) := by simpa using c2
   have e3 : (w.drewN nq).cell? ⟨d, 2, none⟩ = some (.map (some bm)) := by simpa using c3
   have HE := Lib.hid (And.intro (show Kp (fun k => k = d) w (w.drewN nq) from Kp.drewN _ _ _) (And.intro (show (w.drewN nq).heap[d]? = some (.cells (dcells s bm) 85 (0, 0)) from H.out.1.blk) (And.intro (H.out.1.map.drewN nq) (show (Instr.lookup 83 (.map (some bm)) (.string (bstr x.f.name)) false).run Tryz.prog (w.drewN nq).drew = .ok (.pointer (some ⟨x.b, 0, none⟩)) (w.drewN nq).drew by rw [run_look_at (H.out.1.map.keep (w' := (w.drewN nq).drew) rfl) x.f.name, H.out.2.2.1]; rfl))))
   generalize w.drewN nq = W at *
   refine wp_region_line (fun w' => w'.cell? ⟨B, 0, none⟩ = some (.pointer (some ⟨d, 0, none⟩)) ∧ w'.cell? ⟨B + 1, 0, none⟩ = some (.string (bstr x.f.name)) ∧ w'.cell? ⟨B + 1 + 1, 0, none⟩ = some (.string (bstr b)) ∧ w'.cell? ⟨d, 2, none⟩ = some (.map (some bm)) ∧ (Instr.lookup 83 (.map (some bm)) (.string (bstr x.f.name)) false).run Tryz.prog w' = .ok (.pointer (some ⟨x.b, 0, none⟩)) w')
    (pl := [(0, true), (1, true), (2, true), (3, true), (4, true), (5, true), (6, true), (7, true), (8, true), (9, true), (10, true), (11, false)]) hmo (by kernel_rfl) ⟨by simpa using e0, by simpa using e1, by simpa using e2, by simpa using e3, HE.out.2.2.2⟩ ?_
   iterate 11 (refine line_get rfl rfl (fun K hK => ?_); apply Exists.intro; refine ⟨fun w s => ?_, ?_⟩; (first | (have q := s rfl; go_simp; with_reducible rfl) | (go_simp; with_reducible rfl)); (go_simp; refine hK _ ?_; clear hK K))
   refine line_do rfl rfl (fun K hK => ?_)
   refine wp_mapput 83 (.tmp 30) (.tmp 31) (.tmp 37) rfl 9 87 Tryz.underlying83 Tryz.underlying9 bm ((l1 ++ x :: l2).map FE.ent) rfl (HE.out.2.2.1.keep rfl) b rfl (.pointer (some ⟨x.b, 0, none⟩)) rfl ?_
   intro w2 hm2 hk2
   refine hK _ _ (no_need (by kernel_rfl)) ?_
   clear hK K
   refine line_nil ?_
   have m3 := H.out.1.blk_ne.2.2
   have hbF := H.out.2.2.2.2.2.1
   have hbB : bm < B := hbF bm (mem_fpD.2 (.inr (.inl rfl)))
   have k2 : Kp (fun k => k = d ∨ k = bm) w w2 := (HE.out.1.trans (Kp.drew (fun k => k = d) _) fid fid).trans hk2 (fun _ _ h => .inl h) (fun _ _ h => .inr h)
   have hB2 : BxR d B x.f.name b w2 := by
    have hdB := H.out.2.2.2.1.1.1
    have h1 := H.out.2.2.2.1
    exact ⟨⟨hdB, h1.1.2.1.kp k2 (fun h => h.elim (fun e => by omega) (fun e => by omega)), h1.1.2.2.kp k2 (fun h => h.elim (fun e => by omega) (fun e => by omega))⟩, h1.2.kp k2 (fun h => h.elim (fun e => by omega) (fun e => by omega))⟩
   have g0 := hB2.1.2.1.cell
   have g1 := hB2.1.2.2.cell
   have hbk := (hk2.block d (by have := (Array.getElem?_eq_some_iff.1 HE.out.2.1).1; exact this) m3).trans HE.out.2.1
   have g3 : w2.cell? ⟨d, 2, none⟩ = some (.map (some bm)) := (cell_of_block hbk).trans rfl
   have HG := Lib.hid (And.intro k2 (And.intro hm2 hbk))
   clear e0 e1 e2 e3 hm2 hk2 hB2 hbk k2 m3 hbF hbB
   go_wp2_with fail
   refine wp_region_line (fun w' => w'.cell? ⟨B, 0, none⟩ = some (.pointer (some ⟨d, 0, none⟩)) ∧ w'.cell? ⟨B + 1, 0, none⟩ = some (.string (bstr x.f.name)) ∧ w'.cell? ⟨d, 2, none⟩ = some (.map (some bm))) (pl := [(0, true), (1, true), (2, true), (3, true), (4, true), (5, false)]) hmo (by kernel_rfl) ⟨by simpa using g0, by simpa using g1, by simpa using g3⟩ ?_
   iterate 5 (refine line_get rfl rfl (fun K hK => ?_); apply Exists.intro; refine ⟨fun w s => ?_, ?_⟩; (first | (have q := s rfl; go_simp; with_reducible rfl) | (go_simp; with_reducible rfl)); (go_simp; refine hK _ ?_; clear hK K))
   refine line_do rfl rfl (fun K hK => ?_)
   refine wp_mapdel 83 9 (.tmp 41) (.tmp 42) rfl 87 Tryz.underlying83 Tryz.underlying9 bm (put ((l1 ++ x :: l2).map FE.ent) b x.ptr) rfl (HG.out.2.1.keep rfl) x.f.name rfl ?_
   intro w3 hm3 hk3
   refine hK _ _ (no_need (by kernel_rfl)) ?_
   clear hK K
   refine line_nil ?_
   go_end0
   have m3 := H.out.1.blk_ne.2.2
   have k3 : Kp (fun k => k = d ∨ k = bm) w w3 := (HG.out.1.trans (Kp.drew (fun _ => False) _) fid (fun _ _ h => h.elim)).trans hk3 fid (fun _ _ h => .inr h)
   refine ⟨rfl, H.out.1.move H.out.2.2.2.2.2.2.2 k3 (fun _ h => h) ((hk3.block d ?_ m3).trans (HG.out.2.2.trans ?_)) hm3 rfl (H.out.1.ok.moved _ _ H.out.2.2.2.2.2.2.1)⟩
   ·exact (Array.getElem?_eq_some_iff.1 HG.out.2.2).1
   ·have h1 := H.out.2.2.2.2.1
    simp only [Option.map_none, Option.getD_none] at h1
    have e : s.used = usedF (moved x.f.name b s.files) := by omega
    unfold dcells
    rw [e]
    rfl
  | some g =>
   obtain ⟨y, p1, p2, hpp, rfl, hyb, hatb⟩ := hX.look_some hfb
   have hlk : ∀ j, (Instr.lookup 83 (.map (some bm)) (.string (bstr b)) false).run Tryz.prog (w.drewN j) = .ok (.pointer (some ⟨y.b, 0, none⟩)) (w.drewN j) := fun j => by rw [run_look_at (hX.map.drewN j) b, hatb]; rfl
   have hyf := (hX.file y (hpp ▸ List.mem_append_right _ List.mem_cons_self)).1
   have f0 : w.cell? ⟨y.b, 0, none⟩ = some (.slice y.A y.f.data.length y.c) := (cell_of_block hyf).trans rfl
   have c4 : w.cell? ⟨d, 1, none⟩ = some (.int .i64 (s.used : Int)) := (cell_of_block hX.blk).trans rfl
   have z4 : w.frozen? ⟨d, 1, none⟩ = false := by simp [World.frozen?, hX.blk]
   have hyl := used_at' hX.ok hfb
   rw [hfb] at hum
   have H := Lib.hid (And.intro hX (And.intro hf (And.intro hat (And.intro hB (And.intro hum (And.intro hFB (And.intro hg hab)))))))
   clear hX hf hat hB hum hFB hg hab hatb hfb hpp hyf
   have hw : IntKind.i64.wrap ((s.used : Int) - (y.f.data.length : Int)) = (s.used : Int) - (y.f.data.length : Int) := by rw [IntKind.wrap_i64]; omega
   go_enter Tryz.func209, Tryz.ntmps209
   go_wp2_with fail
   go_quiet (fail)
   go_wp2_with fail
   refine wp_region_line (fun w' => w'.cell? ⟨B, 0, none⟩ = some (.pointer (some ⟨d, 0, none⟩)) ∧ w'.cell? ⟨d, 1, none⟩ = some (.int .i64 (s.used : Int)) ∧ w'.cell? ⟨y.b, 0, none⟩ = some (.slice y.A y.f.data.length y.c)) (pl := [(0, true), (1, true), (2, true), (3, true), (4, true), (5, true), (6, true), (7, true), (8, true), (9, true), (10, true), (11, true), (12, false)]) hmo (by kernel_rfl) ⟨by simpa using c0, by simpa using c4, by simpa using f0⟩ ?_
   iterate 12 (refine line_get rfl rfl (fun K hK => ?_); apply Exists.intro; refine ⟨fun w s => ?_, ?_⟩; (first | (have q := s rfl; go_simp; with_reducible rfl) | (go_simp; with_reducible rfl)); (go_simp; refine hK _ ?_; clear hK K))
   (refine line_do rfl rfl (fun K hK => ?_); go_simp)
   refine hK _ _ (no_need (by kernel_rfl)) ?_
   clear hK K
   refine line_nil ?_
   have kW : Kp (fun k => k = d) w ((w.drewN (nq + 1)).setCell ⟨d, 1, none⟩ (.int .i64 ((s.used : Int) - (y.f.data.length : Int)))) := (Kp.drewN (fun k => k = d) w (nq + 1)).trans (Kp.setCell (S := fun k => k = d) _ ⟨d, 1, none⟩ _ rfl) fid fid
   have blk1 : ((w.drewN (nq + 1)).setCell ⟨d, 1, none⟩ (.int .i64 ((s.used : Int) - (y.f.data.length : Int)))).heap[d]? = some (.cells ((dcells s bm).setIfInBounds 1 (.int .i64 ((s.used : Int) - (y.f.data.length : Int)))) 85 (0, 0)) := heap_setCell_row (w := w.drewN (nq + 1)) (j := 1) H.out.1.blk _
   have hdB := H.out.2.2.2.1.1.1
   have q3 := H.out.1.blk_ne.2.2
   have e0 := (H.out.2.2.2.1.1.2.1.kp kW (fun e => by omega)).cell
   have e1 := (H.out.2.2.2.1.1.2.2.kp kW (fun e => by omega)).cell
   have e2 := (H.out.2.2.2.1.2.kp kW (fun e => by omega)).cell
   have e3 : ((w.drewN (nq + 1)).setCell ⟨d, 1, none⟩ (.int .i64 ((s.used : Int) - (y.f.data.length : Int)))).cell? ⟨d, 2, none⟩ = some (.map (some bm)) := (cell_of_block blk1).trans rfl
   have hmW := H.out.1.map.keep (kW.block bm H.out.1.map.lt (fun e => q3 e.symm))
   have HE := Lib.hid (And.intro kW (And.intro blk1 (And.intro hmW (show (Instr.lookup 83 (.map (some bm)) (.string (bstr x.f.name)) false).run Tryz.prog ((w.drewN (nq + 1)).setCell ⟨d, 1, none⟩ (.int .i64 ((s.used : Int) - (y.f.data.length : Int)))).drew = .ok (.pointer (some ⟨x.b, 0, none⟩)) ((w.drewN (nq + 1)).setCell ⟨d, 1, none⟩ (.int .i64 ((s.used : Int) - (y.f.data.length : Int)))).drew by rw [run_look_at (hmW.keep (w' := ((w.drewN (nq + 1)).setCell ⟨d, 1, none⟩ (.int .i64 ((s.used : Int) - (y.f.data.length : Int)))).drew) rfl) x.f.name, H.out.2.2.1]; rfl))))
   clear kW blk1 hdB q3 hmW c0 c1 c2 c3 c4 z4 f0 hlk
   generalize ((w.drewN (nq + 1)).setCell ⟨d, 1, none⟩ (.int .i64 ((s.used : Int) - (y.f.data.length : Int)))) = W at *
   go_wp2_with fail
   refine wp_region_line (fun w' => w'.cell? ⟨B, 0, none⟩ = some (.pointer (some ⟨d, 0, none⟩)) ∧ w'.cell? ⟨B + 1, 0, none⟩ = some (.string (bstr x.f.name)) ∧ w'.cell? ⟨B + 1 + 1, 0, none⟩ = some (.string (bstr b)) ∧ w'.cell? ⟨d, 2, none⟩ = some (.map (some bm)) ∧ (Instr.lookup 83 (.map (some bm)) (.string (bstr x.f.name)) false).run Tryz.prog w' = .ok (.pointer (some ⟨x.b, 0, none⟩)) w')
    (pl := [(0, true), (1, true), (2, true), (3, true), (4, true), (5, true), (6, true), (7, true), (8, true), (9, true), (10, true), (11, false)]) hmo (by kernel_rfl) ⟨by simpa using e0, by simpa using e1, by simpa using e2, by simpa using e3, HE.out.2.2.2⟩ ?_
   iterate 11 (refine line_get rfl rfl (fun K hK => ?_); apply Exists.intro; refine ⟨fun w s => ?_, ?_⟩; (first | (have q := s rfl; go_simp; with_reducible rfl) | (go_simp; with_reducible rfl)); (go_simp; refine hK _ ?_; clear hK K))
   refine line_do rfl rfl (fun K hK => ?_)
   refine wp_mapput 83 (.tmp 30) (.tmp 31) (.tmp 37) rfl 9 87 Tryz.underlying83 Tryz.underlying9 bm ((l1 ++ x :: l2).map FE.ent) rfl (HE.out.2.2.1.keep rfl) b rfl (.pointer (some ⟨x.b, 0, none⟩)) rfl ?_
   intro w2 hm2 hk2
   refine hK _ _ (no_need (by kernel_rfl)) ?_
   clear hK K
   refine line_nil ?_
   have m3 := H.out.1.blk_ne.2.2
   have hbF := H.out.2.2.2.2.2.1
   have hbB : bm < B := hbF bm (mem_fpD.2 (.inr (.inl rfl)))
   have k2 : Kp (fun k => k = d ∨ k = bm) w w2 := (HE.out.1.trans (Kp.drew (fun k => k = d) _) fid fid).trans hk2 (fun _ _ h => .inl h) (fun _ _ h => .inr h)
   have hB2 : BxR d B x.f.name b w2 := by
    have hdB := H.out.2.2.2.1.1.1
    have h1 := H.out.2.2.2.1
    exact ⟨⟨hdB, h1.1.2.1.kp k2 (fun h => h.elim (fun e => by omega) (fun e => by omega)), h1.1.2.2.kp k2 (fun h => h.elim (fun e => by omega) (fun e => by omega))⟩, h1.2.kp k2 (fun h => h.elim (fun e => by omega) (fun e => by omega))⟩
   have g0 := hB2.1.2.1.cell
   have g1 := hB2.1.2.2.cell
   have hbk := (hk2.block d (by have := (Array.getElem?_eq_some_iff.1 HE.out.2.1).1; exact this) m3).trans HE.out.2.1
   have g3 : w2.cell? ⟨d, 2, none⟩ = some (.map (some bm)) := (cell_of_block hbk).trans rfl
   have HG := Lib.hid (And.intro k2 (And.intro hm2 hbk))
   clear e0 e1 e2 e3 hm2 hk2 hB2 hbk k2 m3 hbF hbB
   go_wp2_with fail
   refine wp_region_line (fun w' => w'.cell? ⟨B, 0, none⟩ = some (.pointer (some ⟨d, 0, none⟩)) ∧ w'.cell? ⟨B + 1, 0, none⟩ = some (.string (bstr x.f.name)) ∧ w'.cell? ⟨d, 2, none⟩ = some (.map (some bm))) (pl := [(0, true), (1, true), (2, true), (3, true), (4, true), (5, false)]) hmo (by kernel_rfl) ⟨by simpa using g0, by simpa using g1, by simpa using g3⟩ ?_
   iterate 5 (refine line_get rfl rfl (fun K hK => ?_); apply Exists.intro; refine ⟨fun w s => ?_, ?_⟩; (first | (have q := s rfl; go_simp; with_reducible rfl) | (go_simp; with_reducible rfl)); (go_simp; refine hK _ ?_; clear hK K))
   refine line_do rfl rfl (fun K hK => ?_)
   refine wp_mapdel 83 9 (.tmp 41) (.tmp 42) rfl 87 Tryz.underlying83 Tryz.underlying9 bm (put ((l1 ++ x :: l2).map FE.ent) b x.ptr) rfl (HG.out.2.1.keep rfl) x.f.name rfl ?_
   intro w3 hm3 hk3
   refine hK _ _ (no_need (by kernel_rfl)) ?_
   clear hK K
   refine line_nil ?_
   go_end0
   have m3 := H.out.1.blk_ne.2.2
   have k3 : Kp (fun k => k = d ∨ k = bm) w w3 := (HG.out.1.trans (Kp.drew (fun _ => False) _) fid (fun _ _ h => h.elim)).trans hk3 fid (fun _ _ h => .inr h)
   refine ⟨rfl, H.out.1.move H.out.2.2.2.2.2.2.2 k3 (fun _ h => h) ((hk3.block d ?_ m3).trans (HG.out.2.2.trans ?_)) hm3 rfl (H.out.1.ok.moved _ _ H.out.2.2.2.2.2.2.1)⟩
   ·exact (Array.getElem?_eq_some_iff.1 HG.out.2.2).1
   ·have h1 := H.out.2.2.2.2.1
    simp only [Option.map_some, Option.getD_some] at h1
    have e : (s.used : Int) - (y.f.data.length : Int) = (usedF (moved x.f.name b s.files) : Int) := by omega
    rw [e]
    unfold dcells DS.used
    rfl
theorem Rename_calls (w : World) (d : Nat) (s : DS) (F : List Nat) (a b : Nm) (hD : DiskAt w d s F) (ha : a.length ≤ 9223372036854775807) (hb : b.length ≤ 9223372036854775807) :
  Calls Tryz.prog 104 #[.pointer (some ⟨d, 0, none⟩), .string (bstr a), .string (bstr b)] w (ChangePost d F w (s.rename a b)) := by
 have HD := Lib.hid hD
 clear hD
 go_enter Tryz.func104, Tryz.ntmps104
 go_wp2_with fail
 obtain ⟨w1, hw1⟩ : ∃ w1, (w.alloc (.cells #[.pointer (some ⟨d, 0, none⟩)] 26)).alloc (.cells #[.string (bstr a)] 9) = w1 := ⟨_, rfl⟩
 obtain ⟨hB, n1⟩ := boxes2 (HD.out.lt d HD.out.mem) hw1
 have z1 : w1.heap.size = w.heap.size + 1 + 1 := by rw [← hw1]; simp
 rw [hw1]
 have hB3 : BxR d w.heap.size a b (w1.alloc (.cells #[.string (bstr b)] 9)) := ⟨hB.new (Kp.alloc _ _ _), by have := Bx.new_ w1 9 (.string (bstr b)); rwa [z1] at this⟩
 have n2 : New w (w1.alloc (.cells #[.string (bstr b)] 9)) := n1.trans (Kp.alloc _ _ _) fid fid
 refine (changing_calls (w1.alloc (.cells #[.string (bstr b)] 9)) d s F (HD.out.new n2) 208 209 (Go.Proofs.enters_of Tryz.func208 (by kernel_rfl) rfl) (Go.Proofs.enters_of Tryz.func209 (by kernel_rfl) rfl) _ _ (BxR d w.heap.size a b) hB3 (fun _ _ h k => h.new k) (fun _ _ h k => h.kd k) (renErr s a b) (fun s => { s with files := moved a b s.files })
  (fun w hB hD => Rename1_calls w d _ s F a b hB hD ha hb) (fun h0 _ w fuse hB hD => ?_)).mono ?_
 ·unfold renErr at h0
  have hg : goodN b = true := by
   by_cases h : goodN b = true
   ·exact h
   ·rw [if_neg h] at h0; cases h0
  rw [if_pos hg] at h0
  obtain ⟨_, f, hf⟩ := there_zero h0
  exact Rename2_calls w d _ { s with fuse := fuse } F a b f hB hD hf hg (fun k hk => HD.out.lt k hk)
 ·rintro e w2 ⟨rfl, F', h1, h2⟩
  have HE := Lib.hid (And.intro h1 (And.intro h2 n2))
  clear h1 h2 n1 n2 hB hB3 hw1
  go_wp2_with fail
  go_ret
  exact ⟨rfl, F', HE.out.1, (Mv.of_new HE.out.2.2).trans HE.out.2.1⟩
end Go.Proofs.YtekcoeonlfmebaaGreatDoor.Kit
