/- 5 texts in one: A disk of one more file.; disk.From: what it answers.; daybookref03: New, From, State.; daybookref03: Create, Sync, Remove, Fuse.; PRINTED by gen_refq.py. daybookref03: Rename. -/
import Derived.Test.YtekcoeonlfmebaaGreatDoorM16
import Derived.Test.YtekcoeonlfmebaaGreatDoorM13
import Derived.Test.YtekcoeonlfmebaaGreatDoorM23
import Derived.Test.YtekcoeonlfmebaaGreatDoorM20
import Derived.Test.YtekcoeonlfmebaaGreatDoorM18
namespace Go.Proofs.YtekcoeonlfmebaaGreatDoor.Kit
open Go Go.RowKit
theorem DiskX.no_d {w : World} {d bm : Nat} {s : DS} {xs : List FE} (h : DiskX w d s bm xs) : d ≠ bm ∧ ∀ x ∈ xs, ∀ k ∈ x.blk, k ≠ d ∧ k ≠ bm := by
 obtain ⟨h1, h2⟩ := List.nodup_cons.1 h.own
 obtain ⟨h3, h4⟩ := List.nodup_cons.1 h2
 refine ⟨fun e => h1 (e ▸ List.mem_cons_self), fun x hx k hk => ⟨fun e => h1 ?_, fun e => h3 ?_⟩⟩
 ·exact e ▸ List.mem_cons_of_mem _ (List.mem_flatMap.2 ⟨x, hx, hk⟩)
 ·exact e ▸ List.mem_flatMap.2 ⟨x, hx, hk⟩
theorem DiskX.pushAt {w w' : World} {d bm : Nat} {s s' : DS} {xs : List FE} {x : FE} (h : DiskX w d s bm xs) (hk : Kp (fun k => k = d ∨ k = bm) w w') (hb : w'.heap[d]? = some (.cells (dcells s' bm) 85 (0, 0)))
  (hm : SMap w' bm (xs.map FE.ent ++ [x.ent])) (hx : x.at_ w') (hin : ∀ k ∈ x.blk, w.heap.size ≤ k) (hnd : x.blk.Nodup) (hf : s'.files = s.files ++ [x.f]) (ok : s'.Ok) : DiskAt w' d s' (fpD d bm (xs ++ [x])) := by
 refine ⟨bm, xs ++ [x], ⟨hb, ?_, fun y hy => ?_, h.push_nodup hnd hin, ?_, ok⟩, rfl⟩
 ·rw [List.map_append]
  exact hm
 ·rcases List.mem_append.1 hy with hy | hy
  ·exact (h.file y hy).kp hk fun k hkk e => e.elim (h.no_d.2 y hy k hkk).1 (h.no_d.2 y hy k hkk).2
  ·obtain rfl := List.mem_singleton.1 hy
   exact hx
 ·rw [List.map_append, hf]
  exact h.perm.append_right _
theorem VPre.fresh {cap : Nat} {l : List FI} {y : FI} (h : VPre cap (l ++ [y])) : (DS.mk cap (l.map FI.fl) (-1) false).find y.name = none := by
 refine List.find?_eq_none.2 fun f hf => ?_
 have hr := h.1.rise
 simp only [List.map_append, List.map_cons, List.map_nil, List.pairwise_append] at hr
 have := hr.2.2 f.name (List.mem_map.2 ⟨f, hf, rfl⟩) y.fl.name (by simp)
 rw [beq_iff_eq]
 exact nm_ne this
theorem From_push {w w2 w3 w4 w5 : World} {d bm cap U c3 : Nat} {G : List Nat} {xs : List FE} {l : List FI} {y : FI} {A3 : Option Addr} (hX : DiskX w2 d ⟨cap, l.map FI.fl, -1, false⟩ bm xs) (hG : G = fpD d bm xs) (hw : ∀ j ∈ G, w.heap.size + 1 ≤ j) (hn : New w w2) (hok : VPre cap (l ++ [y]))
  (hU : DS.used ⟨cap, l.map FI.fl, -1, false⟩ = U) (ho : Own w3 5 1 A3 c3 y.data.length (bcs y.data)) (h23 : New w2 w3) (hf3 : ∀ k, Bk A3 k → w2.heap.size ≤ k)
  (g4 : w4.heap[w3.heap.size]? = some (.cells #[.slice A3 y.data.length c3, .int .i64 y.syn] 90 (0, 0))) (h34 : New w3 w4) (hm5 : SMap w5 bm (xs.map FE.ent ++ [(y.name, .pointer (some ⟨w3.heap.size, 0, none⟩))])) (h45 : Kp (fun k => k = bm) w4 w5)
  (d5 : w5.heap[d]? = some (.cells (dcells ⟨cap, l.map FI.fl, -1, false⟩ bm) 85 (0, 0))) (v : Int) (hv : v = (U : Int) + (y.data.length : Int)) :
  ∃ G', DiskAt (w5.setCell ⟨d, 1, none⟩ (.int .i64 v)).drew d ⟨cap, (l ++ [y]).map FI.fl, -1, false⟩ G' ∧ (∀ j ∈ G', w.heap.size + 1 ≤ j) ∧ (w.heap.size < w2.heap.size → (w5.setCell ⟨d, 1, none⟩ (.int .i64 v)).drew.heap[w.heap.size]? = w2.heap[w.heap.size]?) ∧ New w (w5.setCell ⟨d, 1, none⟩ (.int .i64 v)).drew := by
 subst hv hG
 have b6 := heap_setCell_row (j := 1) d5 (.int .i64 ((U : Int) + (y.data.length : Int)))
 have k56 : Kp (fun k => k = d) w5 (w5.setCell ⟨d, 1, none⟩ (.int .i64 ((U : Int) + (y.data.length : Int)))).drew := (Kp.setCell (S := fun k => k = d) w5 ⟨d, 1, none⟩ _ rfl).trans (Kp.drew _ _) fid fid
 replace b6 : (w5.setCell ⟨d, 1, none⟩ (.int .i64 ((U : Int) + (y.data.length : Int)))).drew.heap[d]? = _ := b6
 generalize (w5.setCell ⟨d, 1, none⟩ (.int .i64 ((U : Int) + (y.data.length : Int)))).drew = w6 at b6 k56 ⊢
 have hd1 : w.heap.size + 1 ≤ d := hw d (mem_fpD.2 (.inl rfl))
 have hb1 : w.heap.size + 1 ≤ bm := hw bm (mem_fpD.2 (.inr (.inl rfl)))
 have hd2 : d < w2.heap.size := hX.lt d (mem_fpD.2 (.inl rfl))
 have hb2 : bm < w2.heap.size := hX.lt bm (mem_fpD.2 (.inr (.inl rfl)))
 have z1 := h23.size
 have z2 := h34.size
 have z3 := h45.size
 have z0 := hn.size
 have z4 : w3.heap.size < w4.heap.size := (Array.getElem?_eq_some_iff.1 g4).1
 have k26 : Kp (fun k => k = d ∨ k = bm) w2 w6 := ((h23.trans h34 fid fid).trans h45 (fun _ _ h => h.elim) fid).trans k56 (fun _ _ h => .inr h) (fun _ _ h => .inl h)
 have hu6 : DS.used ⟨cap, (l ++ [y]).map FI.fl, -1, false⟩ = U + y.data.length := by
  rw [← hU]
  exact usedI_snoc _ _
 have hy0 : ((y.syn.toNat : Nat) : Int) = y.syn := by
  have := hok.2 y (by simp)
  omega
 refine ⟨_, hX.pushAt (x := ⟨y.fl, w3.heap.size, A3, c3⟩) k26 ?_ ?_ ⟨?_, ?_⟩ ?_ ?_ ?_ hok.1, ?_, fun hlt => k26.block _ hlt (fun e => by omega), hn.trans k26 fid (fun i hi e => by omega)⟩
 ·have e : (dcells ⟨cap, l.map FI.fl, -1, false⟩ bm).setIfInBounds 1 (.int .i64 ((U : Int) + (y.data.length : Int))) = dcells ⟨cap, (l ++ [y]).map FI.fl, -1, false⟩ bm := by
   unfold dcells
   rw [hu6, Int.natCast_add]
   rfl
  exact e ▸ b6
 ·exact hm5.keep (k56.block bm hm5.lt (fun e => hX.no_d.1 e.symm))
 ·refine (k56.block w3.heap.size (by omega) (fun e => by omega)).trans ((h45.block w3.heap.size z4 (fun e => by omega)).trans (g4.trans ?_))
  unfold FE.cells FI.fl
  simp only [hy0]
 ·exact ((ho.new h34).kp h45 (fun j hj e => by have := hf3 j hj; omega)).kp k56 (fun j hj e => by have := hf3 j hj; omega)
 ·intro k hk
  rcases List.mem_cons.1 hk with rfl | hk
  ·exact z1
  ·exact hf3 k (mem_bks.1 hk)
 ·exact blk_nodup fun hb => by
   have : w3.heap.size < w3.heap.size := ho.lt _ hb
   omega
 ·simp only [List.map_append, List.map_cons, List.map_nil]
 ·intro j hj
  rcases mem_fpD.1 hj with rfl | rfl | ⟨x, hx, hb⟩
  ·exact hd1
  ·exact hb1
  ·rcases List.mem_append.1 hx with hx | hx
   ·exact hw j (mem_fpD.2 (.inr (.inr ⟨x, hx, hb⟩)))
   ·obtain rfl := List.mem_singleton.1 hx
    rcases hb with rfl | hb
    ·show w.heap.size + 1 ≤ w3.heap.size
     omega
    ·have := hf3 j hb
     omega
theorem DiskX.state {w w' : World} {d bm : Nat} {s s' : DS} {xs : List FE} (h : DiskX w d s bm xs) (hk : Kp (fun k => k = d) w w') (hb : w'.heap[d]? = some (.cells (dcells s' bm) 85 (0, 0))) (hf : s'.files = s.files) (ok : s'.Ok) : DiskX w' d s' bm xs :=
 ⟨hb, h.map.keep (hk.block bm h.map.lt (fun e => h.no_d.1 e.symm)), fun y hy => (h.file y hy).kp hk fun k hkk => (h.no_d.2 y hy k hkk).1, h.own, hf ▸ h.perm, ok⟩
theorem From_end {w w' : World} {d bm cap : Nat} {ys : List FI} {fuse : Int} {down : Bool} {xs : List FE} (h : DiskX w d ⟨cap, ys.map FI.fl, -1, false⟩ bm xs) (h1 : -1 ≤ fuse) (h2 : fuse ≤ 1048576) (h3 : down = true → fuse = -1) (hk : Kp (fun k => k = d) w w')
  (hb : w'.heap[d]? = some (.cells (((dcells ⟨cap, ys.map FI.fl, -1, false⟩ bm).setIfInBounds 3 (.int .i64 fuse)).setIfInBounds 4 (.bool down)) 85 (0, 0))) : DiskAt w' d ⟨cap, ys.map FI.fl, fuse, down⟩ (fpD d bm xs) :=
 ⟨bm, xs, h.state hk hb rfl ⟨h.ok.cap, h.ok.used, h.ok.few, h.ok.rise, h.ok.good, h.ok.syn, ⟨h1, h2⟩, h3⟩, rfl⟩
def Bx4 (w : World) (b : Nat) (cs : Array Value) (t : TypeId) : Prop := w.heap[b]? = some (.cells cs t (0, 0))
theorem Bx4.new_ (w : World) (o : Obj) : (w.alloc o).heap[w.heap.size]? = some o := heap_alloc_new w o
theorem heap_kp {w w' : World} {S : Nat → Prop} {b : Nat} {o : Obj} (h : w.heap[b]? = some o) (hk : Kp S w w') (hb : ¬ S b) : w'.heap[b]? = some o := (hk.block b (Array.getElem?_eq_some_iff.1 h).1 hb).trans h
def FromPost (w : World) (cap fuse : Int) (down : Bool) (ys : List FI) (e : Ending) (w' : World) : Prop :=
 (FromOk cap fuse down ys ∧ ∃ d F, e = .returned (.tuple #[.pointer (some ⟨d, 0, none⟩), .int .i64 0]) ∧ DiskAt w' d ⟨cap.toNat, ys.map FI.fl, fuse, down⟩ F ∧ New w w' ∧ (∀ k ∈ F, w.heap.size ≤ k)) ∨
 (¬ FromOk cap fuse down ys ∧ e = .returned (.tuple #[.pointer none, .int .i64 35]) ∧ New w w')
def RNewPost (w : World) (cap : Int) (e : Ending) (w' : World) : Prop :=
 (0 ≤ cap ∧ cap ≤ 1048576 ∧ ∃ r F, e = .returned (.tuple #[.pointer (some ⟨r, 0, none⟩), .int .i64 0]) ∧ RefAt w' r (DS.new cap.toNat) F ∧ New w w' ∧ (∀ k ∈ F, w.heap.size ≤ k)) ∨
 (¬ (0 ≤ cap ∧ cap ≤ 1048576) ∧ e = .returned (.tuple #[.pointer none, .int .i64 1]) ∧ New w w')
def RFromPost (w : World) (cap fuse : Int) (down : Bool) (ys : List FI) (e : Ending) (w' : World) : Prop :=
 (FromOk cap fuse down ys ∧ ∃ r F, e = .returned (.tuple #[.pointer (some ⟨r, 0, none⟩), .int .i64 0]) ∧ RefAt w' r ⟨cap.toNat, ys.map FI.fl, fuse, down⟩ F ∧ New w w' ∧ (∀ k ∈ F, w.heap.size ≤ k)) ∨
 (¬ FromOk cap fuse down ys ∧ e = .returned (.tuple #[.pointer none, .int .i64 35]) ∧ New w w')
set_option maxRecDepth 100000 in
set_option maxHeartbeats 2000000 in
theorem RNew_calls (w : World) (cap : Int) : Calls Tryz.prog 93 #[.int .i64 cap] w (RNewPost w cap) := by
 by_cases h1 : cap < 0
 ·have h1d : decide (cap < 0) = true := decide_eq_true h1
  have HN := Lib.hid (show ¬ (0 ≤ cap ∧ cap ≤ 1048576) by omega)
  clear h1
  go_enter Tryz.func93, Tryz.ntmps93
  go_wp2_with fail
  go_ret2
  exact .inr ⟨HN.out, rfl, Kp.refl _ _⟩
 ·have h1d : decide (cap < 0) = false := decide_eq_false h1
  by_cases h2 : 1048576 < cap
  ·have h2d : decide (1048576 < cap) = true := decide_eq_true h2
   have HN := Lib.hid (show ¬ (0 ≤ cap ∧ cap ≤ 1048576) by omega)
   clear h1 h2
   go_enter Tryz.func93, Tryz.ntmps93
   go_wp2_with fail
   go_ret2
   exact .inr ⟨HN.out, rfl, Kp.refl _ _⟩
  ·have h2d : decide (1048576 < cap) = false := decide_eq_false h2
   have HN := Lib.hid (And.intro (show 0 ≤ cap by omega) (show cap ≤ 1048576 by omega))
   clear h1 h2
   go_enter Tryz.func93, Tryz.ntmps93
   go_wp2_with fail
   go_ret2
   refine .inl ⟨HN.out.1, HN.out.2, w.heap.size, [w.heap.size], rfl, ⟨none, 0, [], ⟨?_, OwnN.nil _ _, by simp [nblks, bks, fblks], rfl, DS.Ok.new (by have := HN.out; omega)⟩, by simp [nblks, bks, fblks]⟩, Kp.alloc _ _ _, by simp⟩
   have := heap_alloc_new w (.cells #[.int .i64 cap, .slice none 0 0, .int .i64 (-1), .bool false] 93)
   rw [this]
   have e : ((DS.new cap.toNat).cap : Int) = cap := by have := HN.out.1; simp [DS.new]; omega
   rw [e]
   rfl
theorem RefX.copied {w : World} {r c : Nat} {s : DS} {A : Option Addr} {ys : List FV} (h : RefX w r s A c ys) : RdF w A ys ∧ ys.length ≤ 64 ∧ ∀ y ∈ ys, y.f.data.length ≤ 1048576 := by
 refine ⟨h.own.rd, h.few, fun y hy => ?_⟩
 have h1 := h.ok.used
 have h2 := h.ok.cap
 have hm : y.f ∈ s.files := h.files ▸ List.mem_map_of_mem hy
 have h3 : y.f.data.length ≤ s.used := by
  obtain ⟨l1, l2, he⟩ := List.append_of_mem hm
  unfold DS.used
  rw [he, used_app, used_cons]
  omega
 omega
set_option maxRecDepth 100000 in
set_option maxHeartbeats 2000000 in
theorem RState_calls (w : World) (r : Nat) (s : DS) (F : List Nat) (h : RefAt w r s F) : Calls Tryz.prog 15 #[.pointer (some ⟨r, 0, none⟩)] w (CopiedPost w s.cap s.fuse s.down s.files) := by
 obtain ⟨A, c, ys, hX, rfl⟩ := h
 rw [← hX.files]
 have c0 : w.cell? ⟨r, 0, none⟩ = some (.int .i64 (s.cap : Int)) := (cell_of_block hX.blk).trans rfl
 have c1 : w.cell? ⟨r, 1, none⟩ = some (.slice A ys.length c) := (cell_of_block hX.blk).trans rfl
 have c2 : w.cell? ⟨r, 2, none⟩ = some (.int .i64 s.fuse) := (cell_of_block hX.blk).trans rfl
 have c3 : w.cell? ⟨r, 3, none⟩ = some (.bool s.down) := (cell_of_block hX.blk).trans rfl
 have HX := Lib.hid hX
 clear hX
 go_enter Tryz.func15, Tryz.ntmps15
 have nW : New w (w.alloc (.cells #[.int .i64 0, .slice none 0 0, .int .i64 0, .bool false] 59)) := Kp.alloc _ _ _
 have d0 := nW.cell c0
 have d1 := nW.cell c1
 have d2 := nW.cell c2
 have d3 := nW.cell c3
 clear nW
 go_wp2_with fail
 obtain ⟨W, hW⟩ : ∃ W, w.alloc (.cells #[.int .i64 0, .slice none 0 0, .int .i64 0, .bool false] 59) = W := ⟨_, rfl⟩
 rw [hW]
 have nW : New w W := hW ▸ Kp.alloc _ _ _
 have bW : W.heap[w.heap.size]? = some (.cells #[.int .i64 0, .slice none 0 0, .int .i64 0, .bool false] 59 (0, 0)) := hW ▸ heap_alloc_new w _
 have zW : W.heap.size = w.heap.size + 1 := by rw [← hW]; simp
 have hcp := (HX.out.new nW).copied
 have HW := Lib.hid (And.intro nW (And.intro bW zW))
 have HC := Lib.hid hcp
 clear hW nW bW zW hcp c0 c1 c2 c3 d0 d1 d2 d3
 refine (Copied_calls W s.cap s.fuse s.down A c ys HC.out.1 HC.out.2.1 HC.out.2.2).mono ?_
 rintro e wr ⟨A1, c1, zs, rfl, ho, hz, hf, hn⟩
 have br := heap_kp HW.out.2.1 hn id
 have q0 : wr.cell? ⟨w.heap.size, 0, none⟩ = some (.int .i64 0) := (cell_of_block br).trans rfl
 have q1 : wr.cell? ⟨w.heap.size, 1, none⟩ = some (.slice none 0 0) := (cell_of_block br).trans rfl
 have q2 : wr.cell? ⟨w.heap.size, 2, none⟩ = some (.int .i64 0) := (cell_of_block br).trans rfl
 have q3 : wr.cell? ⟨w.heap.size, 3, none⟩ = some (.bool false) := (cell_of_block br).trans rfl
 have p0 : wr.frozen? ⟨w.heap.size, 0, none⟩ = false := by simp [World.frozen?, br]
 have p1 : wr.frozen? ⟨w.heap.size, 1, none⟩ = false := by simp [World.frozen?, br]
 have p2 : wr.frozen? ⟨w.heap.size, 2, none⟩ = false := by simp [World.frozen?, br]
 have p3 : wr.frozen? ⟨w.heap.size, 3, none⟩ = false := by simp [World.frozen?, br]
 have HZ := Lib.hid (And.intro ho (And.intro hz (And.intro hf (And.intro hn br))))
 clear ho hz hf hn br
 go_wp2_with fail
 have m0 := heap_setCell_row (j := 0) HZ.out.2.2.2.2 (.int .i64 (s.cap : Int))
 have m1 := heap_setCell_row (j := 1) m0 (.slice A1 zs.length c1)
 have m2 := heap_setCell_row (j := 2) m1 (.int .i64 s.fuse)
 have m3 := heap_setCell_row (j := 3) m2 (.bool s.down)
 have kk : Kp (fun j => j = w.heap.size) wr ((((wr.setCell ⟨w.heap.size, 0, none⟩ (.int .i64 (s.cap : Int))).setCell ⟨w.heap.size, 1, none⟩ (.slice A1 zs.length c1)).setCell ⟨w.heap.size, 2, none⟩ (.int .i64 s.fuse)).setCell ⟨w.heap.size, 3, none⟩ (.bool s.down)) :=
  (((Kp.setCell (S := fun j => j = w.heap.size) wr ⟨w.heap.size, 0, none⟩ _ rfl).trans (Kp.setCell (S := fun j => j = w.heap.size) _ ⟨w.heap.size, 1, none⟩ _ rfl) fid fid).trans (Kp.setCell (S := fun j => j = w.heap.size) _ ⟨w.heap.size, 2, none⟩ _ rfl) fid fid).trans (Kp.setCell (S := fun j => j = w.heap.size) _ ⟨w.heap.size, 3, none⟩ _ rfl) fid fid
 clear m0 m1 m2
 generalize ((((wr.setCell ⟨w.heap.size, 0, none⟩ (.int .i64 (s.cap : Int))).setCell ⟨w.heap.size, 1, none⟩ (.slice A1 zs.length c1)).setCell ⟨w.heap.size, 2, none⟩ (.int .i64 s.fuse)).setCell ⟨w.heap.size, 3, none⟩ (.bool s.down)) = wz at *
 have v0 : wz.cell? ⟨w.heap.size, 0, none⟩ = some (.int .i64 (s.cap : Int)) := (cell_of_block m3).trans rfl
 have v1 : wz.cell? ⟨w.heap.size, 1, none⟩ = some (.slice A1 zs.length c1) := (cell_of_block m3).trans rfl
 have v2 : wz.cell? ⟨w.heap.size, 2, none⟩ = some (.int .i64 s.fuse) := (cell_of_block m3).trans rfl
 have v3 : wz.cell? ⟨w.heap.size, 3, none⟩ = some (.bool s.down) := (cell_of_block m3).trans rfl
 have hzW := HW.out.2.2
 refine bodyPost_ret (v := .agg #[.int .i64 (s.cap : Int), .slice A1 zs.length c1, .int .i64 s.fuse, .bool s.down]) (by simp [results, Tryz.results15, go_sem, v0, v1, v2, v3]) rfl ⟨A1, c1, zs, rfl, HZ.out.1.kp kk (fun j hj e => ?_), HZ.out.2.1, fun j hj => ?_, ?_⟩
 ·have := HZ.out.2.2.1 j hj
  omega
 ·have := HZ.out.2.2.1 j hj
  omega
 ·exact (HW.out.1.trans HZ.out.2.2.2.1 fid fid).trans kk fid (fun _ hj e => by omega)
theorem FI.toV {ys : List FI} (h : ∀ y ∈ ys, 0 ≤ y.syn) : (ys.map fun y => (⟨y.fl, y.A, y.c⟩ : FV)).map FV.fi = ys := by
 rw [List.map_map]
 conv => rhs; rw [← List.map_id ys]
 refine List.map_congr_left fun y hy => ?_
 have := h y hy
 cases y
 simp only [Function.comp, FV.fi, FI.fl, id, FI.mk.injEq, true_and, and_true] at *
 omega
theorem RdI.toF {w : World} {A : Option Addr} {xs : List FV} (h : RdI w A (xs.map FV.fi)) : RdF w A xs := by
 refine ⟨fun hne => ?_, fun y hy => h.2 y.fi (List.mem_map_of_mem hy)⟩
 obtain ⟨b, off, rfl, hc⟩ := h.1 (by simpa using hne)
 refine ⟨b, off, rfl, fun j u hu => hc j u ?_⟩
 rw [List.flatMap_map]
 exact hu
def RChangePost (r : Nat) (F : List Nat) (w : World) (q : Nat × DS) (e : Ending) (w' : World) : Prop := e = .returned (.int .i64 (q.1 : Int)) ∧ ∃ F', RefAt w' r q.2 F' ∧ Mv F F' w w'
theorem OwnN.rows {t : TypeId} {w' : World} {A' : Option Addr} {c' z : Nat} {zs : List FV} (hr : Own w' t 3 A' c' zs.length (FV.flat zs)) (hf : ∀ k, Bk A' k → z ≤ k) (ho : ∀ y ∈ zs, Own w' 5 1 y.A y.c y.f.data.length (bcs y.f.data)) (hz : (fblks zs).Nodup) (hlt : ∀ k ∈ fblks zs, k < z) : OwnN t w' A' c' zs :=
 ⟨hr, ho, List.nodup_append.2 ⟨bks_nodup _, hz, fun a ha b hb e => by
  subst e
  have := hf a (mem_bks.1 ha)
  have := hlt a hb
  omega⟩⟩
theorem RefX.rows {w w' : World} {r c c' : Nat} {s s' : DS} {A A' : Option Addr} {ys zs : List FV} (h : RefX w r s A c ys) (n : New w w') (hr : Own w' 82 3 A' c' zs.length (FV.flat zs)) (hf : ∀ k, Bk A' k → w.heap.size ≤ k) (ho : ∀ y ∈ zs, Own w 5 1 y.A y.c y.f.data.length (bcs y.f.data)) (hz : (fblks zs).Nodup) (hrz : r ∉ fblks zs)
  (hcap : s'.cap = s.cap) (hfu : s'.fuse = s.fuse) (hdn : s'.down = s.down) (hfl : zs.map FV.f = s'.files) (ok : s'.Ok) : RefX (w'.setCell ⟨r, 1, none⟩ (.slice A' zs.length c')) r s' A' c' zs ∧ Kp (fun k => k = r) w (w'.setCell ⟨r, 1, none⟩ (.slice A' zs.length c')) := by
 have hrl : r < w.heap.size := h.lt r List.mem_cons_self
 have hb := heap_setCell_row (j := 1) (heap_kp h.blk n id) (.slice A' zs.length c')
 have k1 : Kp (fun k => k = r) w' (w'.setCell ⟨r, 1, none⟩ (.slice A' zs.length c')) := Kp.setCell _ _ _ rfl
 have hlt : ∀ k ∈ fblks zs, k < w.heap.size := fun k hk => by
  obtain ⟨y, hy, hb⟩ := mem_fblks.1 hk
  exact (ho y hy).lt k hb
 have hn : OwnN 82 w' A' c' zs := OwnN.rows hr hf (fun y hy => (ho y hy).new n) hz hlt
 have hout : r ∉ nblks A' zs := fun hm => by
  rcases List.mem_append.1 hm with hm | hm
  ·have := hf r (mem_bks.1 hm)
   omega
  ·exact hrz hm
 refine ⟨⟨?_, hn.kp k1 fun k hm e => hout (e ▸ hm), hout, hfl, ok⟩, n.trans k1 (fun _ _ h => h.elim) fid⟩
 rw [hb, hcap, hfu, hdn]
 rfl
theorem RefX.mv {w w' : World} {r c' : Nat} {s' : DS} {A A' : Option Addr} {ys zs : List FV} {S : Nat → Prop} (h : RefX w' r s' A' c' zs) (hk : Kp S w w') (hS : ∀ k, S k → k ∈ r :: nblks A ys) (hz : ∀ k ∈ nblks A' zs, k ∈ nblks A ys ∨ w.heap.size ≤ k) : ∃ F', RefAt w' r s' F' ∧ Mv (r :: nblks A ys) F' w w' :=
 ⟨_, ⟨A', c', zs, h, rfl⟩, hk.mono fun k _ hs => hS k hs, fun k hk => by
  rcases List.mem_cons.1 hk with rfl | hk
  ·exact .inl List.mem_cons_self
  ·exact (hz k hk).imp (List.mem_cons_of_mem _) id⟩
theorem RefX.same {w w' : World} {r c : Nat} {s' : DS} {A : Option Addr} {ys : List FV} (h : RefX w' r s' A c ys) (hk : Kp (fun k => k = r) w w') : ∃ F', RefAt w' r s' F' ∧ Mv (r :: nblks A ys) F' w w' :=
 h.mv hk (fun _ e => e ▸ List.mem_cons_self) fun _ hk => .inl hk
theorem RefX.one {w : World} {r c : Nat} {s : DS} {A : Option Addr} {ys : List FV} (h : RefX w r s A c ys) {y : FV} (hy : y ∈ ys) : Own w 5 1 y.A y.c y.f.data.length (bcs y.f.data) := h.own.2.1 y hy
theorem RefX.fnd {w : World} {r c : Nat} {s : DS} {A : Option Addr} {ys : List FV} (h : RefX w r s A c ys) : (fblks ys).Nodup := (List.nodup_append.1 h.own.2.2).2.1
theorem RefX.place {w : World} {r c : Nat} {s : DS} {A : Option Addr} {ys : List FV} (h : RefX w r s A c ys) {n : Nm} {f : Fl} (hf : s.find n = some f) : ∃ (i : Nat) (y : FV), ys[i]? = some y ∧ y.f = f ∧ f.name = n ∧ findZ s.files n = (i : Int) := by
 unfold DS.find at hf
 rw [← h.files] at hf ⊢
 exact findZ_some hf
theorem change_down {s : DS} {e : Nat} {h : DS → DS} (hd : s.down = true) : s.change e h = (34, s) := by unfold DS.change; rw [if_pos hd]
theorem change_err {s : DS} {e : Nat} {h : DS → DS} (hd : s.down = false) (he : e ≠ 0) : s.change e h = (e, s) := by unfold DS.change; rw [if_neg (by rw [hd]; simp), if_pos he]
theorem change_fuse {s : DS} {h : DS → DS} (hd : s.down = false) (hf : s.fuse = 0) : s.change 0 h = (34, s.power) := by unfold DS.change DS.power; rw [if_neg (by rw [hd]; simp), if_neg (by simp), if_pos hf, if_pos hf]
theorem change_go {s : DS} {h : DS → DS} (hd : s.down = false) (hf : s.fuse ≠ 0) : s.change 0 h = (0, h s.power) := by unfold DS.change DS.power; rw [if_neg (by rw [hd]; simp), if_neg (by simp), if_neg hf, if_neg hf]
theorem DS.power_down {s : DS} (hd : s.down = false) (hf : s.fuse ≠ 0) : s.power.down = false := by unfold DS.power; rw [if_neg hf]; exact hd
theorem DS.power_find (s : DS) (n : Nm) : s.power.find n = s.find n := by unfold DS.find; rw [DS.power_files]
theorem erase_out {ys : List FV} {i : Nat} {y : FV} {n : Nm} (hn : ((ys.map FV.f).map (·.name)).Nodup) (hy : ys[i]? = some y) (hyn : y.f.name = n) : (ys.eraseIdx i).map FV.f = outF n (ys.map FV.f) := by
 obtain ⟨hi, rfl⟩ := List.getElem?_eq_some_iff.1 hy
 have e : ys = ys.take i ++ ys[i] :: ys.drop (i + 1) := by rw [← List.drop_eq_getElem_cons hi, List.take_append_drop]
 have hne : ∀ g ∈ (ys.take i).map FV.f ++ (ys.drop (i + 1)).map FV.f, g.name ≠ n := by
  rw [e, List.map_append, List.map_cons] at hn
  have := nodup_of_map (f := Fl.name) hn rfl
  intro g hg
  rw [← hyn]
  exact this g hg
 rw [List.eraseIdx_eq_take_drop_succ, List.map_append]
 conv => rhs; rw [e, List.map_append, List.map_cons]
 exact (outF_cut hyn hne).symm
set_option maxRecDepth 100000 in
set_option maxHeartbeats 4000000 in
theorem RRemove_calls (w : World) (r : Nat) (s : DS) (F : List Nat) (n : Nm) (h : RefAt w r s F) (hn : n.length ≤ 9223372036854775807) :
  Calls Tryz.prog 107 #[.pointer (some ⟨r, 0, none⟩), .string (bstr n)] w (RChangePost r F w (s.remove n)) := by
 obtain ⟨A, c, ys, hX, rfl⟩ := h
 have c1 : w.cell? ⟨r, 1, none⟩ = some (.slice A ys.length c) := (cell_of_block hX.blk).trans rfl
 have c3 : w.cell? ⟨r, 3, none⟩ = some (.bool s.down) := (cell_of_block hX.blk).trans rfl
 have hfew := hX.few
 have HX := Lib.hid hX
 clear hX
 have HR := Lib.hid (show ∀ q e w', q = s.remove n → RChangePost r (r :: nblks A ys) w q e w' → RChangePost r (r :: nblks A ys) w (s.remove n) e w' from fun _ _ _ h h' => h ▸ h')
 cases hdn : s.down with
 | true =>
  rw [hdn] at c3
  have HD := Lib.hid (show (34, s) = s.remove n from (change_down hdn).symm)
  clear hdn
  go_enter Tryz.func107, Tryz.ntmps107
  go_wp2_with fail
  go_ret
  exact HR.out _ _ _ HD.out ⟨rfl, HX.out.same (Kp.refl _ _)⟩
 | false =>
  rw [hdn] at c3
  have HD := Lib.hid hdn
  clear hdn
  by_cases ht : s.there n = 0
  ·obtain ⟨hg, fl, hfl⟩ := there_zero ht
   obtain ⟨i, y, hy, hyf, hyn, hz⟩ := HX.out.place hfl
   have hpz : placeZ s n = (i : Int) := by unfold placeZ; rw [if_pos ht]; exact hz
   subst hyf
   have HT := Lib.hid (And.intro ht (And.intro hpz (And.intro hy (And.intro hfl hyn))))
   have hil : i < ys.length := (List.getElem?_eq_some_iff.1 hy).1
   have hi0 : (0 : Int) ≤ i := by omega
   have hin : (i : Int) < (ys.length : Int) := by omega
   clear ht hg hfl hy hyn hz hpz
   by_cases hfu : s.fuse = 0
   ·have HM := Lib.hid (show (34, s.power) = s.remove n from (by unfold DS.remove; rw [HT.out.1]; exact (change_fuse HD.out hfu).symm))
    have HF := Lib.hid (show (!decide (s.fuse = 0)) = false by rw [hfu]; rfl)
    clear hfu
    go_enter Tryz.func107, Tryz.ntmps107
    go_wp2_with fail
    refine (RThere_calls w r c s A ys n HX.out hn).mono ?_
    rintro e x ⟨rfl, rfl⟩
    rw [HT.out.1, HT.out.2.1]
    go_wp2_with fail
    refine (RPower_calls w r c s A ys HX.out HD.out).mono ?_
    rintro e w1 ⟨rfl, hx1, k1⟩
    rw [HF.out]
    have H1 := Lib.hid (And.intro hx1 k1)
    clear hx1 k1
    go_wp2_with fail
    go_ret
    exact HR.out _ _ _ HM.out ⟨rfl, H1.out.1.same H1.out.2⟩
   ·have HM := Lib.hid (show (0, (fun s => { s with files := outF n s.files }) s.power) = s.remove n from (by unfold DS.remove; rw [HT.out.1]; exact (change_go (h := (fun s => { s with files := outF n s.files })) HD.out hfu).symm))
    have HF := Lib.hid (And.intro (show (!decide (s.fuse = 0)) = true by rw [decide_eq_false hfu]; rfl) hfu)
    clear hfu
    go_enter Tryz.func107, Tryz.ntmps107
    go_wp2_with fail
    refine (RThere_calls w r c s A ys n HX.out hn).mono ?_
    rintro e x ⟨rfl, rfl⟩
    rw [HT.out.1, HT.out.2.1]
    go_wp2_with fail
    refine (RPower_calls w r c s A ys HX.out HD.out).mono ?_
    rintro e w1 ⟨rfl, hx1, k1⟩
    rw [HF.out.1]
    have d1 : w1.cell? ⟨r, 1, none⟩ = some (.slice A ys.length c) := (cell_of_block hx1.blk).trans rfl
    have z1 : w1.frozen? ⟨r, 1, none⟩ = false := by simp [World.frozen?, hx1.blk]
    have H1 := Lib.hid (And.intro hx1 k1)
    clear hx1 k1 c1 c3
    go_wp2_with fail
    refine (RWithout_calls w1 A c i ys H1.out.1.own.rd hfew (by omega)).mono ?_
    rintro e w2 ⟨A2, c2, rfl, o2, n2, f2⟩
    have e1 := n2.cell d1
    have e2 : w2.frozen? ⟨r, 1, none⟩ = false := by simp [World.frozen?, heap_kp H1.out.1.blk n2 id]
    have H2 := Lib.hid (And.intro o2 (And.intro n2 f2))
    clear o2 n2 f2 d1 z1
    go_wp2_with fail
    go_ret
    have hsub : (ys.eraseIdx i).Sublist ys := List.eraseIdx_sublist _ _
    have hfs := fblks_sub hsub
    have hf : (ys.eraseIdx i).map FV.f = outF n s.power.files := by
     rw [DS.power_files, ← HX.out.files]
     exact erase_out (by rw [HX.out.files]; exact Rise.nodup HX.out.ok.rise) HT.out.2.2.1 HT.out.2.2.2.2
    have hx := H1.out.1.rows (s' := { s.power with files := outF n s.power.files }) H2.out.2.1 H2.out.1 H2.out.2.2 (fun y hy => H1.out.1.one (hsub.subset hy)) (hfs.nodup H1.out.1.fnd) (fun hm => H1.out.1.out (List.mem_append_right _ (hfs.subset hm))) rfl rfl rfl hf ((HX.out.ok.power HD.out).out n)
    exact HR.out _ _ _ HM.out ⟨rfl, hx.1.mv (H1.out.2.trans hx.2 fid fid) (fun _ e => e ▸ List.mem_cons_self) fun k hk => by
     rcases List.mem_append.1 hk with hk | hk
     ·have := H2.out.2.2 k (mem_bks.1 hk)
      have := H1.out.2.size
      exact .inr (by omega)
     ·exact .inl (List.mem_append_right _ (hfs.subset hk))⟩
  ·have ht2 : (s.there n : Int) ≠ 0 := by omega
   obtain ⟨t, htt⟩ : ∃ t, s.there n = t := ⟨_, rfl⟩
   have HM := Lib.hid (show (t, s) = s.remove n from (by unfold DS.remove; rw [htt]; exact (change_err HD.out (by omega)).symm))
   have HT := Lib.hid htt
   have ht3 : ((t : Int) != 0) = true := by simpa [htt] using ht2
   have ht4 : ¬ (t : Int) = 0 := by omega
   clear ht ht2 htt
   go_enter Tryz.func107, Tryz.ntmps107
   go_wp2_with fail
   refine (RThere_calls w r c s A ys n HX.out hn).mono ?_
   rintro e x ⟨rfl, rfl⟩
   rw [HT.out]
   generalize placeZ s n = pz
   go_wp2_with fail
   go_ret
   exact HR.out _ _ _ HM.out ⟨rfl, HX.out.same (Kp.refl _ _)⟩
theorem fblks_put {ys zs : List FV} {f y : FV} {i : Nat} (hA : f.A = y.A) (hy : ys[i]? = some y) (hs : zs.Sublist (ys.eraseIdx i)) (hn : (fblks ys).Nodup) : (fblks (putAll f zs)).Nodup ∧ ∀ k ∈ fblks (putAll f zs), k ∈ fblks ys := by
 obtain ⟨hi, rfl⟩ := List.getElem?_eq_some_iff.1 hy
 have hp : (ys[i] :: ys.eraseIdx i).Perm ys := by
  have e : ys = ys.take i ++ ys[i] :: ys.drop (i + 1) := by rw [← List.drop_eq_getElem_cons hi, List.take_append_drop]
  rw [List.eraseIdx_eq_take_drop_succ]
  conv => rhs; rw [e]
  exact List.perm_middle.symm
 have hc : ∀ (q : FV) (ys : List FV), fblks (q :: ys) = bks q.A ++ fblks ys := fun q ys => by simp [fblks]
 have h1 : (fblks (putAll f zs)).Perm (bks f.A ++ fblks zs) := by
  rw [← hc]
  exact (putAll_perm f zs).flatMap_right (fun y : FV => bks y.A)
 have h2 : (fblks (ys[i] :: ys.eraseIdx i)).Perm (fblks ys) := hp.flatMap_right (fun y : FV => bks y.A)
 rw [hc] at h2
 have h3 : (bks f.A ++ fblks zs).Sublist (bks ys[i].A ++ fblks (ys.eraseIdx i)) := by
  rw [hA]
  exact (List.Sublist.refl _).append (fblks_sub hs)
 exact ⟨h1.nodup_iff.2 (h3.nodup (h2.nodup_iff.2 hn)), fun k hk => h2.subset (h3.subset (h1.subset hk))⟩
theorem moved_eq {s : DS} {a b : Nm} {f : Fl} (hf : s.find a = some f) (hab : a ≠ b) : moved a b s.files = ins { f with name := b } (outF b (outF a s.files)) := by
 unfold moved
 rw [if_neg hab, show s.files.find? (fun f => f.name == a) = some f from hf]
set_option maxRecDepth 100000 in
set_option maxHeartbeats 4000000 in
theorem RRename_calls (w : World) (r : Nat) (s : DS) (F : List Nat) (a b : Nm) (h : RefAt w r s F) (hn : a.length ≤ 9223372036854775807) (hnb : b.length ≤ 9223372036854775807) :
  Calls Tryz.prog 105 #[.pointer (some ⟨r, 0, none⟩), .string (bstr a), .string (bstr b)] w (RChangePost r F w (s.rename a b)) := by
 have hmo : Tryz.prog.follows Departure.mixedOrders = true := by kernel_rfl
 obtain ⟨A, c, ys, hX, rfl⟩ := h
 have c1 : w.cell? ⟨r, 1, none⟩ = some (.slice A ys.length c) := (cell_of_block hX.blk).trans rfl
 have c3 : w.cell? ⟨r, 3, none⟩ = some (.bool s.down) := (cell_of_block hX.blk).trans rfl
 have hfew := hX.few
 have HX := Lib.hid hX
 clear hX
 have HR := Lib.hid (show ∀ q e w', q = s.rename a b → RChangePost r (r :: nblks A ys) w q e w' → RChangePost r (r :: nblks A ys) w (s.rename a b) e w' from fun _ _ _ h h' => h ▸ h')
 cases hdn : s.down with
 | true =>
  rw [hdn] at c3
  have HD := Lib.hid (show (34, s) = s.rename a b from (change_down hdn).symm)
  clear hdn
  go_enter Tryz.func105, Tryz.ntmps105
  go_wp2_with fail
  go_ret
  exact HR.out _ _ _ HD.out ⟨rfl, HX.out.same (Kp.refl _ _)⟩
 | false =>
  rw [hdn] at c3
  have HD := Lib.hid hdn
  clear hdn
  by_cases hga : goodN a = true
  ·by_cases hgb : goodN b = true
   ·have HG := Lib.hid (And.intro hga hgb)
    have hre : s.rename a b = s.change (if (s.find a).isSome = true then 0 else 31) (fun s => { s with files := moved a b s.files }) := by unfold DS.rename DS.there; rw [if_pos hgb, if_pos hga]
    clear hga hgb
    rcases findZ_or s.files a with ⟨hz, hnf⟩ | ⟨hz, hnf⟩
    ·have HM := Lib.hid (show (31, s) = s.rename a b from (by rw [hre]; unfold DS.find; rw [hnf, if_neg (by simp)]; exact (change_err HD.out (by decide)).symm))
     have HZA := Lib.hid hz
     clear hz hnf hre
     go_enter Tryz.func105, Tryz.ntmps105
     go_wp2_with fail
     refine (RName_calls w a hn).mono ?_
     rintro e x ⟨rfl, rfl⟩
     rw [HG.out.1]
     go_wp2_with fail
     refine (RName_calls w b hnb).mono ?_
     rintro e x ⟨rfl, rfl⟩
     rw [HG.out.2]
     go_wp2_with fail
     refine (RAt_calls w r c s A ys a HX.out).mono ?_
     rintro e x ⟨rfl, rfl⟩
     rw [HZA.out]
     go_wp2_with fail
     go_ret
     exact HR.out _ _ _ HM.out ⟨rfl, HX.out.same (Kp.refl _ _)⟩
    ·obtain ⟨fl, hfl⟩ := Option.isSome_iff_exists.1 hnf
     obtain ⟨i, y, hy, hyf, hyn, hzi⟩ := HX.out.place (n := a) hfl
     subst hyf
     have hre2 : s.rename a b = s.change 0 (fun s => { s with files := moved a b s.files }) := by rw [hre, if_pos (show (s.find a).isSome = true from hnf)]
     have HZA := Lib.hid hzi
     have HT := Lib.hid (And.intro hzi (And.intro hy (And.intro hfl hyn)))
     have hil : i < ys.length := (List.getElem?_eq_some_iff.1 hy).1
     have hi0 : (0 : Int) ≤ i := by omega
     have hin : (i : Int) < (ys.length : Int) := by omega
     clear hz hnf hfl hy hyn hzi hre
     by_cases hfu : s.fuse = 0
     ·have HM := Lib.hid (show (34, s.power) = s.rename a b from (by rw [hre2]; exact (change_fuse HD.out hfu).symm))
      have HF := Lib.hid (show (!decide (s.fuse = 0)) = false by rw [hfu]; rfl)
      clear hfu hre2
      go_enter Tryz.func105, Tryz.ntmps105
      go_wp2_with fail
      refine (RName_calls w a hn).mono ?_
      rintro e x ⟨rfl, rfl⟩
      rw [HG.out.1]
      go_wp2_with fail
      refine (RName_calls w b hnb).mono ?_
      rintro e x ⟨rfl, rfl⟩
      rw [HG.out.2]
      go_wp2_with fail
      refine (RAt_calls w r c s A ys a HX.out).mono ?_
      rintro e x ⟨rfl, rfl⟩
      rw [HZA.out]
      go_wp2_with fail
      refine (RPower_calls w r c s A ys HX.out HD.out).mono ?_
      rintro e w1 ⟨rfl, hx1, k1⟩
      rw [HF.out]
      have H1 := Lib.hid (And.intro hx1 k1)
      clear hx1 k1
      go_wp2_with fail
      go_ret
      exact HR.out _ _ _ HM.out ⟨rfl, H1.out.1.same H1.out.2⟩
     ·have HM := Lib.hid (show (0, { s.power with files := moved a b s.power.files }) = s.rename a b from (by rw [hre2]; exact (change_go (h := fun s => { s with files := moved a b s.files }) HD.out hfu).symm))
      have HF := Lib.hid (And.intro (show (!decide (s.fuse = 0)) = true by rw [decide_eq_false hfu]; rfl) hfu)
      clear hfu hre2
      by_cases hab : a = b
      ·have hsame : ({ s.power with files := moved a b s.power.files } : DS) = s.power := by unfold moved; rw [if_pos hab]
       have hb : ((bstr a).toList == (bstr b).toList) = true := by rw [bstr_beq, decide_eq_true hab]
       have HM2 := Lib.hid (show (0, s.power) = s.rename a b from (by rw [← HM.out, hsame]))
       clear hsame hab
       go_enter Tryz.func105, Tryz.ntmps105
       go_wp2_with fail
       refine (RName_calls w a hn).mono ?_
       rintro e x ⟨rfl, rfl⟩
       rw [HG.out.1]
       go_wp2_with fail
       refine (RName_calls w b hnb).mono ?_
       rintro e x ⟨rfl, rfl⟩
       rw [HG.out.2]
       go_wp2_with fail
       refine (RAt_calls w r c s A ys a HX.out).mono ?_
       rintro e x ⟨rfl, rfl⟩
       rw [HZA.out]
       go_wp2_with fail
       refine (RPower_calls w r c s A ys HX.out HD.out).mono ?_
       rintro e w1 ⟨rfl, hx1, k1⟩
       rw [HF.out.1]
       have H1 := Lib.hid (And.intro hx1 k1)
       clear hx1 k1
       go_wp2_with fail
       go_ret
       exact HR.out _ _ _ HM2.out ⟨rfl, H1.out.1.same H1.out.2⟩
      ·have hb := bstr_ne hab
       have HAB := Lib.hid hab
       clear hab
       have hfe : (ys.eraseIdx i).map FV.f = outF a s.power.files := by
        rw [DS.power_files, ← HX.out.files]
        exact erase_out (by rw [HX.out.files]; exact Rise.nodup HX.out.ok.rise) HT.out.2.1 HT.out.2.2.2
       rcases findZ_or (outF a s.power.files) b with ⟨hj, hjn⟩ | ⟨_, hjn⟩
       ·have HJ := Lib.hid (And.intro hj hjn)
        clear hj hjn hfe
        go_enter Tryz.func105, Tryz.ntmps105
        go_wp2_with fail
        refine (RName_calls w a hn).mono ?_
        rintro e x ⟨rfl, rfl⟩
        rw [HG.out.1]
        go_wp2_with fail
        refine (RName_calls w b hnb).mono ?_
        rintro e x ⟨rfl, rfl⟩
        rw [HG.out.2]
        go_wp2_with fail
        refine (RAt_calls w r c s A ys a HX.out).mono ?_
        rintro e x ⟨rfl, rfl⟩
        rw [HZA.out]
        go_wp2_with fail
        refine (RPower_calls w r c s A ys HX.out HD.out).mono ?_
        rintro e w1 ⟨rfl, hx1, k1⟩
        rw [HF.out.1]
        have d1 : w1.cell? ⟨r, 1, none⟩ = some (.slice A ys.length c) := (cell_of_block hx1.blk).trans rfl
        obtain ⟨g, hgA, r0, r1, r2, rf⟩ := hx1.own.at_ HT.out.2.1
        have nA : New w1 (w1.alloc (.cells #[.string (bstr b), .slice y.A y.f.data.length y.c, .int .i64 (y.f.syn : Int)] 82)) := Kp.alloc _ _ _
        have d1a := New.cell nA d1
        have H1 := Lib.hid (And.intro hx1 k1)
        clear hx1 k1 c1 c3 rf nA
        have HA := Lib.hid hgA
        rw [hgA] at d1
        rw [hgA] at d1a
        clear hgA
        go_wp2_with fail
        obtain ⟨W, hW⟩ : ∃ W, w1.alloc (.cells #[.string (bstr b), .slice y.A y.f.data.length y.c, .int .i64 (y.f.syn : Int)] 82) = W := ⟨_, rfl⟩
        rw [hW]
        have nW : New w1 W := hW ▸ Kp.alloc _ _ _
        have bW := hW ▸ heap_alloc_new w1 (.cells #[.string (bstr b), .slice y.A y.f.data.length y.c, .int .i64 (y.f.syn : Int)] 82)
        have HW := Lib.hid (And.intro nW (And.intro bW (H1.out.1.new nW)))
        clear hW nW bW d1 d1a r0 r1 r2
        rw [← HA.out]
        refine (RWithout_calls W A c i ys HW.out.2.2.own.rd hfew (by omega)).mono ?_
        rintro e w2 ⟨A2, c2, rfl, o2, n2, f2⟩
        have e1 : w2.cell? ⟨r, 1, none⟩ = some (.slice A ys.length c) := (cell_of_block (heap_kp HW.out.2.2.blk n2 id)).trans rfl
        have e2 : w2.frozen? ⟨r, 1, none⟩ = false := by simp [World.frozen?, heap_kp HW.out.2.2.blk n2 id]
        have hf : (ys.eraseIdx i).map FV.f = outF a s.power.files := by
         rw [DS.power_files, ← HX.out.files]
         exact erase_out (by rw [HX.out.files]; exact Rise.nodup HX.out.ok.rise) HT.out.2.1 HT.out.2.2.2
        have hsub : (ys.eraseIdx i).Sublist ys := List.eraseIdx_sublist _ _
        have hfs := fblks_sub hsub
        have hx2 := HW.out.2.2.rows (s' := { s.power with files := outF a s.power.files }) n2 o2 f2 (fun y hy => HW.out.2.2.one (hsub.subset hy)) (hfs.nodup H1.out.1.fnd) (fun hm => H1.out.1.out (List.mem_append_right _ (hfs.subset hm))) rfl rfl rfl hf ((HX.out.ok.power HD.out).out a)
        have hbx : (w2.setCell ⟨r, 1, none⟩ (.slice A2 (ys.eraseIdx i).length c2)).heap[w1.heap.size]? = _ := heap_kp (heap_kp HW.out.2.1 n2 id) (Kp.setCell (S := fun k => k = r) w2 ⟨r, 1, none⟩ (.slice A2 (ys.eraseIdx i).length c2) rfl) (fun e => by have := H1.out.1.lt r List.mem_cons_self; omega)
        have HY := Lib.hid (And.intro hx2.1 (And.intro hx2.2 hbx))
        clear hx2 hbx hf hsub hfs o2 n2 f2
        go_wp2_with fail
        refine (RAt_calls _ r c2 _ A2 (ys.eraseIdx i) b HY.out.1).mono ?_
        rintro e x ⟨rfl, rfl⟩
        clear e1 e2
        have hkk := HY.out.2.1
        have HYY := Lib.hid (And.intro HY.out (And.intro hkk True.intro))
        clear HY hkk
        generalize hw3 : w2.setCell ⟨r, 1, none⟩ (.slice A2 (ys.eraseIdx i).length c2) = w3 at *
        have HY := Lib.hid HYY.out.1
        clear HYY hw3
        rw [show findZ ({ s.power with files := outF a s.power.files } : DS).files b = -1 from HJ.out.1]
        have d1 : w3.cell? ⟨r, 1, none⟩ = some (.slice A2 (ys.eraseIdx i).length c2) := (cell_of_block HY.out.1.blk).trans rfl
        have bx0 : w3.cell? ⟨w1.heap.size, 0, none⟩ = some (.string (bstr b)) := (cell_of_block HY.out.2.2).trans rfl
        have bx1 : w3.cell? ⟨w1.heap.size, 1, none⟩ = some (.slice y.A y.f.data.length y.c) := (cell_of_block HY.out.2.2).trans rfl
        have bx2 : w3.cell? ⟨w1.heap.size, 2, none⟩ = some (.int .i64 (y.f.syn : Int)) := (cell_of_block HY.out.2.2).trans rfl
        go_wp2_with fail
        refine wp_region_line (fun w' => w'.cell? ⟨r, 1, none⟩ = some (.slice A2 (ys.eraseIdx i).length c2) ∧ w'.cell? ⟨w1.heap.size, 0, none⟩ = some (.string (bstr b)) ∧ w'.cell? ⟨w1.heap.size, 1, none⟩ = some (.slice y.A y.f.data.length y.c) ∧ w'.cell? ⟨w1.heap.size, 2, none⟩ = some (.int .i64 (y.f.syn : Int))) (pl := [(0, true), (1, true), (2, true), (3, true), (4, true), (5, true), (6, true), (7, false), (8, true), (9, true), (10, true), (11, false)]) hmo (by kernel_rfl) ⟨by simpa using d1, by simpa using bx0, by simpa using bx1, by simpa using bx2⟩ ?_
        iterate 7 (refine line_get rfl rfl (fun K hK => ?_); apply Exists.intro; refine ⟨fun w s => ?_, ?_⟩; (first | (have q := s rfl; go_simp; with_reducible rfl) | (go_simp; with_reducible rfl)); (go_simp; refine hK _ ?_; clear hK K))
        (refine line_do rfl rfl (fun K hK => ?_); go_simp)
        have nd : New w3 w3.drew := Kp.drew _ _
        have hq := (HY.out.1.new nd)
        have HQ := Lib.hid (And.intro hq nd)
        clear hq nd d1 bx0 bx1 bx2
        refine (RPut_calls _ A2 c2 (ys.eraseIdx i) ⟨⟨b, y.f.data, y.f.syn⟩, y.A, y.c⟩ HQ.out.1.own.rd (Nat.le_trans (List.Sublist.refl (ys.eraseIdx i)).length_le (Nat.le_trans (List.eraseIdx_sublist ys i).length_le hfew))).mono ?_
        rintro e wp ⟨Ap, cp, rfl, op, np, fp⟩
        have e1 : wp.frozen? ⟨r, 1, none⟩ = false := by simp [World.frozen?, heap_kp HQ.out.1.blk np id]
        have e2 : wp.cell? ⟨r, 1, none⟩ = some (.slice A2 (ys.eraseIdx i).length c2) := (cell_of_block (heap_kp HQ.out.1.blk np id)).trans rfl
        have HP := Lib.hid (And.intro op (And.intro np fp))
        clear op np fp
        refine hK _ _ (no_need (by kernel_rfl)) ?_
        clear hK K
        iterate 3 (refine line_get rfl rfl (fun K hK => ?_); apply Exists.intro; refine ⟨fun w s => ?_, ?_⟩; (first | (have q := s rfl; go_simp; with_reducible rfl) | (go_simp; with_reducible rfl)); (go_simp; refine hK _ ?_; clear hK K))
        (refine line_do rfl rfl (fun K hK => ?_); go_simp)
        refine hK _ _ (no_need (by kernel_rfl)) ?_
        clear hK K
        refine line_nil ?_
        go_wp2_with fail
        go_ret
        have hfb := fblks_put (f := ⟨⟨b, y.f.data, y.f.syn⟩, y.A, y.c⟩) (y := y) rfl HT.out.2.1 (List.Sublist.refl (ys.eraseIdx i)) H1.out.1.fnd
        have hyo : Own w3.drew 5 1 y.A y.c y.f.data.length (bcs y.f.data) := (((H1.out.1.one (List.mem_of_getElem? HT.out.2.1)).new HW.out.1).kp HY.out.2.1 (fun k hb e => H1.out.1.out (e ▸ List.mem_append_right _ (mem_fblks.2 ⟨y, List.mem_of_getElem? HT.out.2.1, hb⟩)))).new HQ.out.2
        have hf : (putAll ⟨⟨b, y.f.data, y.f.syn⟩, y.A, y.c⟩ (ys.eraseIdx i)).map FV.f = moved a b s.power.files := by
         rw [putAll_f, HY.out.1.files, moved_eq (s := s.power) ((DS.power_find s a).trans HT.out.2.2.1) HAB.out, show outF b (outF a s.power.files) = outF a s.power.files from outF_none HJ.out.2]
        have hx := HQ.out.1.rows (s' := { s.power with files := moved a b s.power.files }) HP.out.2.1 HP.out.1 HP.out.2.2 (fun z hz => (List.mem_cons.1 ((putAll_perm _ _).subset hz)).elim (fun e => by subst e; exact hyo) (fun hz => HQ.out.1.one hz)) hfb.1 (fun hm => H1.out.1.out (List.mem_append_right _ (hfb.2 _ hm))) rfl rfl rfl hf ((HX.out.ok.power HD.out).moved a b HG.out.2)
        have kq : Kp (fun k => k = r) w w3 := (H1.out.2.trans HW.out.1 fid (fun _ _ h => h.elim)).trans HY.out.2.1 fid fid
        have hz1 := kq.size
        exact HR.out _ _ _ HM.out ⟨rfl, hx.1.mv ((kq.trans HQ.out.2 fid (fun _ _ h => h.elim)).trans hx.2 fid fid) (fun _ e => e ▸ List.mem_cons_self) fun k hk => by
         rcases List.mem_append.1 hk with hk | hk
         ·have := HP.out.2.2 k (mem_bks.1 hk)
          have := HQ.out.2.size
          exact .inr (by omega)
         ·exact .inl (List.mem_append_right _ (hfb.2 k hk))⟩
       ·obtain ⟨gl, hgl⟩ := Option.isSome_iff_exists.1 hjn
        have hjj : ∃ (j : Nat) (z : FV), (ys.eraseIdx i)[j]? = some z ∧ z.f = gl ∧ gl.name = b ∧ findZ ((ys.eraseIdx i).map FV.f) b = (j : Int) := findZ_some (by rw [hfe]; exact hgl)
        obtain ⟨j, z, hz, hzf, hzn, hjz⟩ := hjj
        rw [hfe] at hjz
        have hjl : j < (ys.eraseIdx i).length := (List.getElem?_eq_some_iff.1 hz).1
        have HJ := Lib.hid (show findZ (outF a s.power.files) b = (j : Int) ∧ j < (ys.eraseIdx i).length ∧ ∃ z : FV, (ys.eraseIdx i)[j]? = some z ∧ z.f.name = b from ⟨hjz, hjl, z, hz, by rw [hzf]; exact hzn⟩)
        clear hjn hgl hz hzf hzn hjz hjl hfe
        go_enter Tryz.func105, Tryz.ntmps105
        go_wp2_with fail
        refine (RName_calls w a hn).mono ?_
        rintro e x ⟨rfl, rfl⟩
        rw [HG.out.1]
        go_wp2_with fail
        refine (RName_calls w b hnb).mono ?_
        rintro e x ⟨rfl, rfl⟩
        rw [HG.out.2]
        go_wp2_with fail
        refine (RAt_calls w r c s A ys a HX.out).mono ?_
        rintro e x ⟨rfl, rfl⟩
        rw [HZA.out]
        go_wp2_with fail
        refine (RPower_calls w r c s A ys HX.out HD.out).mono ?_
        rintro e w1 ⟨rfl, hx1, k1⟩
        rw [HF.out.1]
        have d1 : w1.cell? ⟨r, 1, none⟩ = some (.slice A ys.length c) := (cell_of_block hx1.blk).trans rfl
        obtain ⟨g, hgA, r0, r1, r2, rf⟩ := hx1.own.at_ HT.out.2.1
        have nA : New w1 (w1.alloc (.cells #[.string (bstr b), .slice y.A y.f.data.length y.c, .int .i64 (y.f.syn : Int)] 82)) := Kp.alloc _ _ _
        have d1a := New.cell nA d1
        have H1 := Lib.hid (And.intro hx1 k1)
        clear hx1 k1 c1 c3 rf nA
        have HA := Lib.hid hgA
        rw [hgA] at d1
        rw [hgA] at d1a
        clear hgA
        go_wp2_with fail
        obtain ⟨W, hW⟩ : ∃ W, w1.alloc (.cells #[.string (bstr b), .slice y.A y.f.data.length y.c, .int .i64 (y.f.syn : Int)] 82) = W := ⟨_, rfl⟩
        rw [hW]
        have nW : New w1 W := hW ▸ Kp.alloc _ _ _
        have bW := hW ▸ heap_alloc_new w1 (.cells #[.string (bstr b), .slice y.A y.f.data.length y.c, .int .i64 (y.f.syn : Int)] 82)
        have HW := Lib.hid (And.intro nW (And.intro bW (H1.out.1.new nW)))
        clear hW nW bW d1 d1a r0 r1 r2
        rw [← HA.out]
        refine (RWithout_calls W A c i ys HW.out.2.2.own.rd hfew (by omega)).mono ?_
        rintro e w2 ⟨A2, c2, rfl, o2, n2, f2⟩
        have e1 : w2.cell? ⟨r, 1, none⟩ = some (.slice A ys.length c) := (cell_of_block (heap_kp HW.out.2.2.blk n2 id)).trans rfl
        have e2 : w2.frozen? ⟨r, 1, none⟩ = false := by simp [World.frozen?, heap_kp HW.out.2.2.blk n2 id]
        have hf : (ys.eraseIdx i).map FV.f = outF a s.power.files := by
         rw [DS.power_files, ← HX.out.files]
         exact erase_out (by rw [HX.out.files]; exact Rise.nodup HX.out.ok.rise) HT.out.2.1 HT.out.2.2.2
        have hsub : (ys.eraseIdx i).Sublist ys := List.eraseIdx_sublist _ _
        have hfs := fblks_sub hsub
        have hx2 := HW.out.2.2.rows (s' := { s.power with files := outF a s.power.files }) n2 o2 f2 (fun y hy => HW.out.2.2.one (hsub.subset hy)) (hfs.nodup H1.out.1.fnd) (fun hm => H1.out.1.out (List.mem_append_right _ (hfs.subset hm))) rfl rfl rfl hf ((HX.out.ok.power HD.out).out a)
        have hbx : (w2.setCell ⟨r, 1, none⟩ (.slice A2 (ys.eraseIdx i).length c2)).heap[w1.heap.size]? = _ := heap_kp (heap_kp HW.out.2.1 n2 id) (Kp.setCell (S := fun k => k = r) w2 ⟨r, 1, none⟩ (.slice A2 (ys.eraseIdx i).length c2) rfl) (fun e => by have := H1.out.1.lt r List.mem_cons_self; omega)
        have HY := Lib.hid (And.intro hx2.1 (And.intro hx2.2 hbx))
        clear hx2 hbx hf hsub hfs o2 n2 f2
        go_wp2_with fail
        refine (RAt_calls _ r c2 _ A2 (ys.eraseIdx i) b HY.out.1).mono ?_
        rintro e x ⟨rfl, rfl⟩
        clear e1 e2
        have hkk := HY.out.2.1
        have HYY := Lib.hid (And.intro HY.out (And.intro hkk True.intro))
        clear HY hkk
        generalize hw3 : w2.setCell ⟨r, 1, none⟩ (.slice A2 (ys.eraseIdx i).length c2) = w3 at *
        have HY := Lib.hid HYY.out.1
        clear HYY hw3
        rw [show findZ ({ s.power with files := outF a s.power.files } : DS).files b = (j : Int) from HJ.out.1]
        have hjl : j < (ys.eraseIdx i).length := HJ.out.2.1
        have hel : (ys.eraseIdx i).length ≤ ys.length := (List.eraseIdx_sublist ys i).length_le
        have d1 : w3.cell? ⟨r, 1, none⟩ = some (.slice A2 (ys.eraseIdx i).length c2) := (cell_of_block HY.out.1.blk).trans rfl
        have hj0 : decide ((0 : Int) ≤ (j : Int)) = true := decide_eq_true (by omega)
        clear hjl
        go_wp2_with fail
        refine (RWithout_calls w3 A2 c2 j (ys.eraseIdx i) HY.out.1.own.rd (by omega) (by have := HJ.out.2.1; omega)).mono ?_
        rintro e w4 ⟨A4, c4, rfl, o4, n4, f4⟩
        have e1 : w4.cell? ⟨r, 1, none⟩ = some (.slice A2 (ys.eraseIdx i).length c2) := (cell_of_block (heap_kp HY.out.1.blk n4 id)).trans rfl
        have e2 : w4.frozen? ⟨r, 1, none⟩ = false := by simp [World.frozen?, heap_kp HY.out.1.blk n4 id]
        have hf : ((ys.eraseIdx i).eraseIdx j).map FV.f = outF b (outF a s.power.files) := by
         have h1 := HY.out.1.files
         rw [← show (ys.eraseIdx i).map FV.f = outF a s.power.files from h1]
         obtain ⟨_, z, hz, hzn⟩ := HJ.out.2
         exact erase_out (by rw [h1]; exact Rise.nodup HY.out.1.ok.rise) hz hzn
        have hsub : ((ys.eraseIdx i).eraseIdx j).Sublist (ys.eraseIdx i) := List.eraseIdx_sublist _ _
        have hfs := fblks_sub hsub
        have hx4 := HY.out.1.rows (s' := { s.power with files := outF b (outF a s.power.files) }) n4 o4 f4 (fun y hy => HY.out.1.one (hsub.subset hy)) (hfs.nodup HY.out.1.fnd) (fun hm => HY.out.1.out (List.mem_append_right _ (hfs.subset hm))) rfl rfl rfl hf (((HX.out.ok.power HD.out).out a).out b)
        have hbx : (w4.setCell ⟨r, 1, none⟩ (.slice A4 ((ys.eraseIdx i).eraseIdx j).length c4)).heap[w1.heap.size]? = _ := heap_kp (heap_kp HY.out.2.2 n4 id) (Kp.setCell (S := fun k => k = r) w4 ⟨r, 1, none⟩ (.slice A4 ((ys.eraseIdx i).eraseIdx j).length c4) rfl) (fun e => by have := H1.out.1.lt r List.mem_cons_self; omega)
        have HZ := Lib.hid (And.intro hx4.1 (And.intro hx4.2 hbx))
        clear hx4 hbx hf hfs o4 n4 f4 d1
        have HS := Lib.hid hsub
        clear hsub
        go_wp2_with fail
        clear e1 e2
        generalize hw5 : w4.setCell ⟨r, 1, none⟩ (.slice A4 ((ys.eraseIdx i).eraseIdx j).length c4) = w5 at *
        clear hw5
        have d1 : w5.cell? ⟨r, 1, none⟩ = some (.slice A4 ((ys.eraseIdx i).eraseIdx j).length c4) := (cell_of_block HZ.out.1.blk).trans rfl
        have bx0 : w5.cell? ⟨w1.heap.size, 0, none⟩ = some (.string (bstr b)) := (cell_of_block HZ.out.2.2).trans rfl
        have bx1 : w5.cell? ⟨w1.heap.size, 1, none⟩ = some (.slice y.A y.f.data.length y.c) := (cell_of_block HZ.out.2.2).trans rfl
        have bx2 : w5.cell? ⟨w1.heap.size, 2, none⟩ = some (.int .i64 (y.f.syn : Int)) := (cell_of_block HZ.out.2.2).trans rfl
        go_wp2_with fail
        refine wp_region_line (fun w' => w'.cell? ⟨r, 1, none⟩ = some (.slice A4 ((ys.eraseIdx i).eraseIdx j).length c4) ∧ w'.cell? ⟨w1.heap.size, 0, none⟩ = some (.string (bstr b)) ∧ w'.cell? ⟨w1.heap.size, 1, none⟩ = some (.slice y.A y.f.data.length y.c) ∧ w'.cell? ⟨w1.heap.size, 2, none⟩ = some (.int .i64 (y.f.syn : Int))) (pl := [(0, true), (1, true), (2, true), (3, true), (4, true), (5, true), (6, true), (7, false), (8, true), (9, true), (10, true), (11, false)]) hmo (by kernel_rfl) ⟨by simpa using d1, by simpa using bx0, by simpa using bx1, by simpa using bx2⟩ ?_
        iterate 7 (refine line_get rfl rfl (fun K hK => ?_); apply Exists.intro; refine ⟨fun w s => ?_, ?_⟩; (first | (have q := s rfl; go_simp; with_reducible rfl) | (go_simp; with_reducible rfl)); (go_simp; refine hK _ ?_; clear hK K))
        (refine line_do rfl rfl (fun K hK => ?_); go_simp)
        have nd : New w5 w5.drew := Kp.drew _ _
        have hq := (HZ.out.1.new nd)
        have HQ := Lib.hid (And.intro hq nd)
        clear hq nd d1 bx0 bx1 bx2
        refine (RPut_calls _ A4 c4 ((ys.eraseIdx i).eraseIdx j) ⟨⟨b, y.f.data, y.f.syn⟩, y.A, y.c⟩ HQ.out.1.own.rd (Nat.le_trans HS.out.length_le (Nat.le_trans (List.eraseIdx_sublist ys i).length_le hfew))).mono ?_
        rintro e wp ⟨Ap, cp, rfl, op, np, fp⟩
        have e1 : wp.frozen? ⟨r, 1, none⟩ = false := by simp [World.frozen?, heap_kp HQ.out.1.blk np id]
        have e2 : wp.cell? ⟨r, 1, none⟩ = some (.slice A4 ((ys.eraseIdx i).eraseIdx j).length c4) := (cell_of_block (heap_kp HQ.out.1.blk np id)).trans rfl
        have HP := Lib.hid (And.intro op (And.intro np fp))
        clear op np fp
        refine hK _ _ (no_need (by kernel_rfl)) ?_
        clear hK K
        iterate 3 (refine line_get rfl rfl (fun K hK => ?_); apply Exists.intro; refine ⟨fun w s => ?_, ?_⟩; (first | (have q := s rfl; go_simp; with_reducible rfl) | (go_simp; with_reducible rfl)); (go_simp; refine hK _ ?_; clear hK K))
        (refine line_do rfl rfl (fun K hK => ?_); go_simp)
        refine hK _ _ (no_need (by kernel_rfl)) ?_
        clear hK K
        refine line_nil ?_
        go_wp2_with fail
        go_ret
        have hfb := fblks_put (f := ⟨⟨b, y.f.data, y.f.syn⟩, y.A, y.c⟩) (y := y) rfl HT.out.2.1 HS.out H1.out.1.fnd
        have hyo : Own w5.drew 5 1 y.A y.c y.f.data.length (bcs y.f.data) := ((((H1.out.1.one (List.mem_of_getElem? HT.out.2.1)).new HW.out.1).kp HY.out.2.1 (fun k hb e => H1.out.1.out (e ▸ List.mem_append_right _ (mem_fblks.2 ⟨y, List.mem_of_getElem? HT.out.2.1, hb⟩)))).kp HZ.out.2.1 (fun k hb e => H1.out.1.out (e ▸ List.mem_append_right _ (mem_fblks.2 ⟨y, List.mem_of_getElem? HT.out.2.1, hb⟩)))).new HQ.out.2
        have hf : (putAll ⟨⟨b, y.f.data, y.f.syn⟩, y.A, y.c⟩ ((ys.eraseIdx i).eraseIdx j)).map FV.f = moved a b s.power.files := by
         rw [putAll_f, HZ.out.1.files, moved_eq (s := s.power) ((DS.power_find s a).trans HT.out.2.2.1) HAB.out]
        have hx := HQ.out.1.rows (s' := { s.power with files := moved a b s.power.files }) HP.out.2.1 HP.out.1 HP.out.2.2 (fun z hz => (List.mem_cons.1 ((putAll_perm _ _).subset hz)).elim (fun e => by subst e; exact hyo) (fun hz => HQ.out.1.one hz)) hfb.1 (fun hm => H1.out.1.out (List.mem_append_right _ (hfb.2 _ hm))) rfl rfl rfl hf ((HX.out.ok.power HD.out).moved a b HG.out.2)
        have kq : Kp (fun k => k = r) w w5 := ((H1.out.2.trans HW.out.1 fid (fun _ _ h => h.elim)).trans HY.out.2.1 fid fid).trans HZ.out.2.1 fid fid
        have hz1 := kq.size
        exact HR.out _ _ _ HM.out ⟨rfl, hx.1.mv ((kq.trans HQ.out.2 fid (fun _ _ h => h.elim)).trans hx.2 fid fid) (fun _ e => e ▸ List.mem_cons_self) fun k hk => by
         rcases List.mem_append.1 hk with hk | hk
         ·have := HP.out.2.2 k (mem_bks.1 hk)
          have := HQ.out.2.size
          exact .inr (by omega)
         ·exact .inl (List.mem_append_right _ (hfb.2 k hk))⟩
   ·have HG := Lib.hid (And.intro hga (show goodN b = false by simpa using hgb))
    have HM := Lib.hid (show (32, s) = s.rename a b from (by unfold DS.rename; rw [if_neg hgb]; exact (change_err HD.out (by decide)).symm))
    clear hga hgb
    go_enter Tryz.func105, Tryz.ntmps105
    go_wp2_with fail
    refine (RName_calls w a hn).mono ?_
    rintro e x ⟨rfl, rfl⟩
    rw [HG.out.1]
    go_wp2_with fail
    refine (RName_calls w b hnb).mono ?_
    rintro e x ⟨rfl, rfl⟩
    rw [HG.out.2]
    go_wp2_with fail
    go_ret
    exact HR.out _ _ _ HM.out ⟨rfl, HX.out.same (Kp.refl _ _)⟩
  ·have HG := Lib.hid (show goodN a = false by simpa using hga)
   have HM := Lib.hid (show (32, s) = s.rename a b from (by unfold DS.rename DS.there; rw [if_neg hga]; split <;> exact (change_err HD.out (by decide)).symm))
   clear hga
   go_enter Tryz.func105, Tryz.ntmps105
   go_wp2_with fail
   refine (RName_calls w a hn).mono ?_
   rintro e x ⟨rfl, rfl⟩
   rw [HG.out]
   go_wp2_with fail
   go_ret
   exact HR.out _ _ _ HM.out ⟨rfl, HX.out.same (Kp.refl _ _)⟩
end Go.Proofs.YtekcoeonlfmebaaGreatDoor.Kit
