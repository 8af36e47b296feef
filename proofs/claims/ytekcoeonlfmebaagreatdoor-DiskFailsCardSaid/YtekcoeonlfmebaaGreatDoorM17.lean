/- 3 texts in one: The document's Same at two tellings of one state, of any files.; daybookref03: Bytes, without.; daybookref03: without and put: new rows of files. -/
import Derived.Test.YtekcoeonlfmebaaGreatDoorM13
import Derived.Test.YtekcoeonlfmebaaGreatDoorM16
namespace Go.Proofs.YtekcoeonlfmebaaGreatDoor.Kit
open Go Go.RowKit
def FI.tel (y : FI) : Nm × List UInt8 × Int := (y.name, y.data, y.syn)
theorem heap_kp' {w w' : World} {S : Nat → Prop} {b : Nat} {o : Obj} (h : w.heap[b]? = some o) (hk : Kp S w w') (hb : ¬ S b) : w'.heap[b]? = some o := (hk.block b (Array.getElem?_eq_some_iff.1 h).1 hb).trans h
set_option maxRecDepth 100000 in
set_option maxHeartbeats 4000000 in
theorem SameI_calls (w : World) (cap fuse : Int) (down : Bool) (A1 A2 : Option Addr) (n1 n2 c1 c2 : Nat) (ys zs : List FI) (h1 : RdI w A1 ys) (h2 : RdI w A2 zs) (he : ys.map FI.tel = zs.map FI.tel) (hn1 : n1 = ys.length) (hn2 : n2 = ys.length) (hlen : ys.length ≤ 9223372036854775807) :
  Calls Tryz.prog 13 #[.agg #[.int .i64 cap, .slice A1 n1 c1, .int .i64 fuse, .bool down], .agg #[.int .i64 cap, .slice A2 n2 c2, .int .i64 fuse, .bool down]] w fun e w' => e = .returned (.bool true) ∧ New w w' := by
 subst hn1 hn2
 have hl2 : zs.length = ys.length := by have := congrArg List.length he; simpa using this.symm
 have HI := Lib.hid (And.intro h1 (And.intro h2 he))
 clear h1 h2 he
 go_enter Tryz.func13, Tryz.ntmps13
 go_wp2_with fail
 obtain ⟨W, hW⟩ : ∃ W, (w.alloc (.cells #[.int .i64 cap, .slice A1 ys.length c1, .int .i64 fuse, .bool down] 59)).alloc (.cells #[.int .i64 cap, .slice A2 ys.length c2, .int .i64 fuse, .bool down] 59) = W := ⟨_, rfl⟩
 rw [hW]
 have nW : New w W := hW ▸ (Kp.alloc _ _ _).trans (Kp.alloc _ _ _) fid fid
 have bW1 : W.heap[w.heap.size]? = some (.cells #[.int .i64 cap, .slice A1 ys.length c1, .int .i64 fuse, .bool down] 59 (0, 0)) := hW ▸ heap_kp' (heap_alloc_new w _) (Kp.alloc (fun _ => False) _ _) id
 have bW2 : W.heap[w.heap.size + 1]? = some (.cells #[.int .i64 cap, .slice A2 ys.length c2, .int .i64 fuse, .bool down] 59 (0, 0)) := hW ▸ (by
  have := heap_alloc_new (w.alloc (.cells #[.int .i64 cap, .slice A1 ys.length c1, .int .i64 fuse, .bool down] 59)) (.cells #[.int .i64 cap, .slice A2 ys.length c2, .int .i64 fuse, .bool down] 59)
  rwa [World.size_alloc] at this)
 have HW := Lib.hid (And.intro nW (And.intro bW1 bW2))
 clear hW nW bW1 bW2
 go_loopw [5] (fun i wr => ∃ k : Nat, k ≤ ys.length ∧ i = .int .i64 (k : Int) ∧ Hid (New W wr)) (fun i _ => ys.length - (intOf i).toNat)
 case atStart => exact ⟨0, Nat.zero_le _, rfl, Lib.hid (Kp.refl _ _)⟩
 case round =>
  obtain ⟨k, hk, rfl, HK⟩ := hrel
  have nr : New w wr := HW.out.1.trans HK.out fid fid
  have s1 : wr.cell? ⟨w.heap.size, 1, none⟩ = some (.slice A1 ys.length c1) := (cell_of_block (heap_kp' HW.out.2.1 HK.out id)).trans rfl
  have s2 : wr.cell? ⟨w.heap.size + 1, 1, none⟩ = some (.slice A2 ys.length c2) := (cell_of_block (heap_kp' HW.out.2.2 HK.out id)).trans rfl
  by_cases hlt : k < ys.length
  ·obtain ⟨b, off, rfl, e0, e1, e2⟩ := (HI.out.1.new nr).at_ (List.getElem?_eq_getElem hlt)
   obtain ⟨b', off', rfl, d0, d1, d2⟩ := (HI.out.2.1.new nr).at_ (List.getElem?_eq_getElem (show k < zs.length by omega))
   have hr1 := (HI.out.1.new nr).2 ys[k] (List.getElem_mem hlt)
   have hr2 := (HI.out.2.1.new nr).2 zs[k] (List.getElem_mem (by omega))
   have hyz : zs[k].name = ys[k].name ∧ zs[k].data = ys[k].data ∧ zs[k].syn = ys[k].syn := by
    have := congrArg (fun l => l[k]?) HI.out.2.2
    simp only [List.getElem?_map, List.getElem?_eq_getElem hlt, List.getElem?_eq_getElem (show k < zs.length by omega), Option.map_some, Option.some.injEq, FI.tel, Prod.mk.injEq] at this
    exact ⟨this.1.symm, this.2.1.symm, this.2.2.symm⟩
   rw [hyz.1] at d0
   rw [hyz.2.1] at d1 hr2
   rw [hyz.2.2] at d2
   clear hyz
   generalize ys[k] = y at e0 e1 e2 d0 d1 d2 hr1 hr2
   generalize zs[k] = z at d1 hr2
   have nx : New wr (wr.alloc (.cells #[.string (bstr y.name), .slice y.A y.data.length y.c, .int .i64 y.syn] 82)) := Kp.alloc _ _ _
   have p0 := New.cell nx d0
   have p1 := New.cell nx d1
   have p2 := New.cell nx d2
   have s3 := New.cell nx s2
   have ny : New wr ((wr.alloc (.cells #[.string (bstr y.name), .slice y.A y.data.length y.c, .int .i64 y.syn] 82)).alloc (.cells #[.string (bstr y.name), .slice z.A y.data.length z.c, .int .i64 y.syn] 82)) := nx.trans (Kp.alloc _ _ _) fid fid
   have q1 : ((wr.alloc (.cells #[.string (bstr y.name), .slice y.A y.data.length y.c, .int .i64 y.syn] 82)).alloc (.cells #[.string (bstr y.name), .slice z.A y.data.length z.c, .int .i64 y.syn] 82)).heap[wr.heap.size]? = some (.cells #[.string (bstr y.name), .slice y.A y.data.length y.c, .int .i64 y.syn] 82 (0, 0)) := heap_kp' (heap_alloc_new wr _) (Kp.alloc (fun _ => False) _ _) id
   have q2 : ((wr.alloc (.cells #[.string (bstr y.name), .slice y.A y.data.length y.c, .int .i64 y.syn] 82)).alloc (.cells #[.string (bstr y.name), .slice z.A y.data.length z.c, .int .i64 y.syn] 82)).heap[wr.heap.size + 1]? = some (.cells #[.string (bstr y.name), .slice z.A y.data.length z.c, .int .i64 y.syn] 82 (0, 0)) := by
    have := heap_alloc_new (wr.alloc (.cells #[.string (bstr y.name), .slice y.A y.data.length y.c, .int .i64 y.syn] 82)) (.cells #[.string (bstr y.name), .slice z.A y.data.length z.c, .int .i64 y.syn] 82)
    rwa [World.size_alloc] at this
   have v10 : ((wr.alloc (.cells #[.string (bstr y.name), .slice y.A y.data.length y.c, .int .i64 y.syn] 82)).alloc (.cells #[.string (bstr y.name), .slice z.A y.data.length z.c, .int .i64 y.syn] 82)).cell? ⟨wr.heap.size, 0, none⟩ = some (.string (bstr y.name)) := (cell_of_block q1).trans rfl
   have v11 : ((wr.alloc (.cells #[.string (bstr y.name), .slice y.A y.data.length y.c, .int .i64 y.syn] 82)).alloc (.cells #[.string (bstr y.name), .slice z.A y.data.length z.c, .int .i64 y.syn] 82)).cell? ⟨wr.heap.size, 1, none⟩ = some (.slice y.A y.data.length y.c) := (cell_of_block q1).trans rfl
   have v12 : ((wr.alloc (.cells #[.string (bstr y.name), .slice y.A y.data.length y.c, .int .i64 y.syn] 82)).alloc (.cells #[.string (bstr y.name), .slice z.A y.data.length z.c, .int .i64 y.syn] 82)).cell? ⟨wr.heap.size, 2, none⟩ = some (.int .i64 y.syn) := (cell_of_block q1).trans rfl
   have v20 : ((wr.alloc (.cells #[.string (bstr y.name), .slice y.A y.data.length y.c, .int .i64 y.syn] 82)).alloc (.cells #[.string (bstr y.name), .slice z.A y.data.length z.c, .int .i64 y.syn] 82)).cell? ⟨wr.heap.size + 1, 0, none⟩ = some (.string (bstr y.name)) := (cell_of_block q2).trans rfl
   have v21 : ((wr.alloc (.cells #[.string (bstr y.name), .slice y.A y.data.length y.c, .int .i64 y.syn] 82)).alloc (.cells #[.string (bstr y.name), .slice z.A y.data.length z.c, .int .i64 y.syn] 82)).cell? ⟨wr.heap.size + 1, 1, none⟩ = some (.slice z.A y.data.length z.c) := (cell_of_block q2).trans rfl
   have v22 : ((wr.alloc (.cells #[.string (bstr y.name), .slice y.A y.data.length y.c, .int .i64 y.syn] 82)).alloc (.cells #[.string (bstr y.name), .slice z.A y.data.length z.c, .int .i64 y.syn] 82)).cell? ⟨wr.heap.size + 1, 2, none⟩ = some (.int .i64 y.syn) := (cell_of_block q2).trans rfl
   have hv1 := run_conv_RdB (P := Tryz.prog) ((wr.alloc (.cells #[.string (bstr y.name), .slice y.A y.data.length y.c, .int .i64 y.syn] 82)).alloc (.cells #[.string (bstr y.name), .slice z.A y.data.length z.c, .int .i64 y.syn] 82)) (src := 55) (dst := 9) Tryz.underlying55 Tryz.underlying5 Tryz.underlying9 y.c (hr1.new ny)
   have hv2 := run_conv_RdB (P := Tryz.prog) ((wr.alloc (.cells #[.string (bstr y.name), .slice y.A y.data.length y.c, .int .i64 y.syn] 82)).alloc (.cells #[.string (bstr y.name), .slice z.A y.data.length z.c, .int .i64 y.syn] 82)) (src := 55) (dst := 9) Tryz.underlying55 Tryz.underlying5 Tryz.underlying9 z.c (hr2.new ny)
   have HY := Lib.hid ny
   have hki : (k : Int) < (ys.length : Int) := by omega
   have hk0 : (0 : Int) ≤ k := by omega
   clear nx ny q1 q2 hr1 hr2 nr
   go_wp2_with fail
   exact ⟨⟨k + 1, by omega, by go_num, Lib.hid (HK.out.trans HY.out fid fid)⟩, by simp [intOf]; omega⟩
  ·obtain rfl : k = ys.length := by omega
   go_wp2_with fail
   go_ret
   exact ⟨rfl, nr⟩
theorem used_take (ys : List FI) (k : Nat) : usedF ((ys.take k).map FI.fl) ≤ usedF (ys.map FI.fl) := by
 conv => rhs; rw [← List.take_append_drop k ys, List.map_append, used_app]
 omega
theorem used_take_succ {ys : List FI} {k : Nat} {y : FI} (hy : ys[k]? = some y) : usedF ((ys.take (k + 1)).map FI.fl) = usedF ((ys.take k).map FI.fl) + y.data.length := by
 rw [List.take_add_one, hy, List.map_append, used_app]
 simp [usedF, FI.fl]
set_option maxRecDepth 100000 in
set_option maxHeartbeats 2000000 in
theorem RBytes_calls (w : World) (cap fuse : Int) (down : Bool) (A : Option Addr) (c : Nat) (ys : List FI) (h : RdI w A ys) (hl : ys.length ≤ 4611686018427387904) (hs : usedF (ys.map FI.fl) ≤ 4611686018427387904) :
  Calls Tryz.prog 207 #[.agg #[.int .i64 cap, .slice A ys.length c, .int .i64 fuse, .bool down]] w fun e w' => e = .returned (.int .i64 (usedF (ys.map FI.fl) : Int)) ∧ New w w' := by
 have HI := Lib.hid h
 clear h
 go_enter Tryz.func207, Tryz.ntmps207
 go_wp2_with fail
 obtain ⟨W, hW⟩ : ∃ W, w.alloc (.cells #[.int .i64 cap, .slice A ys.length c, .int .i64 fuse, .bool down] 59) = W := ⟨_, rfl⟩
 rw [hW]
 have nW : New w W := hW ▸ Kp.alloc _ _ _
 have bW : W.heap[w.heap.size]? = some (.cells #[.int .i64 cap, .slice A ys.length c, .int .i64 fuse, .bool down] 59 (0, 0)) := hW ▸ heap_alloc_new w _
 have c1 : W.cell? ⟨w.heap.size, 1, none⟩ = some (.slice A ys.length c) := (cell_of_block bW).trans rfl
 have HN := Lib.hid nW
 clear hW bW nW
 go_loop [3, 4] (fun m i => ∃ k : Nat, k ≤ ys.length ∧ i = .int .i64 (k : Int) ∧ m = .int .i64 (usedF ((ys.take k).map FI.fl) : Int)) (fun _ i => ys.length - (intOf i).toNat)
 case atStart => exact ⟨0, Nat.zero_le _, rfl, rfl⟩
 case round =>
  obtain ⟨k, hk, rfl, rfl⟩ := hrel
  have hk0 : (0 : Int) ≤ k := by omega
  by_cases hlt : k < ys.length
  ·have hki : (k : Int) < (ys.length : Int) := by omega
   obtain ⟨y, hy⟩ : ∃ y, ys[k]? = some y := ⟨_, List.getElem?_eq_getElem hlt⟩
   obtain ⟨b, off, rfl, -, r1, -⟩ := (HI.out.new HN.out).at_ hy
   have hu := used_take_succ hy
   have hv := used_take ys (k + 1)
   obtain ⟨m, hm⟩ : ∃ m, m = usedF ((ys.take k).map FI.fl) := ⟨_, rfl⟩
   rw [← hm] at hu ⊢
   have HM := Lib.hid (And.intro hm hu)
   have hb1 : m + y.data.length ≤ 4611686018427387904 := by omega
   clear hm hu hv hy
   go_wp2_with fail
   exact ⟨⟨k + 1, by omega, by go_num, by rw [HM.out.2]; go_num⟩, by simp [intOf]; omega⟩
  ·obtain rfl : k = ys.length := by omega
   have hkd : decide (ys.length < ys.length) = false := by simp
   rw [List.take_length]
   go_wp2_with fail
   go_ret
   exact ⟨rfl, HN.out⟩
def RowsPost (w : World) (zs : List FV) (e : Ending) (w' : World) : Prop :=
 ∃ A' c', e = .returned (.slice A' zs.length c') ∧ Own w' 82 3 A' c' zs.length (FV.flat zs) ∧ New w w' ∧ ∀ k, Bk A' k → w.heap.size ≤ k
theorem take_erase {α : Type} : ∀ (ys : List α) (k i : Nat) (y : α), ys[k]? = some y → (ys.take (k + 1)).eraseIdx i = if k = i then (ys.take k).eraseIdx i else (ys.take k).eraseIdx i ++ [y]
 | [], k, i, y, h => by simp at h
 | x :: ys, 0, 0, y, h => by simp
 | x :: ys, 0, i + 1, y, h => by
  simp only [List.getElem?_cons_zero, Option.some.injEq] at h
  subst h
  simp
 | x :: ys, k + 1, 0, y, h => by
  rw [List.getElem?_cons_succ] at h
  rw [List.take_succ_cons, List.take_succ_cons, if_neg (by omega), List.eraseIdx_cons_zero, List.eraseIdx_cons_zero, List.take_add_one, h]
  rfl
 | x :: ys, k + 1, i + 1, y, h => by
  rw [List.getElem?_cons_succ] at h
  have := take_erase ys k i y h
  rw [List.take_succ_cons, List.take_succ_cons, List.eraseIdx_cons_succ, List.eraseIdx_cons_succ, this]
  by_cases e : k = i
  ·rw [if_pos e, if_pos (by omega)]
  ·rw [if_neg e, if_neg (by omega), List.cons_append]
set_option maxRecDepth 100000 in
set_option maxHeartbeats 2000000 in
theorem RWithout_calls (w : World) (A : Option Addr) (c i : Nat) (ys : List FV) (h : RdF w A ys) (hl : ys.length ≤ 64) (hi : i ≤ 64) :
  Calls Tryz.prog 210 #[.slice A ys.length c, .int .i64 (i : Int)] w (RowsPost w (ys.eraseIdx i)) := by
 have HI := Lib.hid h
 clear h
 go_enter Tryz.func210, Tryz.ntmps210
 go_wp2_with fail
 go_loopw [5, 6] (fun o j wr => ∃ (k : Nat) (A1 : Option Addr) (c1 : Nat) (zs : List FV), k ≤ ys.length ∧ zs.length ≤ k ∧ j = .int .i64 (k : Int) ∧ o = .slice A1 zs.length c1 ∧ Hid (zs = (ys.take k).eraseIdx i ∧ Own wr 82 3 A1 c1 zs.length (FV.flat zs) ∧ New w wr ∧ ∀ j, Bk A1 j → w.heap.size ≤ j)) (fun _ i _ => ys.length - (intOf i).toNat)
 case atStart => exact ⟨0, none, 0, [], Nat.zero_le _, Nat.le_refl _, rfl, rfl, Lib.hid ⟨by simp, Own.nil _ _ _, Kp.refl _ _, fun j h => absurd h Bk.none_⟩⟩
 case round =>
  obtain ⟨k, A1, c1, zs, hk, hzk, rfl, rfl, HK⟩ := hrel
  have hk0 : (0 : Int) ≤ k := by omega
  by_cases hlt : k < ys.length
  ·have hki : (k : Int) < (ys.length : Int) := by omega
   obtain ⟨y, hy⟩ : ∃ y, ys[k]? = some y := ⟨_, List.getElem?_eq_getElem hlt⟩
   obtain ⟨g, off, rfl, r0, r1, r2⟩ := (HI.out.new HK.out.2.2.1).at_ hlt
   have hye : ys[k] = y := (List.getElem?_eq_some_iff.1 hy).2
   rw [hye] at r0 r1 r2
   have HY := Lib.hid hy
   clear hy hye
   by_cases hq : k = i
   ·subst hq
    have hb : decide ((k : Int) = (k : Int)) = true := by simp
    go_wp2_with fail
    exact ⟨⟨k + 1, A1, c1, zs, by omega, by omega, by go_num, rfl, Lib.hid ⟨by rw [take_erase _ _ _ _ HY.out, if_pos rfl]; exact HK.out.1, HK.out.2⟩⟩, by simp [intOf]; omega⟩
   ·have hb : ¬ ((k : Int) = (i : Int)) := by omega
    have HQ := Lib.hid hq
    clear hq
    go_wp2_with (at_builtin; refine wpList_append_src _ rfl (.tmp 16) (.tmp 21) 57 57 rfl 82 _ 3 48 Tryz.underlying57 Tryz.info_file rfl A1 c1 zs.length (FV.flat zs) rfl (HK.out.2.1.new (Kp.alloc _ _ _)) _ rfl 1 _ (Src.ofNew wr Tryz.underlying57 #[.string (bstr y.f.name), .slice y.A y.f.data.length y.c, .int .i64 (y.f.syn : Int)] 82 3 1 1 rfl (by simp [Value.oneCell'])) (by omega) (by omega) ?_; intro A2 c2 w3 q1 q2 q3; have H3 := Lib.hid (And.intro q1 (And.intro q2 q3)); clear q1 q2 q3)
    have zr := HK.out.2.2.1.size
    have nr : New w w3 := HK.out.2.2.1.trans ((Kp.alloc (Bk A1) wr (.cells #[.string (bstr y.f.name), .slice y.A y.f.data.length y.c, .int .i64 (y.f.syn : Int)] 82)).trans H3.out.2.1 fid fid) fid (fun i hi h => by have := HK.out.2.2.2 i h; omega)
    refine ⟨⟨k + 1, A2, c2, zs ++ [y], by omega, by rw [List.length_append]; simp; omega, by go_num, by rw [List.length_append]; rfl, Lib.hid ⟨?_, ?_, nr, fun j hj => ?_⟩⟩, by simp [intOf]; omega⟩
    ·rw [take_erase _ _ _ _ HY.out, if_neg HQ.out, ← HK.out.1]
    ·rw [FV.flat_snoc, List.length_append]
     exact H3.out.1
    ·rcases H3.out.2.2 j hj with h | h
     ·exact HK.out.2.2.2 j h
     ·rw [h]
      simp
      omega
  ·obtain rfl : k = ys.length := by omega
   have hkd : decide (ys.length < ys.length) = false := by simp
   go_wp2_with fail
   go_ret
   have hzs : zs = ys.eraseIdx i := by have := HK.out.1; rwa [List.take_length] at this
   subst hzs
   exact ⟨A1, c1, rfl, HK.out.2.1, HK.out.2.2.1, HK.out.2.2.2⟩
def putStep (f : FV) (s : Bool × List FV) (y : FV) : Bool × List FV := if s.1 = false ∧ f.f.name < y.f.name then (true, s.2 ++ [f, y]) else (s.1, s.2 ++ [y])
def putPre (f : FV) (ys : List FV) : Bool × List FV := ys.foldl (putStep f) (false, [])
def putAll (f : FV) (ys : List FV) : List FV := if (putPre f ys).1 = true then (putPre f ys).2 else (putPre f ys).2 ++ [f]
theorem putPre_snoc (f y : FV) (ys : List FV) : putPre f (ys ++ [y]) = putStep f (putPre f ys) y := by simp [putPre]
theorem put_done (f : FV) : ∀ (ys zs : List FV), ys.foldl (putStep f) (true, zs) = (true, zs ++ ys)
 | [], zs => by simp
 | y :: ys, zs => by
  rw [List.foldl_cons]
  have : putStep f (true, zs) y = (true, zs ++ [y]) := by simp [putStep]
  rw [this, put_done f ys]
  simp
theorem put_go (f : FV) : ∀ (ys zs : List FV), ∃ b l, ys.foldl (putStep f) (false, zs) = (b, zs ++ l) ∧ ((if b = true then l else l ++ [f]).map FV.f = ins f.f (ys.map FV.f)) ∧ (if b = true then l else l ++ [f]).Perm (f :: ys)
 | [], zs => ⟨false, [], by simp, by simp [ins], by simp⟩
 | y :: ys, zs => by
  rw [List.foldl_cons]
  by_cases h : f.f.name < y.f.name
  ·have : putStep f (false, zs) y = (true, zs ++ [f, y]) := by simp [putStep, h]
   rw [this, put_done]
   exact ⟨true, f :: y :: ys, by simp, by simp [ins, h], by simp⟩
  ·have : putStep f (false, zs) y = (false, zs ++ [y]) := by simp [putStep, h]
   rw [this]
   obtain ⟨b, l, h1, h2, h3⟩ := put_go f ys (zs ++ [y])
   refine ⟨b, y :: l, by rw [h1]; simp, ?_, ?_⟩
   ·rw [List.map_cons, ins, if_neg h, ← h2]
    split <;> rfl
   ·have e : (if b = true then y :: l else y :: l ++ [f]) = y :: (if b = true then l else l ++ [f]) := by split <;> rfl
    rw [e]
    exact (h3.cons y).trans (List.Perm.swap f y ys)
theorem putAll_f (f : FV) (ys : List FV) : (putAll f ys).map FV.f = ins f.f (ys.map FV.f) := by
 obtain ⟨b, l, h1, h2, h3⟩ := put_go f ys []
 unfold putAll putPre
 rw [h1, ← h2]
 simp
theorem putAll_perm (f : FV) (ys : List FV) : (putAll f ys).Perm (f :: ys) := by
 obtain ⟨b, l, h1, h2, h3⟩ := put_go f ys []
 unfold putAll putPre
 rw [h1]
 simpa using h3
def AddRows (w : World) (A1 : Option Addr) (c1 : Nat) (zs : List FV) (wr : World) : Prop := Own wr 82 3 A1 c1 zs.length (FV.flat zs) ∧ New w wr ∧ ∀ j, Bk A1 j → w.heap.size ≤ j
theorem AddRows.snoc {w wr w3 : World} {A1 A2 : Option Addr} {c1 c2 : Nat} {zs : List FV} (h : AddRows w A1 c1 zs wr) (y : FV) (k : Kp (Bk A1) wr w3) (h1 : Own w3 82 3 A2 c2 (zs.length + 1) (FV.flat zs ++ y.cells)) (h3 : ∀ j, Bk A2 j → Bk A1 j ∨ wr.heap.size ≤ j) : AddRows w A2 c2 (zs ++ [y]) w3 := by
 refine ⟨by rw [FV.flat_snoc, List.length_append]; exact h1, h.2.1.trans k fid (fun i hi hb => by have := h.2.2 i hb; omega), fun j hj => ?_⟩
 have := h.2.1.size
 rcases h3 j hj with q | q
 ·exact h.2.2 j q
 ·omega
end Go.Proofs.YtekcoeonlfmebaaGreatDoor.Kit
