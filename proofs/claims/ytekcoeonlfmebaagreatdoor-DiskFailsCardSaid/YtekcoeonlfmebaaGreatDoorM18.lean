/- 1 texts in one: daybookref03: put. -/
import Derived.Test.YtekcoeonlfmebaaGreatDoorM17
namespace Go.Proofs.YtekcoeonlfmebaaGreatDoor.Kit
open Go Go.RowKit
theorem not_lt_self (n : Nat) : decide (n < n) = false := by simp
theorem AddRows.app {w wr w3 : World} {A1 A2 : Option Addr} {c1 c2 : Nat} {zs : List FV} (h : AddRows w A1 c1 zs wr) (y : FV) {v : Array Value} (hv : y.cells = v.toList) (q : Own w3 82 3 A2 c2 (zs.length + 1) (FV.flat zs ++ v.toList) ∧ Kp (Bk A1) (wr.alloc (.cells v 82)) w3 ∧ ∀ j, Bk A2 j → Bk A1 j ∨ j = (wr.alloc (.cells v 82)).heap.size) : AddRows w A2 c2 (zs ++ [y]) w3 :=
 h.snoc y ((Kp.alloc (Bk A1) wr (.cells v 82)).trans q.2.1 fid fid) (hv ▸ q.1) fun j hj => (q.2.2 j hj).imp id fun e => by rw [e]; simp
set_option maxRecDepth 100000 in
set_option maxHeartbeats 4000000 in
theorem RPut_calls (w : World) (A : Option Addr) (c : Nat) (ys : List FV) (f : FV) (h : RdF w A ys) (hl : ys.length ≤ 64) :
  Calls Tryz.prog 205 #[.slice A ys.length c, .agg #[.string (bstr f.f.name), .slice f.A f.f.data.length f.c, .int .i64 (f.f.syn : Int)]] w (RowsPost w (putAll f ys)) := by
 have HI := Lib.hid h
 clear h
 go_enter Tryz.func205, Tryz.ntmps205
 go_wp2_with fail
 obtain ⟨W, hW⟩ : ∃ W, w.alloc (.cells #[.string (bstr f.f.name), .slice f.A f.f.data.length f.c, .int .i64 (f.f.syn : Int)] 82) = W := ⟨_, rfl⟩
 rw [hW]
 have nW : New w W := hW ▸ Kp.alloc _ _ _
 have bW : W.heap[w.heap.size]? = some (.cells #[.string (bstr f.f.name), .slice f.A f.f.data.length f.c, .int .i64 (f.f.syn : Int)] 82 (0, 0)) := hW ▸ heap_alloc_new w _
 have HN := Lib.hid (And.intro nW bW)
 clear hW bW nW
 go_loopw [5, 6, 7] (fun o d j wr => ∃ (k : Nat) (A1 : Option Addr) (c1 : Nat) (zs : List FV) (b : Bool), k ≤ ys.length ∧ zs.length ≤ k + (if b = true then 1 else 0) ∧ j = .int .i64 (k : Int) ∧ o = .slice A1 zs.length c1 ∧ d = .bool b ∧ Hid (putPre f (ys.take k) = (b, zs) ∧ New W wr ∧ AddRows W A1 c1 zs wr)) (fun _ _ i _ => ys.length - (intOf i).toNat)
 case atStart => exact ⟨0, none, 0, [], false, Nat.zero_le _, by simp, rfl, rfl, rfl, Lib.hid ⟨rfl, Kp.refl _ _, Own.nil _ _ _, Kp.refl _ _, fun j h => absurd h Bk.none_⟩⟩
 case round =>
  obtain ⟨k, A1, c1, zs, b, hk, hzk, rfl, rfl, rfl, HK⟩ := hrel
  have hz65 : zs.length ≤ 65 := by split at hzk <;> omega
  have hk0 : (0 : Int) ≤ k := by omega
  have b1 := heap_kp' HN.out.2 HK.out.2.1 id
  by_cases hlt : k < ys.length
  ·have hki : (k : Int) < (ys.length : Int) := by omega
   obtain ⟨y, hy⟩ : ∃ y, ys[k]? = some y := ⟨_, List.getElem?_eq_getElem hlt⟩
   have hye : ys[k] = y := (List.getElem?_eq_some_iff.1 hy).2
   obtain ⟨g, off, rfl, r0, r1, r2⟩ := (HI.out.new (HN.out.1.trans HK.out.2.1 fid fid)).at_ hlt
   rw [hye] at r0 r1 r2
   have hstep : putPre f (ys.take (k + 1)) = putStep f (b, zs) y := by rw [List.take_add_one, hy]; exact (putPre_snoc f y _).trans (by rw [HK.out.1])
   have p0 : wr.cell? ⟨w.heap.size, 0, none⟩ = some (.string (bstr f.f.name)) := (cell_of_block b1).trans rfl
   have HY := Lib.hid (And.intro hstep (And.intro b1 hye))
   clear hy hye hstep b1
   cases b with
   | true =>
    go_wp2_with fail
    go_quiet (fail)
    have nq' : New wr (wr.drewN nq) := Kp.drewN _ _ _
    have HQ := Lib.hid (And.intro nq' (And.intro (heap_kp' HY.out.2.1 nq' id) (show AddRows W A1 c1 zs (wr.drewN nq) from ⟨HK.out.2.2.1.new nq', HK.out.2.2.2.1.trans nq' fid fid, HK.out.2.2.2.2⟩)))
    have s0 := nq'.cell r0
    have s1 := nq'.cell r1
    have s2 := nq'.cell r2
    have f0 : (wr.drewN nq).cell? ⟨w.heap.size, 0, none⟩ = some (.string (bstr f.f.name)) := (cell_of_block HQ.out.2.1).trans rfl
    have f1 : (wr.drewN nq).cell? ⟨w.heap.size, 1, none⟩ = some (.slice f.A f.f.data.length f.c) := (cell_of_block HQ.out.2.1).trans rfl
    have f2 : (wr.drewN nq).cell? ⟨w.heap.size, 2, none⟩ = some (.int .i64 (f.f.syn : Int)) := (cell_of_block HQ.out.2.1).trans rfl
    clear nq' r0 r1 r2 p0
    generalize wr.drewN nq = wq at *
    clear f0 f1 f2
    go_wp2_with (at_builtin; refine wpList_append_src _ rfl (.tmp 30) (.tmp 35) 57 57 rfl 82 _ 3 48 Tryz.underlying57 Tryz.info_file rfl A1 c1 zs.length (FV.flat zs) rfl ((HQ.out.2.2.1).new (Kp.alloc _ _ _)) _ rfl 1 _ (Src.ofNew wq Tryz.underlying57 #[.string (bstr y.f.name), .slice y.A y.f.data.length y.c, .int .i64 (y.f.syn : Int)] 82 3 1 1 rfl (by simp [Value.oneCell'])) (by omega) (by omega) ?_; intro A2 c2 w3 q1 q2 q3; have H3 := Lib.hid (And.intro q1 (And.intro q2 q3)); clear q1 q2 q3)
    have ha := HQ.out.2.2.app y rfl H3.out
    refine ⟨⟨k + 1, A2, c2, zs ++ [y], true, by omega, by rw [List.length_append]; simp at hzk ⊢; omega, by go_num, by rw [List.length_append]; rfl, rfl, Lib.hid ⟨HY.out.1.trans (by simp [putStep]), ha.2.1, ha⟩⟩, by simp [intOf]; omega⟩
   | false =>
    by_cases hlt2 : f.f.name < y.f.name
    ·have hb1 : Op.bytesLess (bstr f.f.name).toList (bstr y.f.name).toList = true := by rw [less_bstr]; exact decide_eq_true hlt2
     have HL := Lib.hid hlt2
     clear hlt2
     go_wp2_with fail
     go_quiet (fail)
     have nq' : New wr (wr.drewN nq) := Kp.drewN _ _ _
     have HQ := Lib.hid (And.intro nq' (And.intro (heap_kp' HY.out.2.1 nq' id) (show AddRows W A1 c1 zs (wr.drewN nq) from ⟨HK.out.2.2.1.new nq', HK.out.2.2.2.1.trans nq' fid fid, HK.out.2.2.2.2⟩)))
     have s0 := nq'.cell r0
     have s1 := nq'.cell r1
     have s2 := nq'.cell r2
     have f0 : (wr.drewN nq).cell? ⟨w.heap.size, 0, none⟩ = some (.string (bstr f.f.name)) := (cell_of_block HQ.out.2.1).trans rfl
     have f1 : (wr.drewN nq).cell? ⟨w.heap.size, 1, none⟩ = some (.slice f.A f.f.data.length f.c) := (cell_of_block HQ.out.2.1).trans rfl
     have f2 : (wr.drewN nq).cell? ⟨w.heap.size, 2, none⟩ = some (.int .i64 (f.f.syn : Int)) := (cell_of_block HQ.out.2.1).trans rfl
     clear nq' r0 r1 r2 p0
     generalize wr.drewN nq = wq at *
     go_wp2_with (at_builtin; first | (refine wpList_append_src _ rfl (.tmp 26) (.tmp 28) 57 57 rfl 82 _ 3 48 Tryz.underlying57 Tryz.info_file rfl A1 c1 zs.length (FV.flat zs) rfl ((HQ.out.2.2.1).new (Kp.alloc _ _ _)) _ rfl 1 _ (Src.ofNew wq Tryz.underlying57 #[.string (bstr f.f.name), .slice f.A f.f.data.length f.c, .int .i64 (f.f.syn : Int)] 82 3 1 1 rfl (by simp [Value.oneCell'])) (by omega) (by omega) ?_; intro A2 c2 w3 q1 q2 q3; have H3 := Lib.hid (And.intro q1 (And.intro q2 q3)); clear q1 q2 q3; have ha := HQ.out.2.2.app f rfl H3.out; obtain ⟨g', off', he, t0, t1, t2⟩ := (HI.out.new (HN.out.1.trans ha.2.1 fid fid)).at_ hlt; obtain ⟨rfl, rfl⟩ : g = g' ∧ off = off' := (by simpa using he); rw [HY.out.2.2] at t0 t1 t2; have HA := Lib.hid ha; clear ha he s0 s1 s2 f0 f1 f2) | (refine wpList_append_src _ rfl (.tmp 30) (.tmp 35) 57 57 rfl 82 _ 3 48 Tryz.underlying57 Tryz.info_file rfl A2 c2 (zs.length + 1) (FV.flat zs ++ f.cells) rfl ((H3.out.1).new (Kp.alloc _ _ _)) _ rfl 1 _ (Src.ofNew w3 Tryz.underlying57 #[.string (bstr y.f.name), .slice y.A y.f.data.length y.c, .int .i64 (y.f.syn : Int)] 82 3 1 1 rfl (by simp [Value.oneCell'])) (by omega) (by omega) ?_; intro A3 c3 w5 q1 q2 q3; have H5 := Lib.hid (And.intro q1 (And.intro q2 q3)); clear q1 q2 q3))
     have hb := HA.out.app y rfl ⟨by rw [List.length_append, FV.flat_snoc]; exact H5.out.1, H5.out.2.1, H5.out.2.2⟩
     refine ⟨⟨k + 1, A3, c3, zs ++ [f] ++ [y], true, by omega, ?_, by go_num, by rw [List.length_append, List.length_append]; rfl, rfl, Lib.hid ⟨HY.out.1.trans (by simp [putStep, HL.out]), hb.2.1, hb⟩⟩, by simp [intOf]; omega⟩
     simp at hzk ⊢
     omega
    ·have hb1 : Op.bytesLess (bstr f.f.name).toList (bstr y.f.name).toList = false := by rw [less_bstr]; exact decide_eq_false hlt2
     have HL := Lib.hid hlt2
     clear hlt2
     go_wp2_with fail
     go_quiet (fail)
     have nq' : New wr (wr.drewN nq) := Kp.drewN _ _ _
     have HQ := Lib.hid (And.intro nq' (And.intro (heap_kp' HY.out.2.1 nq' id) (show AddRows W A1 c1 zs (wr.drewN nq) from ⟨HK.out.2.2.1.new nq', HK.out.2.2.2.1.trans nq' fid fid, HK.out.2.2.2.2⟩)))
     have s0 := nq'.cell r0
     have s1 := nq'.cell r1
     have s2 := nq'.cell r2
     have f0 : (wr.drewN nq).cell? ⟨w.heap.size, 0, none⟩ = some (.string (bstr f.f.name)) := (cell_of_block HQ.out.2.1).trans rfl
     have f1 : (wr.drewN nq).cell? ⟨w.heap.size, 1, none⟩ = some (.slice f.A f.f.data.length f.c) := (cell_of_block HQ.out.2.1).trans rfl
     have f2 : (wr.drewN nq).cell? ⟨w.heap.size, 2, none⟩ = some (.int .i64 (f.f.syn : Int)) := (cell_of_block HQ.out.2.1).trans rfl
     clear nq' r0 r1 r2 p0
     generalize wr.drewN nq = wq at *
     clear f0 f1 f2
     go_wp2_with (at_builtin; refine wpList_append_src _ rfl (.tmp 30) (.tmp 35) 57 57 rfl 82 _ 3 48 Tryz.underlying57 Tryz.info_file rfl A1 c1 zs.length (FV.flat zs) rfl ((HQ.out.2.2.1).new (Kp.alloc _ _ _)) _ rfl 1 _ (Src.ofNew wq Tryz.underlying57 #[.string (bstr y.f.name), .slice y.A y.f.data.length y.c, .int .i64 (y.f.syn : Int)] 82 3 1 1 rfl (by simp [Value.oneCell'])) (by omega) (by omega) ?_; intro A2 c2 w3 q1 q2 q3; have H3 := Lib.hid (And.intro q1 (And.intro q2 q3)); clear q1 q2 q3)
     have ha := HQ.out.2.2.app y rfl H3.out
     refine ⟨⟨k + 1, A2, c2, zs ++ [y], false, by omega, by rw [List.length_append]; simp at hzk ⊢; omega, by go_num, by rw [List.length_append]; rfl, rfl, Lib.hid ⟨HY.out.1.trans (by simp [putStep, HL.out]), ha.2.1, ha⟩⟩, by simp [intOf]; omega⟩
  ·obtain rfl : k = ys.length := by omega
   have hkd := not_lt_self ys.length
   have f0 : wr.cell? ⟨w.heap.size, 0, none⟩ = some (.string (bstr f.f.name)) := (cell_of_block b1).trans rfl
   have f1 : wr.cell? ⟨w.heap.size, 1, none⟩ = some (.slice f.A f.f.data.length f.c) := (cell_of_block b1).trans rfl
   have f2 : wr.cell? ⟨w.heap.size, 2, none⟩ = some (.int .i64 (f.f.syn : Int)) := (cell_of_block b1).trans rfl
   clear b1
   have hp : putPre f ys = (b, zs) := by have := HK.out.1; rwa [List.take_length] at this
   have n1 : New w wr := HN.out.1.trans HK.out.2.1 fid fid
   have z0 := HN.out.1.size
   cases b with
   | true =>
    have hz : putAll f ys = zs := by unfold putAll; rw [hp]; rfl
    have HE := Lib.hid (And.intro n1 hz)
    clear hp hz n1 f0 f1 f2
    go_wp2_with fail
    go_ret
    show RowsPost w (putAll f ys) _ _
    rw [HE.out.2]
    exact ⟨A1, c1, rfl, HK.out.2.2.1, HE.out.1, fun j hj => Nat.le_trans z0 (HK.out.2.2.2.2 j hj)⟩
   | false =>
    have hz : putAll f ys = zs ++ [f] := by unfold putAll; rw [hp]; rfl
    have HE := Lib.hid hz
    clear hp hz n1
    go_wp2_with (at_builtin; refine wpList_append_src _ rfl (.tmp 39) (.tmp 41) 57 57 rfl 82 _ 3 48 Tryz.underlying57 Tryz.info_file rfl A1 c1 zs.length (FV.flat zs) rfl ((HK.out.2.2.1).new (Kp.alloc _ _ _)) _ rfl 1 _ (Src.ofNew wr Tryz.underlying57 #[.string (bstr f.f.name), .slice f.A f.f.data.length f.c, .int .i64 (f.f.syn : Int)] 82 3 1 1 rfl (by simp [Value.oneCell'])) (by omega) (by omega) ?_; intro A2 c2 w3 q1 q2 q3; have H3 := Lib.hid (And.intro q1 (And.intro q2 q3)); clear q1 q2 q3)
    have ha := HK.out.2.2.app f rfl H3.out
    go_ret
    show RowsPost w (putAll f ys) _ _
    rw [HE.out]
    exact ⟨A2, c2, by rw [List.length_append]; rfl, ha.1, HN.out.1.trans ha.2.1 fid fid, fun j hj => Nat.le_trans z0 (ha.2.2 j hj)⟩
end Go.Proofs.YtekcoeonlfmebaaGreatDoor.Kit
