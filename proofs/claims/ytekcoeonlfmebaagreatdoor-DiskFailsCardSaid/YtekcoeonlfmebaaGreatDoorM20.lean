/- 1 texts in one: daybookref03: Valid. -/
import Derived.Test.YtekcoeonlfmebaaGreatDoorM19
namespace Go.Proofs.YtekcoeonlfmebaaGreatDoor.Kit
open Go Go.RowKit
def ValidPost (w : World) (cap fuse : Int) (down : Bool) (ys : List FI) (e : Ending) (w' : World) : Prop :=
 ∃ b, e = .returned (.bool b) ∧ (b = true ↔ FromOk cap fuse down ys) ∧ New w w'
theorem usedI_le {m : Nat} : ∀ {ys : List FI}, (∀ y ∈ ys, y.data.length ≤ m) → usedF (ys.map FI.fl) ≤ ys.length * m
 | [], _ => by simp [usedF]
 | y :: ys, h => by
  have h1 := usedI_le (fun z hz => h z (List.mem_cons_of_mem _ hz)) (ys := ys)
  have h2 := h y List.mem_cons_self
  rw [List.map_cons, used_cons, List.length_cons, Nat.add_mul]
  have : y.fl.data.length = y.data.length := rfl
  omega
set_option maxRecDepth 100000 in
set_option maxHeartbeats 4000000 in
theorem RValid_calls (w : World) (cap fuse : Int) (down : Bool) (A : Option Addr) (c : Nat) (ys : List FI) (h : RdI w A ys) (hl : ys.length ≤ 4611686018427387904) (hd : ∀ y ∈ ys, y.data.length ≤ 140737488355328) (hn : ∀ y ∈ ys, y.name.length ≤ 9223372036854775807) :
  Calls Tryz.prog 197 #[.agg #[.int .i64 cap, .slice A ys.length c, .int .i64 fuse, .bool down]] w (ValidPost w cap fuse down ys) := by
 have hmo : Tryz.prog.follows Departure.mixedOrders = true := by kernel_rfl
 have HI := Lib.hid (And.intro h (And.intro hd hn))
 clear h hd hn
 go_enter Tryz.func197, Tryz.ntmps197
 go_wp2_with fail
 obtain ⟨W, hW⟩ : ∃ W, w.alloc (.cells #[.int .i64 cap, .slice A ys.length c, .int .i64 fuse, .bool down] 59) = W := ⟨_, rfl⟩
 rw [hW]
 have nW : New w W := hW ▸ Kp.alloc _ _ _
 have bW : W.heap[w.heap.size]? = some (.cells #[.int .i64 cap, .slice A ys.length c, .int .i64 fuse, .bool down] 59 (0, 0)) := hW ▸ heap_alloc_new w _
 have c0 : W.cell? ⟨w.heap.size, 0, none⟩ = some (.int .i64 cap) := (cell_of_block bW).trans rfl
 have c1 : W.cell? ⟨w.heap.size, 1, none⟩ = some (.slice A ys.length c) := (cell_of_block bW).trans rfl
 have c2 : W.cell? ⟨w.heap.size, 2, none⟩ = some (.int .i64 fuse) := (cell_of_block bW).trans rfl
 have c3 : W.cell? ⟨w.heap.size, 3, none⟩ = some (.bool down) := (cell_of_block bW).trans rfl
 have HW := Lib.hid (And.intro nW bW)
 clear hW nW bW
 by_cases hbad : cap < 0 ∨ 1048576 < cap ∨ 64 < ys.length
 ·have hno : ¬ FromOk cap fuse down ys := fun h => by
   obtain ⟨q1, q2, q3, -⟩ := h
   omega
  have HNo := Lib.hid hno
  clear hno
  refine wp_region_line (fun w' => w'.cell? ⟨w.heap.size, 0, none⟩ = some (.int .i64 cap) ∧ w'.cell? ⟨w.heap.size, 1, none⟩ = some (.slice A ys.length c) ∧ w'.cell? ⟨w.heap.size, 2, none⟩ = some (.int .i64 fuse) ∧ w'.cell? ⟨w.heap.size, 3, none⟩ = some (.bool down)) (pl := [(0, true), (1, true), (2, true), (3, true), (4, true), (5, true), (6, true), (7, true), (8, true), (9, true), (10, true), (11, true), (12, true), (13, true), (14, true), (15, true), (17, true), (18, true), (16, false), (19, true), (20, true)]) hmo (by kernel_rfl) ⟨by simpa using c0, by simpa using c1, by simpa using c2, by simpa using c3⟩ ?_
  by_cases h1 : cap < 0
  ·have h1d : decide (cap < 0) = true := decide_eq_true h1
   clear hbad
   iterate 18 (first | (refine line_get rfl rfl (fun K hK => ?_); apply Exists.intro; refine ⟨fun w s => ?_, ?_⟩; (first | (have q := s rfl; go_simp; with_reducible rfl) | (go_simp; with_reducible rfl)); (go_simp; refine hK _ ?_; clear hK K)) | (refine line_past rfl rfl (fun K hK => ?_); go_simp; refine hK _ ?_; clear hK K))
   (refine line_miss rfl rfl (fun _ => ⟨by simpa using c0, by simpa using c1, by simpa using c2, by simpa using c3⟩) ?_; go_simp)
   iterate 2 (first | (refine line_get rfl rfl (fun K hK => ?_); apply Exists.intro; refine ⟨fun w s => ?_, ?_⟩; (first | (have q := s rfl; go_simp; with_reducible rfl) | (go_simp; with_reducible rfl)); (go_simp; refine hK _ ?_; clear hK K)) | (refine line_past rfl rfl (fun K hK => ?_); go_simp; refine hK _ ?_; clear hK K))
   refine line_nil ?_
   go_wp2_with fail
   go_ret
   exact ⟨false, rfl, by simp [HNo.out], HW.out.1.trans (Kp.drewN _ _ _) fid fid⟩
  ·have h1d : decide (cap < 0) = false := decide_eq_false h1
   by_cases h2 : 1048576 < cap
   ·have h2d : decide (1048576 < cap) = true := decide_eq_true h2
    clear hbad
    iterate 18 (first | (refine line_get rfl rfl (fun K hK => ?_); apply Exists.intro; refine ⟨fun w s => ?_, ?_⟩; (first | (have q := s rfl; go_simp; with_reducible rfl) | (go_simp; with_reducible rfl)); (go_simp; refine hK _ ?_; clear hK K)) | (refine line_past rfl rfl (fun K hK => ?_); go_simp; refine hK _ ?_; clear hK K))
    (refine line_miss rfl rfl (fun _ => ⟨by simpa using c0, by simpa using c1, by simpa using c2, by simpa using c3⟩) ?_; go_simp)
    iterate 2 (first | (refine line_get rfl rfl (fun K hK => ?_); apply Exists.intro; refine ⟨fun w s => ?_, ?_⟩; (first | (have q := s rfl; go_simp; with_reducible rfl) | (go_simp; with_reducible rfl)); (go_simp; refine hK _ ?_; clear hK K)) | (refine line_past rfl rfl (fun K hK => ?_); go_simp; refine hK _ ?_; clear hK K))
    refine line_nil ?_
    go_wp2_with fail
    go_ret
    exact ⟨false, rfl, by simp [HNo.out], HW.out.1.trans (Kp.drewN _ _ _) fid fid⟩
   ·have h2d : decide (1048576 < cap) = false := decide_eq_false h2
    have h3d : decide (64 < ys.length) = true := decide_eq_true (by omega)
    have h3e : decide ((64 : Int) < (ys.length : Int)) = true := decide_eq_true (by omega)
    clear hbad
    iterate 18 (first | (refine line_get rfl rfl (fun K hK => ?_); apply Exists.intro; refine ⟨fun w s => ?_, ?_⟩; (first | (have q := s rfl; go_simp; with_reducible rfl) | (go_simp; with_reducible rfl)); (go_simp; refine hK _ ?_; clear hK K)) | (refine line_past rfl rfl (fun K hK => ?_); go_simp; refine hK _ ?_; clear hK K))
    (refine line_miss rfl rfl (fun _ => ⟨by simpa using c0, by simpa using c1, by simpa using c2, by simpa using c3⟩) ?_; go_simp)
    iterate 2 (first | (refine line_get rfl rfl (fun K hK => ?_); apply Exists.intro; refine ⟨fun w s => ?_, ?_⟩; (first | (have q := s rfl; go_simp; with_reducible rfl) | (go_simp; with_reducible rfl)); (go_simp; refine hK _ ?_; clear hK K)) | (refine line_past rfl rfl (fun K hK => ?_); go_simp; refine hK _ ?_; clear hK K))
    refine line_nil ?_
    go_wp2_with fail
    go_ret
    exact ⟨false, rfl, by simp [HNo.out], HW.out.1.trans (Kp.drewN _ _ _) fid fid⟩
 ·have h1d : decide (cap < 0) = false := decide_eq_false (by omega)
  have h2d : decide (1048576 < cap) = false := decide_eq_false (by omega)
  have h3e : decide ((64 : Int) < (ys.length : Int)) = false := decide_eq_false (by omega)
  have hu : usedF (ys.map FI.fl) ≤ 4611686018427387904 := by
   have := usedI_le HI.out.2.1
   have : ys.length * 140737488355328 ≤ 64 * 140737488355328 := Nat.mul_le_mul_right _ (by omega)
   omega
  refine wp_region_line (fun w' => w'.cell? ⟨w.heap.size, 0, none⟩ = some (.int .i64 cap) ∧ w'.cell? ⟨w.heap.size, 1, none⟩ = some (.slice A ys.length c) ∧ w'.cell? ⟨w.heap.size, 2, none⟩ = some (.int .i64 fuse) ∧ w'.cell? ⟨w.heap.size, 3, none⟩ = some (.bool down)) (pl := [(0, true), (1, true), (2, true), (3, true), (4, true), (5, true), (6, true), (7, true), (8, true), (9, true), (10, true), (11, true), (12, true), (13, true), (14, true), (15, true), (17, true), (18, true), (16, false), (19, true), (20, true)]) hmo (by kernel_rfl) ⟨by simpa using c0, by simpa using c1, by simpa using c2, by simpa using c3⟩ ?_
  iterate 18 (refine line_get rfl rfl (fun K hK => ?_); apply Exists.intro; refine ⟨fun w s => ?_, ?_⟩; (first | (have q := s rfl; go_simp; with_reducible rfl) | (go_simp; with_reducible rfl)); (go_simp; refine hK _ ?_; clear hK K))
  (refine line_do rfl rfl (fun K hK => ?_); go_simp)
  refine (RBytes_calls W.drew cap fuse down A c ys ((HI.out.1.new HW.out.1).new (Kp.drew _ _)) hl hu).mono ?_
  rintro e w2 ⟨rfl, n2⟩
  have n12 : New W w2 := (Kp.drew _ _).trans n2 fid fid
  have d0 := n12.cell c0
  have d1 := n12.cell c1
  have d2 := n12.cell c2
  have d3 := n12.cell c3
  refine hK _ _ (fun _ => ⟨d0, d1, d2, d3⟩) ?_
  clear hK K
  have hb2 := heap_kp' HW.out.2 n12 id
  have H2 := Lib.hid (And.intro (HW.out.1.trans n12 fid fid) hb2)
  obtain ⟨m, hm⟩ : ∃ m, m = usedF (ys.map FI.fl) := ⟨_, rfl⟩
  rw [← hm] at hu ⊢
  have HM := Lib.hid hm
  clear hm n12 n2 c0 c1 c2 c3 hb2
  by_cases h4 : cap < (m : Int)
  ·have h4d : decide (cap < (m : Int)) = true := decide_eq_true h4
   have HNo := Lib.hid (show ¬ FromOk cap fuse down ys from fun h => by
    obtain ⟨q1, q2, q3, q4, q5, q6, q7, q8⟩ := h
    have := q7.used
    unfold DS.used at this
    simp only at this
    have := HM.out
    omega)
   clear hbad h4
   iterate 2 (refine line_get rfl rfl (fun K hK => ?_); apply Exists.intro; refine ⟨fun w s => ?_, ?_⟩; (first | (have q := s rfl; go_simp; with_reducible rfl) | (go_simp; with_reducible rfl)); (go_simp; refine hK _ ?_; clear hK K))
   refine line_nil ?_
   go_wp2_with fail
   go_ret
   exact ⟨false, rfl, by simp [HNo.out], H2.out.1⟩
  ·have h4d : decide (cap < (m : Int)) = false := decide_eq_false h4
   iterate 2 (refine line_get rfl rfl (fun K hK => ?_); apply Exists.intro; refine ⟨fun w s => ?_, ?_⟩; (first | (have q := s rfl; go_simp; with_reducible rfl) | (go_simp; with_reducible rfl)); (go_simp; refine hK _ ?_; clear hK K))
   refine line_nil ?_
   by_cases hbf : fuse < -1 ∨ 1048576 < fuse ∨ (down = true ∧ fuse ≠ -1)
   ·have HNo := Lib.hid (show ¬ FromOk cap fuse down ys from fun h => by
     obtain ⟨q1, q2, q3, q4, q5, q6, -⟩ := h
     rcases hbf with h | h | ⟨h, h'⟩
     ·omega
     ·omega
     ·exact h' (q6 h))
    by_cases f1 : fuse < -1
    ·have f1d : decide (fuse < -1) = true := decide_eq_true f1
     clear hbf hbad
     go_wp2_with fail
     go_ret
     exact ⟨false, rfl, by simp [HNo.out], H2.out.1⟩
    ·have f1d : decide (fuse < -1) = false := decide_eq_false f1
     by_cases f2 : 1048576 < fuse
     ·have f2d : decide (1048576 < fuse) = true := decide_eq_true f2
      clear hbf hbad
      go_wp2_with fail
      go_ret
      exact ⟨false, rfl, by simp [HNo.out], H2.out.1⟩
     ·have f2d : decide (1048576 < fuse) = false := decide_eq_false f2
      obtain ⟨rfl, f3⟩ : down = true ∧ fuse ≠ -1 := (hbf.resolve_left f1).resolve_left f2
      have f3d : (fuse != -1) = true := by simpa using f3
      clear hbf hbad
      go_wp2_with fail
      go_ret
      exact ⟨false, rfl, by simp [HNo.out], H2.out.1⟩
   ·have hf : -1 ≤ fuse ∧ fuse ≤ 1048576 ∧ (down = true → fuse = -1) := ⟨by omega, by omega, fun h => Decidable.byContradiction fun h' => hbf (.inr (.inr ⟨h, h'⟩))⟩
    have f1d : decide (fuse < -1) = false := decide_eq_false (by omega)
    have f2d : decide (1048576 < fuse) = false := decide_eq_false (by omega)
    have HF := Lib.hid hf.2.2
    have f3d : down = true → (fuse != -1) = false := fun h => by rw [hf.2.2 h]; rfl
    have HG := Lib.hid (show FromOk cap fuse down ys ↔ VPre cap.toNat ys from ⟨fun h => h.2.2.2.2.2.2, fun h => ⟨by omega, by omega, by omega, hf.1, hf.2.1, hf.2.2, h⟩⟩)
    have hV0 : VPre cap.toNat (ys.take 0) := ⟨⟨by simp only; omega, by simp [DS.used, usedF], by simp, by simp, by simp, by simp, by simp, by simp⟩, by simp⟩
    have HV := Lib.hid hV0
    clear hbf hf hV0
    cases down with
    | true =>
     have f3e := f3d rfl
     clear f3d
     go_wp2_with fail
     go_loopw [3] (fun i wr => ∃ k : Nat, k ≤ ys.length ∧ i = .int .i64 (k : Int) ∧ Hid (VPre cap.toNat (ys.take k) ∧ New w2 wr)) (fun i _ => ys.length - (intOf i).toNat)
     case atStart => exact ⟨0, Nat.zero_le _, rfl, Lib.hid ⟨HV.out, Kp.refl _ _⟩⟩
     case round =>
      obtain ⟨k, hk, rfl, HK⟩ := hrel
      have g1 := HK.out.2.cell d1
      have NW0 := Lib.hid (H2.out.1.trans HK.out.2 fid fid)
      have hk0 : (0 : Int) ≤ k := by omega
      by_cases hlt : k < ys.length
      ·obtain ⟨y, hy⟩ : ∃ y, ys[k]? = some y := ⟨_, List.getElem?_eq_getElem hlt⟩
       obtain ⟨b, off, rfl, e0, e1, e2⟩ := (HI.out.1.new NW0.out).at_ hy
       have hki : (k : Int) < (ys.length : Int) := by omega
       have htk : ys.take (k + 1) = ys.take k ++ [y] := by rw [List.take_add_one, hy]; rfl
       have hnl := HI.out.2.2 y (List.mem_of_getElem? hy)
       have hdl := HI.out.2.1 y (List.mem_of_getElem? hy)
       have HL := Lib.hid (show FromOk cap fuse true ys → goodN y.name = true ∧ (∀ p, (ys.take k).getLast? = some p → p.name < y.name) ∧ 0 ≤ y.syn ∧ y.syn ≤ y.data.length ∧ usedF ((ys.take k).map FI.fl) + y.data.length ≤ cap.toNat from fun h => by
        have := (HG.out.1 h).pre (k + 1)
        rw [htk] at this
        exact this.last)
       have hused : usedF ((ys.take k).map FI.fl) + y.data.length ≤ cap.toNat := by
        have h1 := used_take_succ hy
        have h2 := used_take ys (k + 1)
        have := HM.out
        omega
       have HY := Lib.hid (And.intro hy (And.intro htk hused))
       clear hy htk hused
       go_wp2_with fail
       obtain ⟨W, hW⟩ : ∃ W, wr.alloc (.cells #[.string (bstr y.name), .slice y.A y.data.length y.c, .int .i64 y.syn] 82) = W := ⟨_, rfl⟩
       rw [hW]
       have nW : New wr W := hW ▸ Kp.alloc _ _ _
       have bW := heap_alloc_new wr (.cells #[.string (bstr y.name), .slice y.A y.data.length y.c, .int .i64 y.syn] 82)
       rw [hW] at bW
       have v0 : W.cell? ⟨wr.heap.size, 0, none⟩ = some (.string (bstr y.name)) := (cell_of_block bW).trans rfl
       have v1 : W.cell? ⟨wr.heap.size, 1, none⟩ = some (.slice y.A y.data.length y.c) := (cell_of_block bW).trans rfl
       have v2 : W.cell? ⟨wr.heap.size, 2, none⟩ = some (.int .i64 y.syn) := (cell_of_block bW).trans rfl
       have h1 := nW.cell g1
       have NR := Lib.hid (NW0.out.trans nW fid fid)
       have NR2 := Lib.hid (HK.out.2.trans nW fid fid)
       clear hW nW bW e0 e1 e2 g1
       by_cases hgood : goodN y.name = true
       ·have HGo := Lib.hid hgood
        clear hgood
        by_cases hb1 : y.syn < 0
        ·have HNo := Lib.hid (show ¬ FromOk cap fuse true ys from fun h => by have := (HL.out h).2.2.1; omega)
         have hs1 : decide (y.syn < 0) = true := decide_eq_true hb1
         clear hb1
         refine (RName_calls W y.name hnl).mono ?_
         rintro e x ⟨rfl, rfl⟩
         rw [HGo.out]
         go_wp2_with fail
         go_ret
         exact ⟨false, rfl, by simp [HNo.out], NR.out⟩
        ·have hs1 : decide (y.syn < 0) = false := decide_eq_false hb1
         by_cases hb2 : (y.data.length : Int) < y.syn
         ·have HNo := Lib.hid (show ¬ FromOk cap fuse true ys from fun h => by have := (HL.out h).2.2.2.1; omega)
          have hs2 : decide ((y.data.length : Int) < y.syn) = true := decide_eq_true hb2
          clear hb1 hb2
          refine (RName_calls W y.name hnl).mono ?_
          rintro e x ⟨rfl, rfl⟩
          rw [HGo.out]
          go_wp2_with fail
          go_ret
          exact ⟨false, rfl, by simp [HNo.out], NR.out⟩
         ·have hs2 : decide ((y.data.length : Int) < y.syn) = false := decide_eq_false hb2
          have HS := Lib.hid (And.intro (show 0 ≤ y.syn by omega) (show y.syn ≤ y.data.length by omega))
          clear hb1 hb2
          refine (RName_calls W y.name hnl).mono ?_
          rintro e x ⟨rfl, rfl⟩
          rw [HGo.out]
          by_cases hkp : 0 < k
          ·obtain ⟨p, hp⟩ : ∃ p, ys[k - 1]? = some p := ⟨_, List.getElem?_eq_getElem (by omega)⟩
           have hpl : (ys.take k).getLast? = some p := by
            rw [List.getLast?_take, hp, if_neg (by omega)]
            rfl
           obtain ⟨b', off', he, e0, -, -⟩ := (HI.out.1.new NR.out).at_ hp
           cases he
           have hkm : (k : Int) - 1 < (ys.length : Int) := by omega
           have hkm0 : (0 : Int) ≤ (k : Int) - 1 := by omega
           have hk1 : (1 : Int) ≤ k := by omega
           have hwk : IntKind.i64.wrap ((k : Int) - 1) = (k : Int) - 1 := by rw [IntKind.wrap_i64]; omega
           have hkt : ((k : Int) - 1).toNat = k - 1 := by omega
           have hkd : decide (0 < k) = true := decide_eq_true (by omega)
           have hke : decide ((0 : Int) < (k : Int)) = true := decide_eq_true (by omega)
           have HP := Lib.hid (And.intro hpl hp)
           clear hpl hp
           by_cases hpy : p.name < y.name
           ·have l1 : Op.bytesLess (bstr p.name).toList (bstr y.name).toList = true := by rw [less_bstr]; exact decide_eq_true hpy
            have l2 : Op.bytesLess (bstr y.name).toList (bstr p.name).toList = false := by rw [less_bstr]; exact decide_eq_false fun h => nm_irrefl _ (nm_lt_trans h hpy)
            have l3 : ((bstr p.name).toList == (bstr y.name).toList) = false := by rw [bstr_beq]; exact decide_eq_false fun h => nm_irrefl _ (h ▸ hpy)
            have HO := Lib.hid (fun p' hp' => by rw [HP.out.1] at hp'; cases hp'; exact hpy : ∀ p', (ys.take k).getLast? = some p' → p'.name < y.name)
            clear hpy
            go_wp2_with fail
            go_quiet (fail)
            go_wp2_with fail
            exact ⟨⟨k + 1, by omega, by go_num, Lib.hid ⟨HY.out.2.1 ▸ HK.out.1.snoc (by rw [List.length_take]; omega) HGo.out HO.out HS.out.1 HS.out.2 HY.out.2.2, NR2.out.trans (Kp.drewN _ _ _) fid fid⟩⟩, by simp [intOf]; omega⟩
           ·have HNo := Lib.hid (show ¬ FromOk cap fuse true ys from fun h => hpy ((HL.out h).2.1 p HP.out.1))
            have l1 : Op.bytesLess (bstr p.name).toList (bstr y.name).toList = false := by rw [less_bstr]; exact decide_eq_false hpy
            have l2 : (Op.bytesLess (bstr y.name).toList (bstr p.name).toList || ((bstr p.name).toList == (bstr y.name).toList)) = true := by
             rw [less_bstr, bstr_beq]
             by_cases e : p.name = y.name
             ·simp [e]
             ·simp [nm_tri hpy e]
            clear hpy
            go_wp2_with fail
            go_quiet (fail)
            go_wp2_with fail
            go_ret
            exact ⟨false, rfl, by simp [HNo.out], NR.out.trans (Kp.drewN _ _ _) fid fid⟩
          ·obtain rfl : k = 0 := by omega
           have HO := Lib.hid (fun p' hp' => by simp at hp' : ∀ p', (ys.take 0).getLast? = some p' → p'.name < y.name)
           clear hkp
           go_wp2_with fail
           go_quiet (fail)
           go_wp2_with fail
           exact ⟨⟨0 + 1, by omega, by go_num, Lib.hid ⟨HY.out.2.1 ▸ HK.out.1.snoc (by simp) HGo.out HO.out HS.out.1 HS.out.2 HY.out.2.2, NR2.out.trans (Kp.drewN _ _ _) fid fid⟩⟩, by simp [intOf]; omega⟩
       ·have HNo := Lib.hid (show ¬ FromOk cap fuse true ys from fun h => hgood (HL.out h).1)
        have hgf := Lib.hid (show goodN y.name = false by simpa using hgood)
        clear hgood
        refine (RName_calls W y.name hnl).mono ?_
        rintro e x ⟨rfl, rfl⟩
        rw [hgf.out]
        go_wp2_with fail
        go_ret
        exact ⟨false, rfl, by simp [HNo.out], NR.out⟩
      ·obtain rfl : k = ys.length := by omega
       have hkd := not_lt_self ys.length
       go_wp2_with fail
       go_ret
       exact ⟨true, rfl, ⟨fun _ => HG.out.2 (by have := HK.out.1; rwa [List.take_length] at this), fun _ => rfl⟩, NW0.out⟩
    | false =>
     clear f3d
     go_wp2_with fail
     go_loopw [3] (fun i wr => ∃ k : Nat, k ≤ ys.length ∧ i = .int .i64 (k : Int) ∧ Hid (VPre cap.toNat (ys.take k) ∧ New w2 wr)) (fun i _ => ys.length - (intOf i).toNat)
     case atStart => exact ⟨0, Nat.zero_le _, rfl, Lib.hid ⟨HV.out, Kp.refl _ _⟩⟩
     case round =>
      obtain ⟨k, hk, rfl, HK⟩ := hrel
      have g1 := HK.out.2.cell d1
      have NW0 := Lib.hid (H2.out.1.trans HK.out.2 fid fid)
      have hk0 : (0 : Int) ≤ k := by omega
      by_cases hlt : k < ys.length
      ·obtain ⟨y, hy⟩ : ∃ y, ys[k]? = some y := ⟨_, List.getElem?_eq_getElem hlt⟩
       obtain ⟨b, off, rfl, e0, e1, e2⟩ := (HI.out.1.new NW0.out).at_ hy
       have hki : (k : Int) < (ys.length : Int) := by omega
       have htk : ys.take (k + 1) = ys.take k ++ [y] := by rw [List.take_add_one, hy]; rfl
       have hnl := HI.out.2.2 y (List.mem_of_getElem? hy)
       have hdl := HI.out.2.1 y (List.mem_of_getElem? hy)
       have HL := Lib.hid (show FromOk cap fuse false ys → goodN y.name = true ∧ (∀ p, (ys.take k).getLast? = some p → p.name < y.name) ∧ 0 ≤ y.syn ∧ y.syn ≤ y.data.length ∧ usedF ((ys.take k).map FI.fl) + y.data.length ≤ cap.toNat from fun h => by
        have := (HG.out.1 h).pre (k + 1)
        rw [htk] at this
        exact this.last)
       have hused : usedF ((ys.take k).map FI.fl) + y.data.length ≤ cap.toNat := by
        have h1 := used_take_succ hy
        have h2 := used_take ys (k + 1)
        have := HM.out
        omega
       have HY := Lib.hid (And.intro hy (And.intro htk hused))
       clear hy htk hused
       go_wp2_with fail
       obtain ⟨W, hW⟩ : ∃ W, wr.alloc (.cells #[.string (bstr y.name), .slice y.A y.data.length y.c, .int .i64 y.syn] 82) = W := ⟨_, rfl⟩
       rw [hW]
       have nW : New wr W := hW ▸ Kp.alloc _ _ _
       have bW := heap_alloc_new wr (.cells #[.string (bstr y.name), .slice y.A y.data.length y.c, .int .i64 y.syn] 82)
       rw [hW] at bW
       have v0 : W.cell? ⟨wr.heap.size, 0, none⟩ = some (.string (bstr y.name)) := (cell_of_block bW).trans rfl
       have v1 : W.cell? ⟨wr.heap.size, 1, none⟩ = some (.slice y.A y.data.length y.c) := (cell_of_block bW).trans rfl
       have v2 : W.cell? ⟨wr.heap.size, 2, none⟩ = some (.int .i64 y.syn) := (cell_of_block bW).trans rfl
       have h1 := nW.cell g1
       have NR := Lib.hid (NW0.out.trans nW fid fid)
       have NR2 := Lib.hid (HK.out.2.trans nW fid fid)
       clear hW nW bW e0 e1 e2 g1
       by_cases hgood : goodN y.name = true
       ·have HGo := Lib.hid hgood
        clear hgood
        by_cases hb1 : y.syn < 0
        ·have HNo := Lib.hid (show ¬ FromOk cap fuse false ys from fun h => by have := (HL.out h).2.2.1; omega)
         have hs1 : decide (y.syn < 0) = true := decide_eq_true hb1
         clear hb1
         refine (RName_calls W y.name hnl).mono ?_
         rintro e x ⟨rfl, rfl⟩
         rw [HGo.out]
         go_wp2_with fail
         go_ret
         exact ⟨false, rfl, by simp [HNo.out], NR.out⟩
        ·have hs1 : decide (y.syn < 0) = false := decide_eq_false hb1
         by_cases hb2 : (y.data.length : Int) < y.syn
         ·have HNo := Lib.hid (show ¬ FromOk cap fuse false ys from fun h => by have := (HL.out h).2.2.2.1; omega)
          have hs2 : decide ((y.data.length : Int) < y.syn) = true := decide_eq_true hb2
          clear hb1 hb2
          refine (RName_calls W y.name hnl).mono ?_
          rintro e x ⟨rfl, rfl⟩
          rw [HGo.out]
          go_wp2_with fail
          go_ret
          exact ⟨false, rfl, by simp [HNo.out], NR.out⟩
         ·have hs2 : decide ((y.data.length : Int) < y.syn) = false := decide_eq_false hb2
          have HS := Lib.hid (And.intro (show 0 ≤ y.syn by omega) (show y.syn ≤ y.data.length by omega))
          clear hb1 hb2
          refine (RName_calls W y.name hnl).mono ?_
          rintro e x ⟨rfl, rfl⟩
          rw [HGo.out]
          by_cases hkp : 0 < k
          ·obtain ⟨p, hp⟩ : ∃ p, ys[k - 1]? = some p := ⟨_, List.getElem?_eq_getElem (by omega)⟩
           have hpl : (ys.take k).getLast? = some p := by
            rw [List.getLast?_take, hp, if_neg (by omega)]
            rfl
           obtain ⟨b', off', he, e0, -, -⟩ := (HI.out.1.new NR.out).at_ hp
           cases he
           have hkm : (k : Int) - 1 < (ys.length : Int) := by omega
           have hkm0 : (0 : Int) ≤ (k : Int) - 1 := by omega
           have hk1 : (1 : Int) ≤ k := by omega
           have hwk : IntKind.i64.wrap ((k : Int) - 1) = (k : Int) - 1 := by rw [IntKind.wrap_i64]; omega
           have hkt : ((k : Int) - 1).toNat = k - 1 := by omega
           have hkd : decide (0 < k) = true := decide_eq_true (by omega)
           have hke : decide ((0 : Int) < (k : Int)) = true := decide_eq_true (by omega)
           have HP := Lib.hid (And.intro hpl hp)
           clear hpl hp
           by_cases hpy : p.name < y.name
           ·have l1 : Op.bytesLess (bstr p.name).toList (bstr y.name).toList = true := by rw [less_bstr]; exact decide_eq_true hpy
            have l2 : Op.bytesLess (bstr y.name).toList (bstr p.name).toList = false := by rw [less_bstr]; exact decide_eq_false fun h => nm_irrefl _ (nm_lt_trans h hpy)
            have l3 : ((bstr p.name).toList == (bstr y.name).toList) = false := by rw [bstr_beq]; exact decide_eq_false fun h => nm_irrefl _ (h ▸ hpy)
            have HO := Lib.hid (fun p' hp' => by rw [HP.out.1] at hp'; cases hp'; exact hpy : ∀ p', (ys.take k).getLast? = some p' → p'.name < y.name)
            clear hpy
            go_wp2_with fail
            go_quiet (fail)
            go_wp2_with fail
            exact ⟨⟨k + 1, by omega, by go_num, Lib.hid ⟨HY.out.2.1 ▸ HK.out.1.snoc (by rw [List.length_take]; omega) HGo.out HO.out HS.out.1 HS.out.2 HY.out.2.2, NR2.out.trans (Kp.drewN _ _ _) fid fid⟩⟩, by simp [intOf]; omega⟩
           ·have HNo := Lib.hid (show ¬ FromOk cap fuse false ys from fun h => hpy ((HL.out h).2.1 p HP.out.1))
            have l1 : Op.bytesLess (bstr p.name).toList (bstr y.name).toList = false := by rw [less_bstr]; exact decide_eq_false hpy
            have l2 : (Op.bytesLess (bstr y.name).toList (bstr p.name).toList || ((bstr p.name).toList == (bstr y.name).toList)) = true := by
             rw [less_bstr, bstr_beq]
             by_cases e : p.name = y.name
             ·simp [e]
             ·simp [nm_tri hpy e]
            clear hpy
            go_wp2_with fail
            go_quiet (fail)
            go_wp2_with fail
            go_ret
            exact ⟨false, rfl, by simp [HNo.out], NR.out.trans (Kp.drewN _ _ _) fid fid⟩
          ·obtain rfl : k = 0 := by omega
           have HO := Lib.hid (fun p' hp' => by simp at hp' : ∀ p', (ys.take 0).getLast? = some p' → p'.name < y.name)
           clear hkp
           go_wp2_with fail
           go_quiet (fail)
           go_wp2_with fail
           exact ⟨⟨0 + 1, by omega, by go_num, Lib.hid ⟨HY.out.2.1 ▸ HK.out.1.snoc (by simp) HGo.out HO.out HS.out.1 HS.out.2 HY.out.2.2, NR2.out.trans (Kp.drewN _ _ _) fid fid⟩⟩, by simp [intOf]; omega⟩
       ·have HNo := Lib.hid (show ¬ FromOk cap fuse false ys from fun h => hgood (HL.out h).1)
        have hgf := Lib.hid (show goodN y.name = false by simpa using hgood)
        clear hgood
        refine (RName_calls W y.name hnl).mono ?_
        rintro e x ⟨rfl, rfl⟩
        rw [hgf.out]
        go_wp2_with fail
        go_ret
        exact ⟨false, rfl, by simp [HNo.out], NR.out⟩
      ·obtain rfl : k = ys.length := by omega
       have hkd := not_lt_self ys.length
       go_wp2_with fail
       go_ret
       exact ⟨true, rfl, ⟨fun _ => HG.out.2 (by have := HK.out.1; rwa [List.take_length] at this), fun _ => rfl⟩, NW0.out⟩
end Go.Proofs.YtekcoeonlfmebaaGreatDoor.Kit
