/- 1 texts in one: disk.From: behind the first tests, the power on. -/
import Derived.Test.YtekcoeonlfmebaaGreatDoorM24
namespace Go.Proofs.YtekcoeonlfmebaaGreatDoor.Kit
open Go Go.RowKit
set_option maxRecDepth 100000 in
set_option maxHeartbeats 8000000 in
theorem From_on (w : World) (cap : Nat) (fuse : Int) (A : Option Addr) (c : Nat) (ys : List FI) (HI : Hid (RdI w A ys ∧ (∀ y ∈ ys, y.name.length ≤ 9223372036854775807 ∧ y.data.length ≤ 9223372036854775807) ∧ ∀ y ∈ ys, -9223372036854775808 ≤ y.syn ∧ y.syn ≤ 9223372036854775807)) (hlen : ys.length ≤ 9223372036854775807)
  (hcap : cap ≤ 1048576) (h64 : ¬ 64 < ys.length) (hf1 : -1 ≤ fuse) (hf2 : fuse ≤ 1048576) (HG : Hid (false = true → fuse = -1)) :
  Calls Tryz.prog 95 #[.agg #[.int .i64 (cap : Int), .slice A ys.length c, .int .i64 fuse, .bool false]] w (FromPost w cap fuse false ys) := by
 have hmo : Tryz.prog.follows Departure.mixedOrders = true := by kernel_rfl
 have h64i : decide ((64 : Int) < (ys.length : Int)) = false := decide_eq_false (by omega)
 go_enter Tryz.func95, Tryz.ntmps95
 go_wp2_with fail
 refine (New_calls _ cap _ rfl hcap).mono ?_
 rintro e w1 ⟨d, F, rfl, hD, hn1, hFn⟩
 have hbx := heap_kp (S := fun _ => False) (Bx4.new_ w (.cells #[.int .i64 (cap : Int), .slice A ys.length c, .int .i64 fuse, .bool false] 59)) hn1 id
 have f0 : w1.cell? ⟨w.heap.size, 0, none⟩ = some (.int .i64 (cap : Int)) := (cell_of_block hbx).trans rfl
 have f1 : w1.cell? ⟨w.heap.size, 1, none⟩ = some (.slice A ys.length c) := (cell_of_block hbx).trans rfl
 have f2 : w1.cell? ⟨w.heap.size, 2, none⟩ = some (.int .i64 fuse) := (cell_of_block hbx).trans rfl
 have f3 : w1.cell? ⟨w.heap.size, 3, none⟩ = some (.bool false) := (cell_of_block hbx).trans rfl
 have nW : New w w1 := (Kp.alloc _ _ _).trans hn1 fid fid
 have HN := Lib.hid (And.intro nW (And.intro hbx (And.intro hD (fun k hk => (by have := hFn k hk; simpa using this : w.heap.size + 1 ≤ k)))))
 clear hD hn1 hFn hbx nW
 go_wp2_with fail
 go_loopw [44] (fun i wr => ∃ (k : Nat) (G : List Nat), k ≤ ys.length ∧ i = .int .i64 (k : Int) ∧ Hid (VPre cap (ys.take k) ∧ DiskAt wr d ⟨cap, (ys.take k).map FI.fl, -1, false⟩ G ∧ (∀ j ∈ G, w.heap.size + 1 ≤ j) ∧ wr.heap[w.heap.size]? = w1.heap[w.heap.size]? ∧ New w wr)) (fun i _ => ys.length - (intOf i).toNat)
 case atStart => exact ⟨0, F, Nat.zero_le _, rfl, Lib.hid ⟨⟨DS.Ok.new hcap, by simp⟩, HN.out.2.2.1, HN.out.2.2.2, rfl, HN.out.1⟩⟩
 case round =>
  obtain ⟨k, G, hk, rfl, HK⟩ := hrel
  have hbx := HK.out.2.2.2.1.trans HN.out.2.1
  have g0 : wr.cell? ⟨w.heap.size, 0, none⟩ = some (.int .i64 (cap : Int)) := (cell_of_block hbx).trans rfl
  have g1 : wr.cell? ⟨w.heap.size, 1, none⟩ = some (.slice A ys.length c) := (cell_of_block hbx).trans rfl
  clear f0 f1 hbx
  by_cases hlt : k < ys.length
  ·obtain ⟨y, hy⟩ : ∃ y, ys[k]? = some y := ⟨_, List.getElem?_eq_getElem hlt⟩
   obtain ⟨b, off, rfl, e0, e1, e2⟩ := (HI.out.1.new HK.out.2.2.2.2).at_ hy
   have hki : (k : Int) < (ys.length : Int) := by omega
   have hk0 : (0 : Int) ≤ k := by omega
   go_wp2_with fail
   obtain ⟨bm, hdb⟩ := HK.out.2.1.cells
   have d1 : wr.cell? ⟨d, 1, none⟩ = some (.int .i64 ((DS.used ⟨cap, (ys.take k).map FI.fl, -1, false⟩ : Nat) : Int)) := (cell_of_block hdb).trans rfl
   have hus := HK.out.2.1.ok.used
   have hym := List.mem_of_getElem? hy
   have hyn := HI.out.2.1 y hym
   have hys := HI.out.2.2 y hym
   have htk : ys.take (k + 1) = ys.take k ++ [y] := by rw [List.take_add_one, hy]; rfl
   have hlast : FromOk cap fuse false ys → goodN y.name = true ∧ (∀ p, (ys.take k).getLast? = some p → p.name < y.name) ∧ 0 ≤ y.syn ∧ y.syn ≤ y.data.length ∧ DS.used ⟨cap, (ys.take k).map FI.fl, -1, false⟩ + y.data.length ≤ cap := fun h => by
    have := h.2.2.2.2.2.2.pre (k + 1)
    rw [htk] at this
    exact this.last
   have n1 : New wr (wr.alloc (.cells #[.string (bstr y.name), .slice y.A y.data.length y.c, .int .i64 y.syn] 82)) := Kp.alloc _ _ _
   have t0 := heap_alloc_new wr (.cells #[.string (bstr y.name), .slice y.A y.data.length y.c, .int .i64 y.syn] 82)
   generalize hU : DS.used ⟨cap, (ys.take k).map FI.fl, -1, false⟩ = U at d1 hus hlast
   replace hus : U ≤ cap := hus
   obtain ⟨W, hW⟩ : ∃ W, wr.alloc (.cells #[.string (bstr y.name), .slice y.A y.data.length y.c, .int .i64 y.syn] 82) = W := ⟨_, rfl⟩
   rw [hW] at n1 t0
   rw [hW]
   have v0 : W.cell? ⟨wr.heap.size, 0, none⟩ = some (.string (bstr y.name)) := (cell_of_block t0).trans rfl
   have v1 : W.cell? ⟨wr.heap.size, 1, none⟩ = some (.slice y.A y.data.length y.c) := (cell_of_block t0).trans rfl
   have v2 : W.cell? ⟨wr.heap.size, 2, none⟩ = some (.int .i64 y.syn) := (cell_of_block t0).trans rfl
   have h0 := n1.cell g0
   have h1 := n1.cell g1
   have hd1 := n1.cell d1
   have HW := Lib.hid (And.intro hW (And.intro t0 (And.intro n1 (And.intro hy (And.intro htk (And.intro hlast hU))))))
   clear hW t0 n1 hy htk hlast hU hdb g0 g1 d1 e0 e1 e2 hym
   by_cases hg : goodN y.name = true
   ·have hcnd : FromOk cap fuse false ys → (∀ p, (ys.take k).getLast? = some p → p.name < y.name) ∧ 0 ≤ y.syn ∧ y.syn ≤ y.data.length ∧ U + y.data.length ≤ cap := fun h => (HW.out.2.2.2.2.2.1 h).2
    have HC := Lib.hid (And.intro hcnd hg)
    clear hcnd
    by_cases hkp : (0 : Int) < k
    ·obtain ⟨p, hp⟩ : ∃ p, ys[k - 1]? = some p := ⟨_, List.getElem?_eq_getElem (by omega)⟩
     have hpl : (ys.take k).getLast? = some p := by
      rw [List.getLast?_take, hp, if_neg (by omega)]
      rfl
     obtain ⟨b', off', he, e0, -, -⟩ := (HI.out.1.new (HK.out.2.2.2.2.trans HW.out.2.2.1 fid fid)).at_ hp
     cases he
     have hkm : (k : Int) - 1 < (ys.length : Int) := by omega
     have hkm0 : (0 : Int) ≤ (k : Int) - 1 := by omega
     have hk1 : (1 : Int) ≤ k := by omega
     have hwk : IntKind.i64.wrap ((k : Int) - 1) = (k : Int) - 1 := by rw [IntKind.wrap_i64]; omega
     have hkt : ((k : Int) - 1).toNat = k - 1 := by omega
     have HP := Lib.hid (And.intro hpl hp)
     have hkd : decide (0 < k) = true := decide_eq_true (by omega)
     clear hpl hp
     by_cases hpy : p.name < y.name
     ·have hl1 : Op.bytesLess (bstr y.name).toList (bstr p.name).toList = false := by rw [less_bstr]; exact decide_eq_false fun h => nm_irrefl _ (nm_lt_trans h hpy)
      have hl2 : ((bstr y.name).toList == (bstr p.name).toList) = false := by rw [bstr_beq]; exact decide_eq_false fun h => nm_irrefl _ (h ▸ hpy)
      have HO := Lib.hid (fun p' hp' => by rw [HP.out.1] at hp'; cases hp'; exact hpy : ∀ p', (ys.take k).getLast? = some p' → p'.name < y.name)
      clear hpy
      by_cases hb1 : y.syn < 0
      ·have hnot : ¬ FromOk cap fuse false ys := fun h => by have := (HC.out.1 h).2.1; omega
       have hs1 : decide (y.syn < 0) = true := decide_eq_true hb1
       clear hb1
       refine wp_region_line (fun w' => w'.cell? ⟨wr.heap.size, 0, none⟩ = some (.string (bstr y.name)) ∧ w'.cell? ⟨wr.heap.size, 1, none⟩ = some (.slice y.A y.data.length y.c) ∧ w'.cell? ⟨wr.heap.size, 2, none⟩ = some (.int .i64 y.syn) ∧ w'.cell? ⟨w.heap.size, 0, none⟩ = some (.int .i64 (cap : Int)) ∧ w'.cell? ⟨w.heap.size, 1, none⟩ = some (.slice (some ⟨b, off, none⟩) ys.length c) ∧ w'.cell? ⟨d, 1, none⟩ = some (.int .i64 (U : Int)) ∧ w'.cell? ⟨b, off + (k - 1) * 3, none⟩ = some (.string (bstr p.name))) (pl := [(0, true), (1, true), (2, false), (3, true), (4, true), (5, true), (6, true), (7, true), (8, true), (9, true), (10, true), (11, true), (12, true), (13, true), (14, true), (15, true), (16, true), (17, true), (18, true), (19, true), (20, true), (21, true), (22, true), (23, true), (24, true), (25, true), (26, true), (27, true), (28, true), (29, true), (30, true), (31, true), (32, true), (33, true), (34, true), (35, true), (36, true), (37, true), (38, true), (39, true), (40, true), (41, true), (42, true), (43, true), (44, true), (45, true)]) hmo (by kernel_rfl) ⟨by simpa using v0, by simpa using v1, by simpa using v2, by simpa using h0, by simpa using h1, by simpa using hd1, by simpa using e0⟩ ?_
       iterate 2 (refine line_get rfl rfl (fun K hK => ?_); apply Exists.intro; refine ⟨fun w s => ?_, ?_⟩; (first | (have q := s rfl; go_simp; with_reducible rfl) | (go_simp; with_reducible rfl)); (go_simp; refine hK _ ?_; clear hK K))
       (refine line_do rfl rfl (fun K hK => ?_); go_simp)
       refine (good_calls W.drew y.name hyn.1).mono ?_
       rintro e w2 ⟨rfl, hn2⟩
       rw [hg]
       have n2 : New W w2 := (Kp.drew _ _).trans (show New W.drew w2 from hn2) fid fid
       refine hK _ _ (fun _ => ⟨n2.cell v0, n2.cell v1, n2.cell v2, n2.cell h0, n2.cell h1, n2.cell hd1, n2.cell e0⟩) ?_
       clear hK K
       have HM := Lib.hid n2
       clear n2 hn2
       iterate 43 (first | (refine line_get rfl rfl (fun K hK => ?_); apply Exists.intro; refine ⟨fun w s => ?_, ?_⟩; (first | (have q := s rfl; go_simp; with_reducible rfl) | (go_simp; with_reducible rfl)); (go_simp; refine hK _ ?_; clear hK K)) | (refine line_past rfl rfl (fun K hK => ?_); go_simp; refine hK _ ?_; clear hK K))
       refine line_nil ?_
       go_wp2_with fail
       go_ret2
       exact .inr ⟨hnot, rfl, (HK.out.2.2.2.2.trans HW.out.2.2.1 fid fid).trans HM.out fid fid⟩
      ·have hs1 : decide (y.syn < 0) = false := decide_eq_false hb1
       by_cases hb2 : (y.data.length : Int) < y.syn
       ·have hnot : ¬ FromOk cap fuse false ys := fun h => by have := (HC.out.1 h).2.2.1; omega
        have hs2 : decide ((y.data.length : Int) < y.syn) = true := decide_eq_true hb2
        clear hb1 hb2
        refine wp_region_line (fun w' => w'.cell? ⟨wr.heap.size, 0, none⟩ = some (.string (bstr y.name)) ∧ w'.cell? ⟨wr.heap.size, 1, none⟩ = some (.slice y.A y.data.length y.c) ∧ w'.cell? ⟨wr.heap.size, 2, none⟩ = some (.int .i64 y.syn) ∧ w'.cell? ⟨w.heap.size, 0, none⟩ = some (.int .i64 (cap : Int)) ∧ w'.cell? ⟨w.heap.size, 1, none⟩ = some (.slice (some ⟨b, off, none⟩) ys.length c) ∧ w'.cell? ⟨d, 1, none⟩ = some (.int .i64 (U : Int)) ∧ w'.cell? ⟨b, off + (k - 1) * 3, none⟩ = some (.string (bstr p.name))) (pl := [(0, true), (1, true), (2, false), (3, true), (4, true), (5, true), (6, true), (7, true), (8, true), (9, true), (10, true), (11, true), (12, true), (13, true), (14, true), (15, true), (16, true), (17, true), (18, true), (19, true), (20, true), (21, true), (22, true), (23, true), (24, true), (25, true), (26, true), (27, true), (28, true), (29, true), (30, true), (31, true), (32, true), (33, true), (34, true), (35, true), (36, true), (37, true), (38, true), (39, true), (40, true), (41, true), (42, true), (43, true), (44, true), (45, true)]) hmo (by kernel_rfl) ⟨by simpa using v0, by simpa using v1, by simpa using v2, by simpa using h0, by simpa using h1, by simpa using hd1, by simpa using e0⟩ ?_
        iterate 2 (refine line_get rfl rfl (fun K hK => ?_); apply Exists.intro; refine ⟨fun w s => ?_, ?_⟩; (first | (have q := s rfl; go_simp; with_reducible rfl) | (go_simp; with_reducible rfl)); (go_simp; refine hK _ ?_; clear hK K))
        (refine line_do rfl rfl (fun K hK => ?_); go_simp)
        refine (good_calls W.drew y.name hyn.1).mono ?_
        rintro e w2 ⟨rfl, hn2⟩
        rw [hg]
        have n2 : New W w2 := (Kp.drew _ _).trans (show New W.drew w2 from hn2) fid fid
        refine hK _ _ (fun _ => ⟨n2.cell v0, n2.cell v1, n2.cell v2, n2.cell h0, n2.cell h1, n2.cell hd1, n2.cell e0⟩) ?_
        clear hK K
        have HM := Lib.hid n2
        clear n2 hn2
        iterate 43 (first | (refine line_get rfl rfl (fun K hK => ?_); apply Exists.intro; refine ⟨fun w s => ?_, ?_⟩; (first | (have q := s rfl; go_simp; with_reducible rfl) | (go_simp; with_reducible rfl)); (go_simp; refine hK _ ?_; clear hK K)) | (refine line_past rfl rfl (fun K hK => ?_); go_simp; refine hK _ ?_; clear hK K))
        refine line_nil ?_
        go_wp2_with fail
        go_ret2
        exact .inr ⟨hnot, rfl, (HK.out.2.2.2.2.trans HW.out.2.2.1 fid fid).trans HM.out fid fid⟩
       ·have hs2 : decide ((y.data.length : Int) < y.syn) = false := decide_eq_false hb2
        by_cases hb3 : (cap : Int) - (U : Int) < (y.data.length : Int)
        ·have hnot : ¬ FromOk cap fuse false ys := fun h => by have := (HC.out.1 h).2.2.2; omega
         have hs3 : decide ((cap : Int) - (U : Int) < (y.data.length : Int)) = true := decide_eq_true hb3
         have hwc : IntKind.i64.wrap ((cap : Int) - (U : Int)) = (cap : Int) - (U : Int) := by rw [IntKind.wrap_i64]; omega
         clear hb1 hb2 hb3
         refine wp_region_line (fun w' => w'.cell? ⟨wr.heap.size, 0, none⟩ = some (.string (bstr y.name)) ∧ w'.cell? ⟨wr.heap.size, 1, none⟩ = some (.slice y.A y.data.length y.c) ∧ w'.cell? ⟨wr.heap.size, 2, none⟩ = some (.int .i64 y.syn) ∧ w'.cell? ⟨w.heap.size, 0, none⟩ = some (.int .i64 (cap : Int)) ∧ w'.cell? ⟨w.heap.size, 1, none⟩ = some (.slice (some ⟨b, off, none⟩) ys.length c) ∧ w'.cell? ⟨d, 1, none⟩ = some (.int .i64 (U : Int)) ∧ w'.cell? ⟨b, off + (k - 1) * 3, none⟩ = some (.string (bstr p.name))) (pl := [(0, true), (1, true), (2, false), (3, true), (4, true), (5, true), (6, true), (7, true), (8, true), (9, true), (10, true), (11, true), (12, true), (13, true), (14, true), (15, true), (16, true), (17, true), (18, true), (19, true), (20, true), (21, true), (22, true), (23, true), (24, true), (25, true), (26, true), (27, true), (28, true), (29, true), (30, true), (31, true), (32, true), (33, true), (34, true), (35, true), (36, true), (37, true), (38, true), (39, true), (40, true), (41, true), (42, true), (43, true), (44, true), (45, true)]) hmo (by kernel_rfl) ⟨by simpa using v0, by simpa using v1, by simpa using v2, by simpa using h0, by simpa using h1, by simpa using hd1, by simpa using e0⟩ ?_
         iterate 2 (refine line_get rfl rfl (fun K hK => ?_); apply Exists.intro; refine ⟨fun w s => ?_, ?_⟩; (first | (have q := s rfl; go_simp; with_reducible rfl) | (go_simp; with_reducible rfl)); (go_simp; refine hK _ ?_; clear hK K))
         (refine line_do rfl rfl (fun K hK => ?_); go_simp)
         refine (good_calls W.drew y.name hyn.1).mono ?_
         rintro e w2 ⟨rfl, hn2⟩
         rw [hg]
         have n2 : New W w2 := (Kp.drew _ _).trans (show New W.drew w2 from hn2) fid fid
         refine hK _ _ (fun _ => ⟨n2.cell v0, n2.cell v1, n2.cell v2, n2.cell h0, n2.cell h1, n2.cell hd1, n2.cell e0⟩) ?_
         clear hK K
         have HM := Lib.hid n2
         clear n2 hn2
         iterate 43 (first | (refine line_get rfl rfl (fun K hK => ?_); apply Exists.intro; refine ⟨fun w s => ?_, ?_⟩; (first | (have q := s rfl; go_simp; with_reducible rfl) | (go_simp; with_reducible rfl)); (go_simp; refine hK _ ?_; clear hK K)) | (refine line_past rfl rfl (fun K hK => ?_); go_simp; refine hK _ ?_; clear hK K))
         refine line_nil ?_
         go_wp2_with fail
         go_ret2
         exact .inr ⟨hnot, rfl, (HK.out.2.2.2.2.trans HW.out.2.2.1 fid fid).trans HM.out fid fid⟩
        ·have hs3 : decide ((cap : Int) - (U : Int) < (y.data.length : Int)) = false := decide_eq_false hb3
         have hwc : IntKind.i64.wrap ((cap : Int) - (U : Int)) = (cap : Int) - (U : Int) := by rw [IntKind.wrap_i64]; omega
         refine wp_region_line (fun w' => w'.cell? ⟨wr.heap.size, 0, none⟩ = some (.string (bstr y.name)) ∧ w'.cell? ⟨wr.heap.size, 1, none⟩ = some (.slice y.A y.data.length y.c) ∧ w'.cell? ⟨wr.heap.size, 2, none⟩ = some (.int .i64 y.syn) ∧ w'.cell? ⟨w.heap.size, 0, none⟩ = some (.int .i64 (cap : Int)) ∧ w'.cell? ⟨w.heap.size, 1, none⟩ = some (.slice (some ⟨b, off, none⟩) ys.length c) ∧ w'.cell? ⟨d, 1, none⟩ = some (.int .i64 (U : Int)) ∧ w'.cell? ⟨b, off + (k - 1) * 3, none⟩ = some (.string (bstr p.name))) (pl := [(0, true), (1, true), (2, false), (3, true), (4, true), (5, true), (6, true), (7, true), (8, true), (9, true), (10, true), (11, true), (12, true), (13, true), (14, true), (15, true), (16, true), (17, true), (18, true), (19, true), (20, true), (21, true), (22, true), (23, true), (24, true), (25, true), (26, true), (27, true), (28, true), (29, true), (30, true), (31, true), (32, true), (33, true), (34, true), (35, true), (36, true), (37, true), (38, true), (39, true), (40, true), (41, true), (42, true), (43, true), (44, true), (45, true)]) hmo (by kernel_rfl) ⟨by simpa using v0, by simpa using v1, by simpa using v2, by simpa using h0, by simpa using h1, by simpa using hd1, by simpa using e0⟩ ?_
         iterate 2 (refine line_get rfl rfl (fun K hK => ?_); apply Exists.intro; refine ⟨fun w s => ?_, ?_⟩; (first | (have q := s rfl; go_simp; with_reducible rfl) | (go_simp; with_reducible rfl)); (go_simp; refine hK _ ?_; clear hK K))
         (refine line_do rfl rfl (fun K hK => ?_); go_simp)
         refine (good_calls W.drew y.name hyn.1).mono ?_
         rintro e w2 ⟨rfl, hn2⟩
         rw [hg]
         have n2 : New W w2 := (Kp.drew _ _).trans (show New W.drew w2 from hn2) fid fid
         refine hK _ _ (fun _ => ⟨n2.cell v0, n2.cell v1, n2.cell v2, n2.cell h0, n2.cell h1, n2.cell hd1, n2.cell e0⟩) ?_
         clear hK K
         have HM := Lib.hid n2
         clear n2 hn2
         iterate 43 (first | (refine line_get rfl rfl (fun K hK => ?_); apply Exists.intro; refine ⟨fun w s => ?_, ?_⟩; (first | (have q := s rfl; go_simp; with_reducible rfl) | (go_simp; with_reducible rfl)); (go_simp; refine hK _ ?_; clear hK K)) | (refine line_past rfl rfl (fun K hK => ?_); go_simp; refine hK _ ?_; clear hK K))
         refine line_nil ?_
         go_wp2_with fail
         have n3 : New wr w2 := HW.out.2.2.1.trans HM.out fid fid
         have hUU := HW.out.2.2.2.2.2.2
         have hok : VPre cap (ys.take k ++ [y]) := HK.out.1.snoc (by simp only [List.length_take]; omega) HC.out.2 HO.out (by omega) (by omega) (by unfold DS.used at hUU; simp only at hUU; omega)
         obtain ⟨bm, xs, hX, hG⟩ := HK.out.2.1.new n3
         have b2 : w2.cell? ⟨d, 2, none⟩ = some (.map (some bm)) := (cell_of_block hX.blk).trans rfl
         have q0 := HM.out.cell v0
         have q1 := HM.out.cell v1
         have q2 := HM.out.cell v2
         have hyl : y.data.length ≤ 70368744177664 := by omega
         have hrd := ((HI.out.1.2 y (List.mem_of_getElem? HW.out.2.2.2.1)).new HK.out.2.2.2.2).new n3
         have HX := Lib.hid (And.intro hX (And.intro hG (And.intro n3 (And.intro hok hrd))))
         clear hX hG n3 hok hrd v0 v1 v2 h0 h1 hd1 hUU
         refine wp_region_line (fun w' => w'.cell? ⟨d, 2, none⟩ = some (.map (some bm)) ∧ w'.cell? ⟨wr.heap.size, 0, none⟩ = some (.string (bstr y.name)) ∧ w'.cell? ⟨wr.heap.size, 1, none⟩ = some (.slice y.A y.data.length y.c) ∧ w'.cell? ⟨wr.heap.size, 2, none⟩ = some (.int .i64 y.syn)) (pl := [(0, true), (1, true), (2, true), (3, true), (4, true), (5, true), (6, true), (7, true), (9, true), (10, true), (8, false), (11, true), (12, false), (13, false)]) hmo (by kernel_rfl) ⟨by simpa using b2, by simpa using q0, by simpa using q1, by simpa using q2⟩ ?_
         iterate 10 (refine line_get rfl rfl (fun K hK => ?_); apply Exists.intro; refine ⟨fun w s => ?_, ?_⟩; (first | (have q := s rfl; go_simp; with_reducible rfl) | (go_simp; with_reducible rfl)); (go_simp; refine hK _ ?_; clear hK K))
         (refine line_do rfl rfl (fun K hK => ?_); go_simp)
         refine (Clone_calls w2.drew y.A y.data.length y.c y.data (HX.out.2.2.2.2.new (Kp.drew _ _)) rfl hyl).mono ?_
         rintro e w3 ⟨A3, m3, c3, rfl, hl3, ho3, hn3, hf3⟩
         subst hl3
         have n23 : New w2 w3 := (Kp.drew _ _).trans hn3 fid fid
         refine hK _ _ (fun _ => ⟨n23.cell b2, n23.cell q0, n23.cell q1, n23.cell q2⟩) ?_
         clear hK K
         have HY := Lib.hid (And.intro ho3 (And.intro n23 hf3))
         clear ho3 n23 hf3 hn3
         (refine line_get rfl rfl (fun K hK => ?_); apply Exists.intro; refine ⟨fun w s => ?_, ?_⟩; (first | (have q := s rfl; go_simp; with_reducible rfl) | (go_simp; with_reducible rfl)); (go_simp; refine hK _ ?_; clear hK K))
         (refine line_do rfl rfl (fun K hK => ?_); go_simp)
         have g4 : (w3.alloc (.cells #[.slice A3 y.data.length c3, .int .i64 y.syn] 90)).heap[w3.heap.size]? = some (.cells #[.slice A3 y.data.length c3, .int .i64 y.syn] 90 (0, 0)) := heap_alloc_new w3 _
         have n34 : New w3 (w3.alloc (.cells #[.slice A3 y.data.length c3, .int .i64 y.syn] 90)) := Kp.alloc _ _ _
         have z4 : (w3.alloc (.cells #[.slice A3 y.data.length c3, .int .i64 y.syn] 90)).heap.size = w3.heap.size + 1 := by simp
         generalize (w3.alloc (.cells #[.slice A3 y.data.length c3, .int .i64 y.syn] 90)) = w4 at n34 g4 z4 ⊢
         have n24 : New w2 w4 := HY.out.2.1.trans n34 fid fid
         refine hK _ _ (fun _ => ⟨New.cell n24 b2, New.cell n24 q0, New.cell n24 q1, New.cell n24 q2⟩) ?_
         clear hK K n24
         have HB4 := Lib.hid (And.intro g4 (And.intro n34 z4))
         clear g4 n34 z4
         refine line_do rfl rfl (fun K hK => ?_)
         refine wp_mapput 83 (.tmp 98) (.tmp 100) (.tmp 107) rfl 9 87 Tryz.underlying83 Tryz.underlying9 bm (xs.map FE.ent) rfl ((HX.out.1.new HY.out.2.1).new HB4.out.2.1).map y.name rfl (.pointer (some ⟨w3.heap.size, 0, none⟩)) rfl ?_
         intro w5 hm5 hk5
         refine hK _ _ (no_need (by kernel_rfl)) ?_
         clear hK K
         refine line_nil ?_
         have k25 : Kp (fun k => k = bm) w2 w5 := (HY.out.2.1.trans HB4.out.2.1 fid fid).trans hk5 (fun _ _ h => h.elim) fid
         have hAT : at? (xs.map FE.ent) y.name = none := by
          rcases HX.out.1.look y.name with h | ⟨x, l1, l2, _, _, h3, _⟩
          ·exact h.2
          ·rw [HX.out.2.2.2.1.fresh] at h3
           cases h3
         rw [put_new hAT] at hm5
         have d5 : w5.heap[d]? = some (.cells (dcells ⟨cap, (ys.take k).map FI.fl, -1, false⟩ bm) 85 (0, 0)) := (k25.block d (HX.out.1.lt d (mem_fpD.2 (.inl rfl))) HX.out.1.no_d.1).trans HX.out.1.blk
         have c5 : w5.cell? ⟨d, 1, none⟩ = some (.int .i64 (U : Int)) := by rw [← HW.out.2.2.2.2.2.2]; exact (cell_of_block d5).trans rfl
         have z5 : w5.frozen? ⟨d, 1, none⟩ = false := by simp [World.frozen?, d5]
         have hbmlt : bm < wr.heap.size := HK.out.2.1.lt bm (by rw [HX.out.2.1]; exact mem_fpD.2 (.inr (.inl rfl)))
         have p5 : w5.cell? ⟨wr.heap.size, 1, none⟩ = some (.slice y.A y.data.length y.c) := k25.cell_of q1 (fun e : wr.heap.size = bm => by omega)
         have HD5 := Lib.hid (And.intro hm5 (And.intro hk5 (And.intro k25 d5)))
         clear hm5 hk5 k25 d5 hAT q0 q1 q2 b2
         go_wp2_with fail
         refine wp_region_line (fun w' => w'.cell? ⟨d, 1, none⟩ = some (.int .i64 (U : Int)) ∧ w'.cell? ⟨wr.heap.size, 1, none⟩ = some (.slice y.A y.data.length y.c)) (pl := [(0, true), (1, true), (2, true), (3, true), (4, true), (5, true), (6, true), (7, true), (8, true), (9, true), (10, false)]) hmo (by kernel_rfl) ⟨by simpa using c5, by simpa using p5⟩ ?_
         iterate 10 (refine line_get rfl rfl (fun K hK => ?_); apply Exists.intro; refine ⟨fun w s => ?_, ?_⟩; (first | (have q := s rfl; go_simp; with_reducible rfl) | (go_simp; with_reducible rfl)); (go_simp; refine hK _ ?_; clear hK K))
         (refine line_do rfl rfl (fun K hK => ?_); go_simp)
         refine hK _ _ (no_need (by kernel_rfl)) ?_
         clear hK K
         refine line_nil ?_
         have hwu : IntKind.i64.wrap ((U : Int) + (y.data.length : Int)) = ((U + y.data.length : Nat) : Int) := by rw [IntKind.wrap_i64]; omega
         rw [hwu]
         go_wp2_with fail
         obtain ⟨G', p1, p2, p3, p4⟩ := From_push HX.out.1 HX.out.2.1 HK.out.2.2.1 (HK.out.2.2.2.2.trans HX.out.2.2.1 fid fid) HX.out.2.2.2.1 HW.out.2.2.2.2.2.2 HY.out.1 HY.out.2.1 HY.out.2.2 HB4.out.1 HB4.out.2.1 HD5.out.1 HD5.out.2.1 HD5.out.2.2.2 ((U : Int) + (y.data.length : Int)) rfl
         have hlw : w.heap.size < wr.heap.size := by
          have h1 := HK.out.2.1.lt d HK.out.2.1.mem
          have h2 := HK.out.2.2.1 d HK.out.2.1.mem
          omega
         refine ⟨⟨k + 1, G', by omega, by go_num, Lib.hid ⟨HW.out.2.2.2.2.1 ▸ HX.out.2.2.2.1, HW.out.2.2.2.2.1 ▸ p1, p2, (p3 (Nat.lt_of_lt_of_le hlw HX.out.2.2.1.size)).trans ((HX.out.2.2.1.block _ hlw id).trans HK.out.2.2.2.1), p4⟩⟩, by simp [intOf]; omega⟩
     ·have hnot : ¬ FromOk cap fuse false ys := fun h => hpy ((HC.out.1 h).1 p HP.out.1)
      by_cases hyp : y.name < p.name
      ·have hl1 : Op.bytesLess (bstr y.name).toList (bstr p.name).toList = true := by rw [less_bstr]; exact decide_eq_true hyp
       clear hpy hyp
       refine wp_region_line (fun w' => w'.cell? ⟨wr.heap.size, 0, none⟩ = some (.string (bstr y.name)) ∧ w'.cell? ⟨wr.heap.size, 1, none⟩ = some (.slice y.A y.data.length y.c) ∧ w'.cell? ⟨wr.heap.size, 2, none⟩ = some (.int .i64 y.syn) ∧ w'.cell? ⟨w.heap.size, 0, none⟩ = some (.int .i64 (cap : Int)) ∧ w'.cell? ⟨w.heap.size, 1, none⟩ = some (.slice (some ⟨b, off, none⟩) ys.length c) ∧ w'.cell? ⟨d, 1, none⟩ = some (.int .i64 (U : Int)) ∧ w'.cell? ⟨b, off + (k - 1) * 3, none⟩ = some (.string (bstr p.name))) (pl := [(0, true), (1, true), (2, false), (3, true), (4, true), (5, true), (6, true), (7, true), (8, true), (9, true), (10, true), (11, true), (12, true), (13, true), (14, true), (15, true), (16, true), (17, true), (18, true), (19, true), (20, true), (21, true), (22, true), (23, true), (24, true), (25, true), (26, true), (27, true), (28, true), (29, true), (30, true), (31, true), (32, true), (33, true), (34, true), (35, true), (36, true), (37, true), (38, true), (39, true), (40, true), (41, true), (42, true), (43, true), (44, true), (45, true)]) hmo (by kernel_rfl) ⟨by simpa using v0, by simpa using v1, by simpa using v2, by simpa using h0, by simpa using h1, by simpa using hd1, by simpa using e0⟩ ?_
       iterate 2 (refine line_get rfl rfl (fun K hK => ?_); apply Exists.intro; refine ⟨fun w s => ?_, ?_⟩; (first | (have q := s rfl; go_simp; with_reducible rfl) | (go_simp; with_reducible rfl)); (go_simp; refine hK _ ?_; clear hK K))
       (refine line_do rfl rfl (fun K hK => ?_); go_simp)
       refine (good_calls W.drew y.name hyn.1).mono ?_
       rintro e w2 ⟨rfl, hn2⟩
       rw [hg]
       have n2 : New W w2 := (Kp.drew _ _).trans (show New W.drew w2 from hn2) fid fid
       refine hK _ _ (fun _ => ⟨n2.cell v0, n2.cell v1, n2.cell v2, n2.cell h0, n2.cell h1, n2.cell hd1, n2.cell e0⟩) ?_
       clear hK K
       have HM := Lib.hid n2
       clear n2 hn2
       iterate 43 (first | (refine line_get rfl rfl (fun K hK => ?_); apply Exists.intro; refine ⟨fun w s => ?_, ?_⟩; (first | (have q := s rfl; go_simp; with_reducible rfl) | (go_simp; with_reducible rfl)); (go_simp; refine hK _ ?_; clear hK K)) | (refine line_past rfl rfl (fun K hK => ?_); go_simp; refine hK _ ?_; clear hK K))
       refine line_nil ?_
       go_wp2_with fail
       go_ret2
       exact .inr ⟨hnot, rfl, (HK.out.2.2.2.2.trans HW.out.2.2.1 fid fid).trans HM.out fid fid⟩
      ·have hl1 : Op.bytesLess (bstr y.name).toList (bstr p.name).toList = false := by rw [less_bstr]; exact decide_eq_false hyp
       have hl2 : ((bstr y.name).toList == (bstr p.name).toList) = true := by rw [bstr_beq]; exact decide_eq_true (List.le_antisymm (List.not_lt.1 hpy) (List.not_lt.1 hyp))
       clear hpy hyp
       refine wp_region_line (fun w' => w'.cell? ⟨wr.heap.size, 0, none⟩ = some (.string (bstr y.name)) ∧ w'.cell? ⟨wr.heap.size, 1, none⟩ = some (.slice y.A y.data.length y.c) ∧ w'.cell? ⟨wr.heap.size, 2, none⟩ = some (.int .i64 y.syn) ∧ w'.cell? ⟨w.heap.size, 0, none⟩ = some (.int .i64 (cap : Int)) ∧ w'.cell? ⟨w.heap.size, 1, none⟩ = some (.slice (some ⟨b, off, none⟩) ys.length c) ∧ w'.cell? ⟨d, 1, none⟩ = some (.int .i64 (U : Int)) ∧ w'.cell? ⟨b, off + (k - 1) * 3, none⟩ = some (.string (bstr p.name))) (pl := [(0, true), (1, true), (2, false), (3, true), (4, true), (5, true), (6, true), (7, true), (8, true), (9, true), (10, true), (11, true), (12, true), (13, true), (14, true), (15, true), (16, true), (17, true), (18, true), (19, true), (20, true), (21, true), (22, true), (23, true), (24, true), (25, true), (26, true), (27, true), (28, true), (29, true), (30, true), (31, true), (32, true), (33, true), (34, true), (35, true), (36, true), (37, true), (38, true), (39, true), (40, true), (41, true), (42, true), (43, true), (44, true), (45, true)]) hmo (by kernel_rfl) ⟨by simpa using v0, by simpa using v1, by simpa using v2, by simpa using h0, by simpa using h1, by simpa using hd1, by simpa using e0⟩ ?_
       iterate 2 (refine line_get rfl rfl (fun K hK => ?_); apply Exists.intro; refine ⟨fun w s => ?_, ?_⟩; (first | (have q := s rfl; go_simp; with_reducible rfl) | (go_simp; with_reducible rfl)); (go_simp; refine hK _ ?_; clear hK K))
       (refine line_do rfl rfl (fun K hK => ?_); go_simp)
       refine (good_calls W.drew y.name hyn.1).mono ?_
       rintro e w2 ⟨rfl, hn2⟩
       rw [hg]
       have n2 : New W w2 := (Kp.drew _ _).trans (show New W.drew w2 from hn2) fid fid
       refine hK _ _ (fun _ => ⟨n2.cell v0, n2.cell v1, n2.cell v2, n2.cell h0, n2.cell h1, n2.cell hd1, n2.cell e0⟩) ?_
       clear hK K
       have HM := Lib.hid n2
       clear n2 hn2
       iterate 43 (first | (refine line_get rfl rfl (fun K hK => ?_); apply Exists.intro; refine ⟨fun w s => ?_, ?_⟩; (first | (have q := s rfl; go_simp; with_reducible rfl) | (go_simp; with_reducible rfl)); (go_simp; refine hK _ ?_; clear hK K)) | (refine line_past rfl rfl (fun K hK => ?_); go_simp; refine hK _ ?_; clear hK K))
       refine line_nil ?_
       go_wp2_with fail
       go_ret2
       exact .inr ⟨hnot, rfl, (HK.out.2.2.2.2.trans HW.out.2.2.1 fid fid).trans HM.out fid fid⟩
    ·have hkd : decide (0 < k) = false := decide_eq_false (by omega)
     have hkz : k = 0 := by omega
     have HO := Lib.hid (fun p' hp' => by rw [hkz] at hp'; simp at hp' : ∀ p', (ys.take k).getLast? = some p' → p'.name < y.name)
     clear hkp hkz
     by_cases hb1 : y.syn < 0
     ·have hnot : ¬ FromOk cap fuse false ys := fun h => by have := (HC.out.1 h).2.1; omega
      have hs1 : decide (y.syn < 0) = true := decide_eq_true hb1
      clear hb1
      refine wp_region_line (fun w' => w'.cell? ⟨wr.heap.size, 0, none⟩ = some (.string (bstr y.name)) ∧ w'.cell? ⟨wr.heap.size, 1, none⟩ = some (.slice y.A y.data.length y.c) ∧ w'.cell? ⟨wr.heap.size, 2, none⟩ = some (.int .i64 y.syn) ∧ w'.cell? ⟨w.heap.size, 0, none⟩ = some (.int .i64 (cap : Int)) ∧ w'.cell? ⟨w.heap.size, 1, none⟩ = some (.slice (some ⟨b, off, none⟩) ys.length c) ∧ w'.cell? ⟨d, 1, none⟩ = some (.int .i64 (U : Int))) (pl := [(0, true), (1, true), (2, false), (3, true), (4, true), (5, true), (6, true), (7, true), (8, true), (9, true), (10, true), (11, true), (12, true), (13, true), (14, true), (15, true), (16, true), (17, true), (18, true), (19, true), (20, true), (21, true), (22, true), (23, true), (24, true), (25, true), (26, true), (27, true), (28, true), (29, true), (30, true), (31, true), (32, true), (33, true), (34, true), (35, true), (36, true), (37, true), (38, true), (39, true), (40, true), (41, true), (42, true), (43, true), (44, true), (45, true)]) hmo (by kernel_rfl) ⟨by simpa using v0, by simpa using v1, by simpa using v2, by simpa using h0, by simpa using h1, by simpa using hd1⟩ ?_
      iterate 2 (refine line_get rfl rfl (fun K hK => ?_); apply Exists.intro; refine ⟨fun w s => ?_, ?_⟩; (first | (have q := s rfl; go_simp; with_reducible rfl) | (go_simp; with_reducible rfl)); (go_simp; refine hK _ ?_; clear hK K))
      (refine line_do rfl rfl (fun K hK => ?_); go_simp)
      refine (good_calls W.drew y.name hyn.1).mono ?_
      rintro e w2 ⟨rfl, hn2⟩
      rw [hg]
      have n2 : New W w2 := (Kp.drew _ _).trans (show New W.drew w2 from hn2) fid fid
      refine hK _ _ (fun _ => ⟨n2.cell v0, n2.cell v1, n2.cell v2, n2.cell h0, n2.cell h1, n2.cell hd1⟩) ?_
      clear hK K
      have HM := Lib.hid n2
      clear n2 hn2
      iterate 43 (first | (refine line_get rfl rfl (fun K hK => ?_); apply Exists.intro; refine ⟨fun w s => ?_, ?_⟩; (first | (have q := s rfl; go_simp; with_reducible rfl) | (go_simp; with_reducible rfl)); (go_simp; refine hK _ ?_; clear hK K)) | (refine line_past rfl rfl (fun K hK => ?_); go_simp; refine hK _ ?_; clear hK K))
      refine line_nil ?_
      go_wp2_with fail
      go_ret2
      exact .inr ⟨hnot, rfl, (HK.out.2.2.2.2.trans HW.out.2.2.1 fid fid).trans HM.out fid fid⟩
     ·have hs1 : decide (y.syn < 0) = false := decide_eq_false hb1
      by_cases hb2 : (y.data.length : Int) < y.syn
      ·have hnot : ¬ FromOk cap fuse false ys := fun h => by have := (HC.out.1 h).2.2.1; omega
       have hs2 : decide ((y.data.length : Int) < y.syn) = true := decide_eq_true hb2
       clear hb1 hb2
       refine wp_region_line (fun w' => w'.cell? ⟨wr.heap.size, 0, none⟩ = some (.string (bstr y.name)) ∧ w'.cell? ⟨wr.heap.size, 1, none⟩ = some (.slice y.A y.data.length y.c) ∧ w'.cell? ⟨wr.heap.size, 2, none⟩ = some (.int .i64 y.syn) ∧ w'.cell? ⟨w.heap.size, 0, none⟩ = some (.int .i64 (cap : Int)) ∧ w'.cell? ⟨w.heap.size, 1, none⟩ = some (.slice (some ⟨b, off, none⟩) ys.length c) ∧ w'.cell? ⟨d, 1, none⟩ = some (.int .i64 (U : Int))) (pl := [(0, true), (1, true), (2, false), (3, true), (4, true), (5, true), (6, true), (7, true), (8, true), (9, true), (10, true), (11, true), (12, true), (13, true), (14, true), (15, true), (16, true), (17, true), (18, true), (19, true), (20, true), (21, true), (22, true), (23, true), (24, true), (25, true), (26, true), (27, true), (28, true), (29, true), (30, true), (31, true), (32, true), (33, true), (34, true), (35, true), (36, true), (37, true), (38, true), (39, true), (40, true), (41, true), (42, true), (43, true), (44, true), (45, true)]) hmo (by kernel_rfl) ⟨by simpa using v0, by simpa using v1, by simpa using v2, by simpa using h0, by simpa using h1, by simpa using hd1⟩ ?_
       iterate 2 (refine line_get rfl rfl (fun K hK => ?_); apply Exists.intro; refine ⟨fun w s => ?_, ?_⟩; (first | (have q := s rfl; go_simp; with_reducible rfl) | (go_simp; with_reducible rfl)); (go_simp; refine hK _ ?_; clear hK K))
       (refine line_do rfl rfl (fun K hK => ?_); go_simp)
       refine (good_calls W.drew y.name hyn.1).mono ?_
       rintro e w2 ⟨rfl, hn2⟩
       rw [hg]
       have n2 : New W w2 := (Kp.drew _ _).trans (show New W.drew w2 from hn2) fid fid
       refine hK _ _ (fun _ => ⟨n2.cell v0, n2.cell v1, n2.cell v2, n2.cell h0, n2.cell h1, n2.cell hd1⟩) ?_
       clear hK K
       have HM := Lib.hid n2
       clear n2 hn2
       iterate 43 (first | (refine line_get rfl rfl (fun K hK => ?_); apply Exists.intro; refine ⟨fun w s => ?_, ?_⟩; (first | (have q := s rfl; go_simp; with_reducible rfl) | (go_simp; with_reducible rfl)); (go_simp; refine hK _ ?_; clear hK K)) | (refine line_past rfl rfl (fun K hK => ?_); go_simp; refine hK _ ?_; clear hK K))
       refine line_nil ?_
       go_wp2_with fail
       go_ret2
       exact .inr ⟨hnot, rfl, (HK.out.2.2.2.2.trans HW.out.2.2.1 fid fid).trans HM.out fid fid⟩
      ·have hs2 : decide ((y.data.length : Int) < y.syn) = false := decide_eq_false hb2
       by_cases hb3 : (cap : Int) - (U : Int) < (y.data.length : Int)
       ·have hnot : ¬ FromOk cap fuse false ys := fun h => by have := (HC.out.1 h).2.2.2; omega
        have hs3 : decide ((cap : Int) - (U : Int) < (y.data.length : Int)) = true := decide_eq_true hb3
        have hwc : IntKind.i64.wrap ((cap : Int) - (U : Int)) = (cap : Int) - (U : Int) := by rw [IntKind.wrap_i64]; omega
        clear hb1 hb2 hb3
        refine wp_region_line (fun w' => w'.cell? ⟨wr.heap.size, 0, none⟩ = some (.string (bstr y.name)) ∧ w'.cell? ⟨wr.heap.size, 1, none⟩ = some (.slice y.A y.data.length y.c) ∧ w'.cell? ⟨wr.heap.size, 2, none⟩ = some (.int .i64 y.syn) ∧ w'.cell? ⟨w.heap.size, 0, none⟩ = some (.int .i64 (cap : Int)) ∧ w'.cell? ⟨w.heap.size, 1, none⟩ = some (.slice (some ⟨b, off, none⟩) ys.length c) ∧ w'.cell? ⟨d, 1, none⟩ = some (.int .i64 (U : Int))) (pl := [(0, true), (1, true), (2, false), (3, true), (4, true), (5, true), (6, true), (7, true), (8, true), (9, true), (10, true), (11, true), (12, true), (13, true), (14, true), (15, true), (16, true), (17, true), (18, true), (19, true), (20, true), (21, true), (22, true), (23, true), (24, true), (25, true), (26, true), (27, true), (28, true), (29, true), (30, true), (31, true), (32, true), (33, true), (34, true), (35, true), (36, true), (37, true), (38, true), (39, true), (40, true), (41, true), (42, true), (43, true), (44, true), (45, true)]) hmo (by kernel_rfl) ⟨by simpa using v0, by simpa using v1, by simpa using v2, by simpa using h0, by simpa using h1, by simpa using hd1⟩ ?_
        iterate 2 (refine line_get rfl rfl (fun K hK => ?_); apply Exists.intro; refine ⟨fun w s => ?_, ?_⟩; (first | (have q := s rfl; go_simp; with_reducible rfl) | (go_simp; with_reducible rfl)); (go_simp; refine hK _ ?_; clear hK K))
        (refine line_do rfl rfl (fun K hK => ?_); go_simp)
        refine (good_calls W.drew y.name hyn.1).mono ?_
        rintro e w2 ⟨rfl, hn2⟩
        rw [hg]
        have n2 : New W w2 := (Kp.drew _ _).trans (show New W.drew w2 from hn2) fid fid
        refine hK _ _ (fun _ => ⟨n2.cell v0, n2.cell v1, n2.cell v2, n2.cell h0, n2.cell h1, n2.cell hd1⟩) ?_
        clear hK K
        have HM := Lib.hid n2
        clear n2 hn2
        iterate 43 (first | (refine line_get rfl rfl (fun K hK => ?_); apply Exists.intro; refine ⟨fun w s => ?_, ?_⟩; (first | (have q := s rfl; go_simp; with_reducible rfl) | (go_simp; with_reducible rfl)); (go_simp; refine hK _ ?_; clear hK K)) | (refine line_past rfl rfl (fun K hK => ?_); go_simp; refine hK _ ?_; clear hK K))
        refine line_nil ?_
        go_wp2_with fail
        go_ret2
        exact .inr ⟨hnot, rfl, (HK.out.2.2.2.2.trans HW.out.2.2.1 fid fid).trans HM.out fid fid⟩
       ·have hs3 : decide ((cap : Int) - (U : Int) < (y.data.length : Int)) = false := decide_eq_false hb3
        have hwc : IntKind.i64.wrap ((cap : Int) - (U : Int)) = (cap : Int) - (U : Int) := by rw [IntKind.wrap_i64]; omega
        refine wp_region_line (fun w' => w'.cell? ⟨wr.heap.size, 0, none⟩ = some (.string (bstr y.name)) ∧ w'.cell? ⟨wr.heap.size, 1, none⟩ = some (.slice y.A y.data.length y.c) ∧ w'.cell? ⟨wr.heap.size, 2, none⟩ = some (.int .i64 y.syn) ∧ w'.cell? ⟨w.heap.size, 0, none⟩ = some (.int .i64 (cap : Int)) ∧ w'.cell? ⟨w.heap.size, 1, none⟩ = some (.slice (some ⟨b, off, none⟩) ys.length c) ∧ w'.cell? ⟨d, 1, none⟩ = some (.int .i64 (U : Int))) (pl := [(0, true), (1, true), (2, false), (3, true), (4, true), (5, true), (6, true), (7, true), (8, true), (9, true), (10, true), (11, true), (12, true), (13, true), (14, true), (15, true), (16, true), (17, true), (18, true), (19, true), (20, true), (21, true), (22, true), (23, true), (24, true), (25, true), (26, true), (27, true), (28, true), (29, true), (30, true), (31, true), (32, true), (33, true), (34, true), (35, true), (36, true), (37, true), (38, true), (39, true), (40, true), (41, true), (42, true), (43, true), (44, true), (45, true)]) hmo (by kernel_rfl) ⟨by simpa using v0, by simpa using v1, by simpa using v2, by simpa using h0, by simpa using h1, by simpa using hd1⟩ ?_
        iterate 2 (refine line_get rfl rfl (fun K hK => ?_); apply Exists.intro; refine ⟨fun w s => ?_, ?_⟩; (first | (have q := s rfl; go_simp; with_reducible rfl) | (go_simp; with_reducible rfl)); (go_simp; refine hK _ ?_; clear hK K))
        (refine line_do rfl rfl (fun K hK => ?_); go_simp)
        refine (good_calls W.drew y.name hyn.1).mono ?_
        rintro e w2 ⟨rfl, hn2⟩
        rw [hg]
        have n2 : New W w2 := (Kp.drew _ _).trans (show New W.drew w2 from hn2) fid fid
        refine hK _ _ (fun _ => ⟨n2.cell v0, n2.cell v1, n2.cell v2, n2.cell h0, n2.cell h1, n2.cell hd1⟩) ?_
        clear hK K
        have HM := Lib.hid n2
        clear n2 hn2
        iterate 43 (first | (refine line_get rfl rfl (fun K hK => ?_); apply Exists.intro; refine ⟨fun w s => ?_, ?_⟩; (first | (have q := s rfl; go_simp; with_reducible rfl) | (go_simp; with_reducible rfl)); (go_simp; refine hK _ ?_; clear hK K)) | (refine line_past rfl rfl (fun K hK => ?_); go_simp; refine hK _ ?_; clear hK K))
        refine line_nil ?_
        go_wp2_with fail
        have n3 : New wr w2 := HW.out.2.2.1.trans HM.out fid fid
        have hUU := HW.out.2.2.2.2.2.2
        have hok : VPre cap (ys.take k ++ [y]) := HK.out.1.snoc (by simp only [List.length_take]; omega) HC.out.2 HO.out (by omega) (by omega) (by unfold DS.used at hUU; simp only at hUU; omega)
        obtain ⟨bm, xs, hX, hG⟩ := HK.out.2.1.new n3
        have b2 : w2.cell? ⟨d, 2, none⟩ = some (.map (some bm)) := (cell_of_block hX.blk).trans rfl
        have q0 := HM.out.cell v0
        have q1 := HM.out.cell v1
        have q2 := HM.out.cell v2
        have hyl : y.data.length ≤ 70368744177664 := by omega
        have hrd := ((HI.out.1.2 y (List.mem_of_getElem? HW.out.2.2.2.1)).new HK.out.2.2.2.2).new n3
        have HX := Lib.hid (And.intro hX (And.intro hG (And.intro n3 (And.intro hok hrd))))
        clear hX hG n3 hok hrd v0 v1 v2 h0 h1 hd1 hUU
        refine wp_region_line (fun w' => w'.cell? ⟨d, 2, none⟩ = some (.map (some bm)) ∧ w'.cell? ⟨wr.heap.size, 0, none⟩ = some (.string (bstr y.name)) ∧ w'.cell? ⟨wr.heap.size, 1, none⟩ = some (.slice y.A y.data.length y.c) ∧ w'.cell? ⟨wr.heap.size, 2, none⟩ = some (.int .i64 y.syn)) (pl := [(0, true), (1, true), (2, true), (3, true), (4, true), (5, true), (6, true), (7, true), (9, true), (10, true), (8, false), (11, true), (12, false), (13, false)]) hmo (by kernel_rfl) ⟨by simpa using b2, by simpa using q0, by simpa using q1, by simpa using q2⟩ ?_
        iterate 10 (refine line_get rfl rfl (fun K hK => ?_); apply Exists.intro; refine ⟨fun w s => ?_, ?_⟩; (first | (have q := s rfl; go_simp; with_reducible rfl) | (go_simp; with_reducible rfl)); (go_simp; refine hK _ ?_; clear hK K))
        (refine line_do rfl rfl (fun K hK => ?_); go_simp)
        refine (Clone_calls w2.drew y.A y.data.length y.c y.data (HX.out.2.2.2.2.new (Kp.drew _ _)) rfl hyl).mono ?_
        rintro e w3 ⟨A3, m3, c3, rfl, hl3, ho3, hn3, hf3⟩
        subst hl3
        have n23 : New w2 w3 := (Kp.drew _ _).trans hn3 fid fid
        refine hK _ _ (fun _ => ⟨n23.cell b2, n23.cell q0, n23.cell q1, n23.cell q2⟩) ?_
        clear hK K
        have HY := Lib.hid (And.intro ho3 (And.intro n23 hf3))
        clear ho3 n23 hf3 hn3
        (refine line_get rfl rfl (fun K hK => ?_); apply Exists.intro; refine ⟨fun w s => ?_, ?_⟩; (first | (have q := s rfl; go_simp; with_reducible rfl) | (go_simp; with_reducible rfl)); (go_simp; refine hK _ ?_; clear hK K))
        (refine line_do rfl rfl (fun K hK => ?_); go_simp)
        have g4 : (w3.alloc (.cells #[.slice A3 y.data.length c3, .int .i64 y.syn] 90)).heap[w3.heap.size]? = some (.cells #[.slice A3 y.data.length c3, .int .i64 y.syn] 90 (0, 0)) := heap_alloc_new w3 _
        have n34 : New w3 (w3.alloc (.cells #[.slice A3 y.data.length c3, .int .i64 y.syn] 90)) := Kp.alloc _ _ _
        have z4 : (w3.alloc (.cells #[.slice A3 y.data.length c3, .int .i64 y.syn] 90)).heap.size = w3.heap.size + 1 := by simp
        generalize (w3.alloc (.cells #[.slice A3 y.data.length c3, .int .i64 y.syn] 90)) = w4 at n34 g4 z4 ⊢
        have n24 : New w2 w4 := HY.out.2.1.trans n34 fid fid
        refine hK _ _ (fun _ => ⟨New.cell n24 b2, New.cell n24 q0, New.cell n24 q1, New.cell n24 q2⟩) ?_
        clear hK K n24
        have HB4 := Lib.hid (And.intro g4 (And.intro n34 z4))
        clear g4 n34 z4
        refine line_do rfl rfl (fun K hK => ?_)
        refine wp_mapput 83 (.tmp 98) (.tmp 100) (.tmp 107) rfl 9 87 Tryz.underlying83 Tryz.underlying9 bm (xs.map FE.ent) rfl ((HX.out.1.new HY.out.2.1).new HB4.out.2.1).map y.name rfl (.pointer (some ⟨w3.heap.size, 0, none⟩)) rfl ?_
        intro w5 hm5 hk5
        refine hK _ _ (no_need (by kernel_rfl)) ?_
        clear hK K
        refine line_nil ?_
        have k25 : Kp (fun k => k = bm) w2 w5 := (HY.out.2.1.trans HB4.out.2.1 fid fid).trans hk5 (fun _ _ h => h.elim) fid
        have hAT : at? (xs.map FE.ent) y.name = none := by
         rcases HX.out.1.look y.name with h | ⟨x, l1, l2, _, _, h3, _⟩
         ·exact h.2
         ·rw [HX.out.2.2.2.1.fresh] at h3
          cases h3
        rw [put_new hAT] at hm5
        have d5 : w5.heap[d]? = some (.cells (dcells ⟨cap, (ys.take k).map FI.fl, -1, false⟩ bm) 85 (0, 0)) := (k25.block d (HX.out.1.lt d (mem_fpD.2 (.inl rfl))) HX.out.1.no_d.1).trans HX.out.1.blk
        have c5 : w5.cell? ⟨d, 1, none⟩ = some (.int .i64 (U : Int)) := by rw [← HW.out.2.2.2.2.2.2]; exact (cell_of_block d5).trans rfl
        have z5 : w5.frozen? ⟨d, 1, none⟩ = false := by simp [World.frozen?, d5]
        have hbmlt : bm < wr.heap.size := HK.out.2.1.lt bm (by rw [HX.out.2.1]; exact mem_fpD.2 (.inr (.inl rfl)))
        have p5 : w5.cell? ⟨wr.heap.size, 1, none⟩ = some (.slice y.A y.data.length y.c) := k25.cell_of q1 (fun e : wr.heap.size = bm => by omega)
        have HD5 := Lib.hid (And.intro hm5 (And.intro hk5 (And.intro k25 d5)))
        clear hm5 hk5 k25 d5 hAT q0 q1 q2 b2
        go_wp2_with fail
        refine wp_region_line (fun w' => w'.cell? ⟨d, 1, none⟩ = some (.int .i64 (U : Int)) ∧ w'.cell? ⟨wr.heap.size, 1, none⟩ = some (.slice y.A y.data.length y.c)) (pl := [(0, true), (1, true), (2, true), (3, true), (4, true), (5, true), (6, true), (7, true), (8, true), (9, true), (10, false)]) hmo (by kernel_rfl) ⟨by simpa using c5, by simpa using p5⟩ ?_
        iterate 10 (refine line_get rfl rfl (fun K hK => ?_); apply Exists.intro; refine ⟨fun w s => ?_, ?_⟩; (first | (have q := s rfl; go_simp; with_reducible rfl) | (go_simp; with_reducible rfl)); (go_simp; refine hK _ ?_; clear hK K))
        (refine line_do rfl rfl (fun K hK => ?_); go_simp)
        refine hK _ _ (no_need (by kernel_rfl)) ?_
        clear hK K
        refine line_nil ?_
        have hwu : IntKind.i64.wrap ((U : Int) + (y.data.length : Int)) = ((U + y.data.length : Nat) : Int) := by rw [IntKind.wrap_i64]; omega
        rw [hwu]
        go_wp2_with fail
        obtain ⟨G', p1, p2, p3, p4⟩ := From_push HX.out.1 HX.out.2.1 HK.out.2.2.1 (HK.out.2.2.2.2.trans HX.out.2.2.1 fid fid) HX.out.2.2.2.1 HW.out.2.2.2.2.2.2 HY.out.1 HY.out.2.1 HY.out.2.2 HB4.out.1 HB4.out.2.1 HD5.out.1 HD5.out.2.1 HD5.out.2.2.2 ((U : Int) + (y.data.length : Int)) rfl
        have hlw : w.heap.size < wr.heap.size := by
         have h1 := HK.out.2.1.lt d HK.out.2.1.mem
         have h2 := HK.out.2.2.1 d HK.out.2.1.mem
         omega
        refine ⟨⟨k + 1, G', by omega, by go_num, Lib.hid ⟨HW.out.2.2.2.2.1 ▸ HX.out.2.2.2.1, HW.out.2.2.2.2.1 ▸ p1, p2, (p3 (Nat.lt_of_lt_of_le hlw HX.out.2.2.1.size)).trans ((HX.out.2.2.1.block _ hlw id).trans HK.out.2.2.2.1), p4⟩⟩, by simp [intOf]; omega⟩
   ·have hg' : goodN y.name = false := by simpa using hg
    have hnot : ¬ FromOk cap fuse false ys := fun h => hg (HW.out.2.2.2.2.2.1 h).1
    clear hg
    refine wp_region_line (fun w' => w'.cell? ⟨wr.heap.size, 0, none⟩ = some (.string (bstr y.name)) ∧ w'.cell? ⟨wr.heap.size, 1, none⟩ = some (.slice y.A y.data.length y.c) ∧ w'.cell? ⟨wr.heap.size, 2, none⟩ = some (.int .i64 y.syn) ∧ w'.cell? ⟨w.heap.size, 0, none⟩ = some (.int .i64 (cap : Int)) ∧ w'.cell? ⟨w.heap.size, 1, none⟩ = some (.slice (some ⟨b, off, none⟩) ys.length c) ∧ w'.cell? ⟨d, 1, none⟩ = some (.int .i64 (U : Int))) (pl := [(0, true), (1, true), (2, false), (3, true), (4, true), (5, true), (6, true), (7, true), (8, true), (9, true), (10, true), (11, true), (12, true), (13, true), (14, true), (15, true), (16, true), (17, true), (18, true), (19, true), (20, true), (21, true), (22, true), (23, true), (24, true), (25, true), (26, true), (27, true), (28, true), (29, true), (30, true), (31, true), (32, true), (33, true), (34, true), (35, true), (36, true), (37, true), (38, true), (39, true), (40, true), (41, true), (42, true), (43, true), (44, true), (45, true)]) hmo (by kernel_rfl) ⟨by simpa using v0, by simpa using v1, by simpa using v2, by simpa using h0, by simpa using h1, by simpa using hd1⟩ ?_
    iterate 2 (refine line_get rfl rfl (fun K hK => ?_); apply Exists.intro; refine ⟨fun w s => ?_, ?_⟩; (first | (have q := s rfl; go_simp; with_reducible rfl) | (go_simp; with_reducible rfl)); (go_simp; refine hK _ ?_; clear hK K))
    (refine line_do rfl rfl (fun K hK => ?_); go_simp)
    refine (good_calls W.drew y.name hyn.1).mono ?_
    rintro e w2 ⟨rfl, hn2⟩
    rw [hg']
    have m1 : New W.drew w2 := hn2
    have n2 : New W w2 := (Kp.drew _ _).trans m1 fid fid
    refine hK _ _ (fun _ => ⟨n2.cell v0, n2.cell v1, n2.cell v2, n2.cell h0, n2.cell h1, n2.cell hd1⟩) ?_
    clear hK K
    have HM := Lib.hid n2
    clear n2 m1 hn2
    iterate 43 (first | (refine line_get rfl rfl (fun K hK => ?_); apply Exists.intro; refine ⟨fun w s => ?_, ?_⟩; (first | (have q := s rfl; go_simp; with_reducible rfl) | (go_simp; with_reducible rfl)); (go_simp; refine hK _ ?_; clear hK K)) | (refine line_past rfl rfl (fun K hK => ?_); go_simp; refine hK _ ?_; clear hK K))
    refine line_nil ?_
    go_wp2_with fail
    go_ret2
    exact .inr ⟨hnot, rfl, (HK.out.2.2.2.2.trans HW.out.2.2.1 fid fid).trans HM.out fid fid⟩
  ·have hke : k = ys.length := by omega
   have hkn : ¬ (k : Int) < (ys.length : Int) := by omega
   have hkd : decide (k < ys.length) = false := decide_eq_false hlt
   obtain ⟨bm, xs, hX, hG⟩ := HK.out.2.1
   have z3 : wr.frozen? ⟨d, 3, none⟩ = false := by simp [World.frozen?, hX.blk]
   have g2 : wr.cell? ⟨w.heap.size, 2, none⟩ = some (.int .i64 fuse) := (cell_of_block (HK.out.2.2.2.1.trans HN.out.2.1)).trans rfl
   have g3 : wr.cell? ⟨w.heap.size, 3, none⟩ = some (.bool false) := (cell_of_block (HK.out.2.2.2.1.trans HN.out.2.1)).trans rfl
   have s3 : wr.cell? ⟨d, 3, none⟩ = some (.int .i64 (-1)) := (cell_of_block hX.blk).trans rfl
   have y1 := heap_setCell_row (j := 3) hX.blk (.int .i64 fuse)
   have HX := Lib.hid (And.intro hX hG)
   clear hX hG g0 f2 f3
   go_wp2_with fail
   refine wp_region_line (fun w' => w'.cell? ⟨w.heap.size, 2, none⟩ = some (.int .i64 fuse) ∧ w'.cell? ⟨w.heap.size, 3, none⟩ = some (.bool false)) (pl := [(0, true), (1, true), (2, true), (3, true), (4, true), (5, true), (6, true), (7, true), (8, false), (9, true), (10, true), (11, false)]) hmo (by kernel_rfl) ⟨by simpa using g2, by simpa using g3⟩ ?_
   iterate 8 (refine line_get rfl rfl (fun K hK => ?_); apply Exists.intro; refine ⟨fun w s => ?_, ?_⟩; (first | (have q := s rfl; go_simp; with_reducible rfl) | (go_simp; with_reducible rfl)); (go_simp; refine hK _ ?_; clear hK K))
   (refine line_do rfl rfl (fun K hK => ?_); go_simp)
   obtain ⟨w7, hw7⟩ : ∃ w7, (wr.setCell ⟨d, 3, none⟩ (.int .i64 fuse)).drew = w7 := ⟨_, rfl⟩
   replace y1 : (wr.setCell ⟨d, 3, none⟩ (.int .i64 fuse)).drew.heap[d]? = _ := y1
   rw [hw7] at y1
   have k7 : Kp (fun k => k = d) wr w7 := hw7 ▸ (Kp.setCell (S := fun k => k = d) wr ⟨d, 3, none⟩ _ rfl).trans (Kp.drew _ _) fid fid
   have z4 : w7.frozen? ⟨d, 4, none⟩ = false := by simp [World.frozen?, y1]
   have s4 : w7.cell? ⟨d, 4, none⟩ = some (.bool false) := (cell_of_block y1).trans rfl
   have y2 := heap_setCell_row (j := 4) y1 (.bool false)
   rw [hw7]
   have hdw := HK.out.2.2.1 d HK.out.2.1.mem
   have x2 := k7.cell_of g2 (fun e : w.heap.size = d => by omega)
   have x3 := k7.cell_of g3 (fun e : w.heap.size = d => by omega)
   refine hK _ _ (fun _ => ⟨x2, x3⟩) ?_
   clear x2 x3 hdw
   clear hK K hw7
   have HY := Lib.hid (And.intro y2 k7)
   clear y1 y2 k7 z3 s3 g2 g3
   iterate 2 (refine line_get rfl rfl (fun K hK => ?_); apply Exists.intro; refine ⟨fun w s => ?_, ?_⟩; (first | (have q := s rfl; go_simp; with_reducible rfl) | (go_simp; with_reducible rfl)); (go_simp; refine hK _ ?_; clear hK K))
   (refine line_do rfl rfl (fun K hK => ?_); go_simp)
   refine hK _ _ (no_need (by kernel_rfl)) ?_
   clear hK K
   refine line_nil ?_
   go_wp2_with fail
   go_ret2
   have kz : Kp (fun k => k = d) wr (w7.setCell ⟨d, 4, none⟩ (.bool false)) := HY.out.2.trans (Kp.setCell (S := fun k => k = d) w7 ⟨d, 4, none⟩ _ rfl) fid fid
   have htl : ys.take k = ys := by rw [hke]; exact List.take_length
   have hV := HK.out.1
   have hX := HX.out.1
   have hB := HY.out.1
   rw [htl] at hV hX hB
   have hgz : false = true → fuse = -1 := fun h => HG.out (by first | exact h | trivial)
   have hdw := HK.out.2.2.1 d HK.out.2.1.mem
   exact .inl ⟨⟨by omega, by omega, by omega, hf1, hf2, hgz, by rw [Int.toNat_natCast]; exact hV⟩, d, _, rfl, by rw [Int.toNat_natCast]; exact From_end hX hf1 hf2 hgz kz hB, HK.out.2.2.2.2.trans kz fid (fun i hi e => by omega), fun k hk => by have := HK.out.2.2.1 k (by rw [HX.out.2]; exact hk); omega⟩
end Go.Proofs.YtekcoeonlfmebaaGreatDoor.Kit
