/- The book of the law DiskKeeps: shows. -/
import Derived.Test.YtekcoeonlfmebaaNoted
import Derived.Test.YtekcoeonlfmebaaState
import Derived.Test.YtekcoeonlfmebaaFromM
namespace Go.Proofs.Ytekcoeonlfmebaa.Kit
open Go Go.RowKit

set_option maxRecDepth 100000 in
set_option maxHeartbeats 16000000 in
theorem shows_true (w : World) (d : Nat) (s : DS) (F : List Nat) (A : Option Addr) (c : Nat) (ys : List FV) (hD : DiskAt w d s F) (hB : OwnN 66 w A c ys) (hP : (ys.map FV.f).Perm s.files) (hdn : s.down = true) :
    Calls Try.prog 15 #[.pointer (some ⟨d, 0, none⟩), .slice A ys.length c] w fun e w' => e = .returned (.bool true) ∧ New w w' := by
  have HD := Lib.hid hD
  have HB := Lib.hid (And.intro hB hP)
  have HDN := Lib.hid hdn
  have hyl : ys.length ≤ 64 := by have h1 := hP.length_eq; rw [List.length_map] at h1; have := hD.ok.few; omega
  have hmo : Try.prog.follows Departure.mixedOrders = true := by kernel_rfl
  clear hD hB hP hdn
  go_enter Try.func15, Try.ntmps15
  go_wp2_with fail
  refine (State_calls w d s F HD.out).mono ?_
  rintro e w1 ⟨A1, c1, zs, rfl, ho1, hz1, hf1, n1⟩
  have hzl : zs.length = ys.length := by have h1 := congrArg List.length hz1; rw [List.length_map] at h1; have h2 := HB.out.2.length_eq; rw [List.length_map] at h2; omega
  have HS := Lib.hid (And.intro ho1 (And.intro hz1 hzl))
  rw [hzl, HDN.out]
  have H1 := Lib.hid n1
  clear ho1 hz1 hf1 hzl n1
  have W2a : New w1 (w1.alloc (.cells #[.int .i64 (s.cap : Int), .slice A1 ys.length c1, .int .i64 s.fuse, .bool true] 32)) := Kp.alloc _ _ _
  have W2b : (w1.alloc (.cells #[.int .i64 (s.cap : Int), .slice A1 ys.length c1, .int .i64 s.fuse, .bool true] 32)).heap[w1.heap.size]? = some (.cells #[.int .i64 (s.cap : Int), .slice A1 ys.length c1, .int .i64 s.fuse, .bool true] 32 (0, 0)) := heap_alloc_new w1 _
  have W2s : (w1.alloc (.cells #[.int .i64 (s.cap : Int), .slice A1 ys.length c1, .int .i64 s.fuse, .bool true] 32)).cell? ⟨w1.heap.size, 1, none⟩ = some (.slice A1 ys.length c1) := (cell_of_block W2b).trans rfl
  have HW := Lib.hid (And.intro W2a W2b)
  clear W2a W2b
  go_wp2_with fail
  obtain ⟨W2, hW2⟩ : ∃ W, w1.alloc (.cells #[.int .i64 (s.cap : Int), .slice A1 ys.length c1, .int .i64 s.fuse, .bool true] 32) = W := ⟨_, rfl⟩
  rw [hW2] at HW ⊢
  have H2 := Lib.hid (And.intro (H1.out.trans HW.out.1 (fun _ _ h => h) (fun _ _ h => h) : New w W2) HW.out)
  clear hW2 W2s HW
  refine (List_down W2 d s F (HD.out.new H2.out.1) HDN.out).mono ?_
  rintro e x ⟨rfl, rfl⟩
  go_wp2_with fail
  go_loopw [6, 9] (fun nv i wr => ∃ k : Nat, k ≤ ys.length ∧ nv = .int .i64 ((usedF (s.files.take k) : Nat) : Int) ∧ i = .int .i64 (k : Int) ∧ Hid (New W2 wr)) (fun _ i _ => ys.length - (intOf i).toNat)
  case atStart => exact ⟨0, Nat.zero_le _, by simp [usedF], rfl, Lib.hid (Kp.refl _ _)⟩
  case round =>
    obtain ⟨k, hk, rfl, rfl, HK⟩ := hrel
    have hk0 : (0 : Int) ≤ k := by omega
    have nww : New w wr := H2.out.1.trans HK.out (fun _ _ h => h) (fun _ _ h => h)
    have NW := Lib.hid nww
    have bs := heap_kp H2.out.2.2 HK.out id
    have s1 : wr.cell? ⟨w1.heap.size, 1, none⟩ = some (.slice A1 ys.length c1) := (cell_of_block bs).trans rfl
    have s3 : wr.cell? ⟨w1.heap.size, 3, none⟩ = some (.bool true) := (cell_of_block bs).trans (by rw [← HDN.out]; rfl)
    have s0 : wr.cell? ⟨w1.heap.size, 0, none⟩ = some (.int .i64 (s.cap : Int)) := (cell_of_block bs).trans rfl
    have hul : usedF (s.files.take k) ≤ s.cap := by
      have h1 := HD.out.ok.used
      have h2 : usedF (s.files.take k) ≤ s.used := by
        have h3 := used_app (s.files.take k) (s.files.drop k)
        rw [List.take_append_drop] at h3
        unfold DS.used
        omega
      omega
    have hcap := HD.out.ok.cap
    have HBS := Lib.hid bs
    clear nww bs
    by_cases hlt : k < ys.length
    · have hki : (k : Int) < (ys.length : Int) := by omega
      obtain ⟨x, hx⟩ : ∃ x, zs[k]? = some x := ⟨_, List.getElem?_eq_getElem (by have := HS.out.2.2; omega)⟩
      have hoz := HS.out.1.toN.kp (H2.out.2.1.trans HK.out (fun _ _ h => h) (fun _ _ h => h)) (fun _ _ => id)
      obtain ⟨gz, hA1, t0, t1, t2, -⟩ := hoz.at_ hx
      subst hA1
      have hfx : s.files[k]? = some x.f := by rw [← HS.out.2.1]; simp [hx]
      have hfind := find_file HD.out.ok hfx
      have hfb : (ys.map FV.f).find? (fun f => f.name == x.f.name) = some x.f := (perm_find HB.out.2 (Rise.nodup HD.out.ok.rise) _).trans hfind
      obtain ⟨m, y, hy, hyf, -, hfz⟩ := findZ_some hfb
      have hrx := hoz.2.1 x (List.mem_of_getElem? hx)
      have hgood := HD.out.ok.good x.f (List.mem_of_getElem? hfx)
      have hth : s.there x.f.name = 0 := by unfold DS.there; rw [if_pos hgood, if_pos (by rw [hfind]; rfl)]
      have hnl : x.f.name.length ≤ 9223372036854775807 := by unfold goodN at hgood; rw [Bool.and_eq_true, decide_eq_true_eq] at hgood; omega
      have hrd : True := by
        trivial
      have hsz : True := by
        trivial
      have hus : usedF (s.files.take (k + 1)) = usedF (s.files.take k) + x.f.data.length := by
        rw [List.take_add_one, hfx, used_app]
        simp [usedF]
      have hxl : usedF (s.files.take k) + x.f.data.length ≤ s.cap := by
        have h3 := used_app (s.files.take (k + 1)) (s.files.drop (k + 1))
        rw [List.take_append_drop, hus] at h3
        have h1 := HD.out.ok.used
        unfold DS.used at h1
        omega
      have HX := Lib.hid (And.intro hx (And.intro hy (And.intro hfz (And.intro hrd (And.intro hsz (And.intro HS.out.2.2 (And.intro hnl hus)))))))
      have hml : m < ys.length := (List.getElem?_eq_some_iff.1 hy).1
      have HRX := Lib.hid (And.intro hrx hyf)
      clear hx hfx hfind hfb hy hyf hfz hrx hgood hth hnl hrd hsz hus hoz
      generalize usedF (s.files.take k) = U at *
      go_wp2_with fail
      obtain ⟨W1, hW1⟩ : ∃ W, wr.alloc (.cells #[.string (bstr x.f.name), .slice x.A x.f.data.length x.c, .int .i64 (x.f.syn : Int)] 65) = W := ⟨_, rfl⟩
      rw [hW1]
      have n1 : New wr W1 := hW1 ▸ Kp.alloc _ _ _
      have b1 : W1.heap[wr.heap.size]? = some (.cells #[.string (bstr x.f.name), .slice x.A x.f.data.length x.c, .int .i64 (x.f.syn : Int)] 65 (0, 0)) := hW1 ▸ heap_alloc_new wr _
      have o1 := (HB.out.1.kp NW.out (fun _ _ => id)).kp n1 (fun _ _ => id)
      have z1 := (HS.out.1.toN.kp (H2.out.2.1.trans HK.out (fun _ _ h => h) (fun _ _ h => h)) (fun _ _ => id)).kp n1 (fun _ _ => id)
      have f0 : W1.cell? ⟨wr.heap.size, 0, none⟩ = some (.string (bstr x.f.name)) := (cell_of_block b1).trans rfl
      have f1 : W1.cell? ⟨wr.heap.size, 1, none⟩ = some (.slice x.A x.f.data.length x.c) := (cell_of_block b1).trans rfl
      have f2 : W1.cell? ⟨wr.heap.size, 2, none⟩ = some (.int .i64 (x.f.syn : Int)) := (cell_of_block b1).trans rfl
      have rx1 := HRX.out.1.rd.new n1
      have s1' := n1.cell s1
      have s3' := n1.cell s3
      have HW1 := Lib.hid (And.intro n1 (And.intro b1 (And.intro o1 rx1)))
      have HZ1 := Lib.hid (And.intro z1 trivial)
      clear n1 b1 o1 rx1 z1 hW1 t0 t1 t2 s0 s1 s3
      refine (find_calls_n W1 A c ys.length ys x.f.name rfl HW1.out.2.2.1 (by omega)).mono ?_
      rintro e x' ⟨rfl, rfl⟩
      rw [HX.out.2.2.1]
      obtain ⟨g, hAg, r0, r1, r2, -⟩ := HW1.out.2.2.1.at_ HX.out.2.1
      subst hAg
      rw [HRX.out.2] at r0 r1 r2
      have hm0 : (0 : Int) ≤ m := by omega
      have hmi : (m : Int) < (ys.length : Int) := by omega
      have d1 : decide ((m : Int) < 0) = false := decide_eq_false (by omega)
      have v1 := run_conv_RdB (P := Try.prog) W1.drew (src := 28) (dst := 9) Try.underlying28 Try.underlying5 Try.underlying9 x.c (HW1.out.2.2.2.new (Kp.drew _ _))
      have ryd := (HW1.out.2.2.1.2.1 y (List.mem_of_getElem? HX.out.2.1)).rd
      rw [HRX.out.2] at ryd
      have v2 := run_conv_RdB (P := Try.prog) W1.drew (src := 28) (dst := 9) Try.underlying28 Try.underlying5 Try.underlying9 y.c (ryd.new (Kp.drew _ _))
      clear ryd r0
      go_wp2_with fail
      by_cases hkp : (0 : Int) < k
      · obtain ⟨p, hp⟩ : ∃ p, zs[k - 1]? = some p := ⟨_, List.getElem?_eq_getElem (by have := HX.out.2.2.2.2.2.1; omega)⟩
        obtain ⟨gz', hgz', e0, -, -, -⟩ := (HZ1.out.1.at_ hp)
        obtain rfl : gz = gz' := by simpa using hgz'
        have hpx : p.f.name < x.f.name := by
          have h1 : (s.files.map (·.name))[k - 1]? = some p.f.name := by rw [← HS.out.2.1]; simp [hp]
          have h2 : (s.files.map (·.name))[k]? = some x.f.name := by rw [← HS.out.2.1]; simp [HX.out.1]
          obtain ⟨i1, e1⟩ := List.getElem?_eq_some_iff.1 h1
          obtain ⟨i2, e2⟩ := List.getElem?_eq_some_iff.1 h2
          have := List.pairwise_iff_getElem.1 HD.out.ok.rise (k - 1) k i1 i2 (by omega)
          rwa [e1, e2] at this
        have l1 : Op.bytesLess (bstr p.f.name).toList (bstr x.f.name).toList = true := by rw [less_bstr]; exact decide_eq_true hpx
        have l2 : Op.bytesLess (bstr x.f.name).toList (bstr p.f.name).toList = false := by rw [less_bstr]; exact decide_eq_false fun h => nm_irrefl _ (nm_lt_trans h hpx)
        have l3 : ((bstr p.f.name).toList == (bstr x.f.name).toList) = false := by rw [bstr_beq]; exact decide_eq_false fun h => nm_irrefl _ (h ▸ hpx)
        have l4 : ((bstr x.f.name).toList == (bstr p.f.name).toList) = false := by rw [bstr_beq]; exact decide_eq_false fun h => nm_irrefl _ (h ▸ hpx)
        have hkm : (k : Int) - 1 < (ys.length : Int) := by omega
        have hkm0 : (0 : Int) ≤ (k : Int) - 1 := by omega
        have hk1 : (1 : Int) ≤ k := by omega
        have hwk : IntKind.i64.wrap ((k : Int) - 1) = (k : Int) - 1 := by rw [IntKind.wrap_i64]; omega
        have hkt : ((k : Int) - 1).toNat = k - 1 := by omega
        have hkd : decide (0 < k) = true := decide_eq_true (by omega)
        clear hgz' hp hpx
        refine wp_region_line (fun w' => w'.cell? ⟨wr.heap.size, 0, none⟩ = some (.string (bstr x.f.name)) ∧ w'.cell? ⟨wr.heap.size, 1, none⟩ = some (.slice x.A x.f.data.length x.c) ∧ w'.cell? ⟨wr.heap.size, 2, none⟩ = some (.int .i64 (x.f.syn : Int)) ∧ w'.cell? ⟨w1.heap.size, 1, none⟩ = some (.slice (some ⟨gz, 0, none⟩) ys.length c1) ∧ w'.cell? ⟨g, m * 3 + 1, none⟩ = some (.slice y.A x.f.data.length y.c) ∧ w'.cell? ⟨g, m * 3 + 2, none⟩ = some (.int .i64 (x.f.syn : Int)) ∧ (convert 28 9 (.slice x.A x.f.data.length x.c)).run Try.prog w' = .ok (.string (bstr x.f.data)) w' ∧ (convert 28 9 (.slice y.A x.f.data.length y.c)).run Try.prog w' = .ok (.string (bstr x.f.data)) w' ∧ w'.cell? ⟨gz, (k - 1) * 3, none⟩ = some (.string (bstr p.f.name))) (pl := [(0, true), (1, true), (2, true), (3, true), (4, true), (5, true), (6, true), (7, true), (8, true), (9, true), (10, true), (11, true), (12, true), (13, true), (14, true), (15, true), (16, true), (17, true), (18, true), (19, true), (20, true), (21, true), (22, true), (23, true), (24, true), (25, true), (26, true), (27, true), (28, true), (29, true), (30, true), (31, true), (32, true), (33, true), (34, true), (35, true), (36, true), (37, true), (38, true), (39, true)]) hmo (by kernel_rfl) ⟨by simpa using f0, by simpa using f1, by simpa using f2, by simpa using s1', by simpa using r1, by simpa using r2, v1, v2, by simpa using e0⟩ ?_
        iterate 40 (first | (refine line_get rfl rfl (fun K hK => ?_); apply Exists.intro; refine ⟨fun w hS => ?_, ?_⟩; (first | (have hS' := hS rfl; go_simp; with_reducible rfl) | (go_simp; with_reducible rfl)); (go_simp; refine hK _ ?_; clear hK K)) | (refine line_past rfl rfl (fun K hK => ?_); go_simp; refine hK _ ?_; clear hK K))
        refine line_nil ?_
        obtain ⟨W2, hW2⟩ : ∃ W, W1.drew = W := ⟨_, rfl⟩
        rw [hW2]
        have n2 : New W1 W2 := hW2 ▸ Kp.drew _ _
        have p0 := n2.cell f0
        have p1 := n2.cell f1
        have q1 := n2.cell s1'
        have q3 := n2.cell s3'
        have HW2 := Lib.hid n2
        clear hW2 n2 f0 f1 f2 s1' s3' r1 r2 v1 v2 d1 hkd
        clear e0 l1 l2 l3 l4 hkm hkm0 hk1 hwk hkt
        go_wp2_with fail
        exact ⟨⟨k + 1, by omega, by rw [HX.out.2.2.2.2.2.2.2]; go_num, by go_num, Lib.hid ((HK.out.trans HW1.out.1 (fun _ _ h => h) (fun _ _ h => h)).trans HW2.out (fun _ _ h => h) (fun _ _ h => h))⟩, by simp [intOf]; omega⟩
      · have hkd : decide (0 < k) = false := decide_eq_false (by omega)
        refine wp_region_line (fun w' => w'.cell? ⟨wr.heap.size, 0, none⟩ = some (.string (bstr x.f.name)) ∧ w'.cell? ⟨wr.heap.size, 1, none⟩ = some (.slice x.A x.f.data.length x.c) ∧ w'.cell? ⟨wr.heap.size, 2, none⟩ = some (.int .i64 (x.f.syn : Int)) ∧ w'.cell? ⟨w1.heap.size, 1, none⟩ = some (.slice (some ⟨gz, 0, none⟩) ys.length c1) ∧ w'.cell? ⟨g, m * 3 + 1, none⟩ = some (.slice y.A x.f.data.length y.c) ∧ w'.cell? ⟨g, m * 3 + 2, none⟩ = some (.int .i64 (x.f.syn : Int)) ∧ (convert 28 9 (.slice x.A x.f.data.length x.c)).run Try.prog w' = .ok (.string (bstr x.f.data)) w' ∧ (convert 28 9 (.slice y.A x.f.data.length y.c)).run Try.prog w' = .ok (.string (bstr x.f.data)) w') (pl := [(0, true), (1, true), (2, true), (3, true), (4, true), (5, true), (6, true), (7, true), (8, true), (9, true), (10, true), (11, true), (12, true), (13, true), (14, true), (15, true), (16, true), (17, true), (18, true), (19, true), (20, true), (21, true), (22, true), (23, true), (24, true), (25, true), (26, true), (27, true), (28, true), (29, true), (30, true), (31, true), (32, true), (33, true), (34, true), (35, true), (36, true), (37, true), (38, true), (39, true)]) hmo (by kernel_rfl) ⟨by simpa using f0, by simpa using f1, by simpa using f2, by simpa using s1', by simpa using r1, by simpa using r2, v1, v2⟩ ?_
        iterate 40 (first | (refine line_get rfl rfl (fun K hK => ?_); apply Exists.intro; refine ⟨fun w hS => ?_, ?_⟩; (first | (have hS' := hS rfl; go_simp; with_reducible rfl) | (go_simp; with_reducible rfl)); (go_simp; refine hK _ ?_; clear hK K)) | (refine line_past rfl rfl (fun K hK => ?_); go_simp; refine hK _ ?_; clear hK K))
        refine line_nil ?_
        obtain ⟨W2, hW2⟩ : ∃ W, W1.drew = W := ⟨_, rfl⟩
        rw [hW2]
        have n2 : New W1 W2 := hW2 ▸ Kp.drew _ _
        have p0 := n2.cell f0
        have p1 := n2.cell f1
        have q1 := n2.cell s1'
        have q3 := n2.cell s3'
        have HW2 := Lib.hid n2
        clear hW2 n2 f0 f1 f2 s1' s3' r1 r2 v1 v2 d1 hkd
        go_wp2_with fail
        exact ⟨⟨k + 1, by omega, by rw [HX.out.2.2.2.2.2.2.2]; go_num, by go_num, Lib.hid ((HK.out.trans HW1.out.1 (fun _ _ h => h) (fun _ _ h => h)).trans HW2.out (fun _ _ h => h) (fun _ _ h => h))⟩, by simp [intOf]; omega⟩
    · obtain rfl : k = ys.length := by omega
      have hkd : decide (ys.length < ys.length) = false := by simp
      have hall : s.files.take ys.length = s.files := by
        have h1 := congrArg List.length HS.out.2.1
        rw [List.length_map] at h1
        rw [← HS.out.2.2, h1, List.take_length]
      rw [hall]
      rw [hall] at hul
      have hDr := HD.out.new NW.out
      have husd : ((s.cap : Int) - s.used == (s.cap : Int) - (usedF s.files : Nat)) = true := by unfold DS.used; simp
      have hle : decide (usedF s.files ≤ s.cap) = true := decide_eq_true hul
      have hsub : IntKind.i64.wrap ((s.cap : Int) - (usedF s.files : Nat)) = (s.cap : Int) - (usedF s.files : Nat) := by rw [IntKind.wrap_i64]; omega
      have HDr := Lib.hid hDr
      clear hall hDr
      go_wp2_with fail
      refine wp_region_line (fun w' => w'.cell? ⟨w1.heap.size, 0, none⟩ = some (.int .i64 (s.cap : Int)) ∧ w'.cell? ⟨w1.heap.size, 3, none⟩ = some (.bool true)) (pl := [(0, true), (2, true), (3, true), (4, true), (5, true), (1, false), (6, true), (7, true), (8, true), (9, true), (10, true), (11, true), (12, true), (13, true), (14, true), (16, true), (17, true), (15, false), (18, true), (19, true), (20, true), (21, true), (24, true), (25, true), (26, true), (22, false), (23, true), (27, true), (28, true), (29, true)]) hmo (by kernel_rfl) ⟨by simpa using s0, by simpa using s3⟩ ?_
      iterate 5 (refine line_get rfl rfl (fun K hK => ?_); apply Exists.intro; refine ⟨fun w hS => ?_, ?_⟩; (first | (have hS' := hS rfl; go_simp; with_reducible rfl) | (go_simp; with_reducible rfl)); (go_simp; refine hK _ ?_; clear hK K))
      (refine line_do rfl rfl (fun K hK => ?_); go_simp)
      refine (Free_calls wr.drew d s F (HDr.out.new (Kp.drew _ _))).mono ?_
      rintro e w8 ⟨rfl, n8⟩
      have n8' : New wr w8 := Kp.trans (Kp.drew _ _) n8 (fun _ _ h => h) (fun _ _ h => h)
      refine hK _ _ (fun _ => ⟨n8'.cell s0, n8'.cell s3⟩) ?_
      clear hK K
      have N0 := n8'.cell s0
      have N3 := n8'.cell s3
      have H8 := Lib.hid n8'
      clear n8 n8'
      iterate 11 (first | (refine line_get rfl rfl (fun K hK => ?_); apply Exists.intro; refine ⟨fun w hS => ?_, ?_⟩; (first | (have hS' := hS rfl; go_simp; with_reducible rfl) | (go_simp; with_reducible rfl)); (go_simp; refine hK _ ?_; clear hK K)) | (refine line_past rfl rfl (fun K hK => ?_); go_simp; refine hK _ ?_; clear hK K))
      (refine line_do rfl rfl (fun K hK => ?_); go_simp)
      refine (Down_calls w8 d s F (HDr.out.new H8.out)).mono ?_
      rintro e x5 ⟨rfl, rfl⟩
      rw [HDN.out]
      refine hK _ _ (fun _ => ⟨N0, N3⟩) ?_
      clear hK K
      iterate 7 (first | (refine line_get rfl rfl (fun K hK => ?_); apply Exists.intro; refine ⟨fun w hS => ?_, ?_⟩; (first | (have hS' := hS rfl; go_simp; with_reducible rfl) | (go_simp; with_reducible rfl)); (go_simp; refine hK _ ?_; clear hK K)) | (refine line_past rfl rfl (fun K hK => ?_); go_simp; refine hK _ ?_; clear hK K))
      (refine line_do rfl rfl (fun K hK => ?_); go_simp)
      refine (num_calls _ _).mono ?_
      rintro e x5 ⟨rfl, rfl⟩
      refine hK _ _ (fun _ => ⟨N0, N3⟩) ?_
      clear hK K
      iterate 4 (first | (refine line_get rfl rfl (fun K hK => ?_); apply Exists.intro; refine ⟨fun w hS => ?_, ?_⟩; (first | (have hS' := hS rfl; go_simp; with_reducible rfl) | (go_simp; with_reducible rfl)); (go_simp; refine hK _ ?_; clear hK K)) | (refine line_past rfl rfl (fun K hK => ?_); go_simp; refine hK _ ?_; clear hK K))
      refine line_nil ?_
      go_wp2_with fail
      go_ret
      exact ⟨rfl, NW.out.trans H8.out (fun _ _ h => h) (fun _ _ h => h)⟩

set_option maxRecDepth 100000 in
set_option maxHeartbeats 16000000 in
theorem shows_false (w : World) (d : Nat) (s : DS) (F : List Nat) (A : Option Addr) (c : Nat) (ys : List FV) (hD : DiskAt w d s F) (hB : OwnN 66 w A c ys) (hP : (ys.map FV.f).Perm s.files) (hdn : s.down = false) :
    Calls Try.prog 15 #[.pointer (some ⟨d, 0, none⟩), .slice A ys.length c] w fun e w' => e = .returned (.bool true) ∧ New w w' := by
  have HD := Lib.hid hD
  have HB := Lib.hid (And.intro hB hP)
  have HDN := Lib.hid hdn
  have hyl : ys.length ≤ 64 := by have h1 := hP.length_eq; rw [List.length_map] at h1; have := hD.ok.few; omega
  have hmo : Try.prog.follows Departure.mixedOrders = true := by kernel_rfl
  clear hD hB hP hdn
  go_enter Try.func15, Try.ntmps15
  go_wp2_with fail
  refine (State_calls w d s F HD.out).mono ?_
  rintro e w1 ⟨A1, c1, zs, rfl, ho1, hz1, hf1, n1⟩
  have hzl : zs.length = ys.length := by have h1 := congrArg List.length hz1; rw [List.length_map] at h1; have h2 := HB.out.2.length_eq; rw [List.length_map] at h2; omega
  have HS := Lib.hid (And.intro ho1 (And.intro hz1 hzl))
  rw [hzl, HDN.out]
  have H1 := Lib.hid n1
  clear ho1 hz1 hf1 hzl n1
  have W2a : New w1 (w1.alloc (.cells #[.int .i64 (s.cap : Int), .slice A1 ys.length c1, .int .i64 s.fuse, .bool false] 32)) := Kp.alloc _ _ _
  have W2b : (w1.alloc (.cells #[.int .i64 (s.cap : Int), .slice A1 ys.length c1, .int .i64 s.fuse, .bool false] 32)).heap[w1.heap.size]? = some (.cells #[.int .i64 (s.cap : Int), .slice A1 ys.length c1, .int .i64 s.fuse, .bool false] 32 (0, 0)) := heap_alloc_new w1 _
  have W2s : (w1.alloc (.cells #[.int .i64 (s.cap : Int), .slice A1 ys.length c1, .int .i64 s.fuse, .bool false] 32)).cell? ⟨w1.heap.size, 1, none⟩ = some (.slice A1 ys.length c1) := (cell_of_block W2b).trans rfl
  have HW := Lib.hid (And.intro W2a W2b)
  clear W2a W2b
  go_wp2_with fail
  obtain ⟨W2, hW2⟩ : ∃ W, w1.alloc (.cells #[.int .i64 (s.cap : Int), .slice A1 ys.length c1, .int .i64 s.fuse, .bool false] 32) = W := ⟨_, rfl⟩
  rw [hW2] at HW ⊢
  have H2 := Lib.hid (And.intro (H1.out.trans HW.out.1 (fun _ _ h => h) (fun _ _ h => h) : New w W2) HW.out)
  clear hW2 W2s HW
  refine (List_calls W2 d s F (HD.out.new H2.out.1) HDN.out).mono ?_
  rintro e w4 ⟨AN, nN, cN, rfl, hnl, hno, n4, -⟩
  have hnl2 : nN = ys.length := by rw [hnl, DS.namesOf, List.length_map]; have h1 := congrArg List.length HS.out.2.1; rw [List.length_map] at h1; have := HS.out.2.2; omega
  have HL := Lib.hid (And.intro hnl2 (And.intro hno n4))
  clear hnl hno n4 hnl2
  go_wp2_with fail
  go_loopw [6, 9] (fun nv i wr => ∃ k : Nat, k ≤ ys.length ∧ nv = .int .i64 ((usedF (s.files.take k) : Nat) : Int) ∧ i = .int .i64 (k : Int) ∧ Hid (New w4 wr)) (fun _ i _ => ys.length - (intOf i).toNat)
  case atStart => exact ⟨0, Nat.zero_le _, by simp [usedF], rfl, Lib.hid (Kp.refl _ _)⟩
  case round =>
    obtain ⟨k, hk, rfl, rfl, HK⟩ := hrel
    have hk0 : (0 : Int) ≤ k := by omega
    have nww : New w wr := (H2.out.1.trans HL.out.2.2 (fun _ _ h => h) (fun _ _ h => h)).trans HK.out (fun _ _ h => h) (fun _ _ h => h)
    have NW := Lib.hid nww
    have bs := heap_kp H2.out.2.2 (HL.out.2.2.trans HK.out (fun _ _ h => h) (fun _ _ h => h)) id
    have s1 : wr.cell? ⟨w1.heap.size, 1, none⟩ = some (.slice A1 ys.length c1) := (cell_of_block bs).trans rfl
    have s3 : wr.cell? ⟨w1.heap.size, 3, none⟩ = some (.bool false) := (cell_of_block bs).trans (by rw [← HDN.out]; rfl)
    have s0 : wr.cell? ⟨w1.heap.size, 0, none⟩ = some (.int .i64 (s.cap : Int)) := (cell_of_block bs).trans rfl
    have hul : usedF (s.files.take k) ≤ s.cap := by
      have h1 := HD.out.ok.used
      have h2 : usedF (s.files.take k) ≤ s.used := by
        have h3 := used_app (s.files.take k) (s.files.drop k)
        rw [List.take_append_drop] at h3
        unfold DS.used
        omega
      omega
    have hcap := HD.out.ok.cap
    have HBS := Lib.hid bs
    clear nww bs
    by_cases hlt : k < ys.length
    · have hki : (k : Int) < (ys.length : Int) := by omega
      obtain ⟨x, hx⟩ : ∃ x, zs[k]? = some x := ⟨_, List.getElem?_eq_getElem (by have := HS.out.2.2; omega)⟩
      have hoz := HS.out.1.toN.kp ((H2.out.2.1.trans HL.out.2.2 (fun _ _ h => h) (fun _ _ h => h)).trans HK.out (fun _ _ h => h) (fun _ _ h => h)) (fun _ _ => id)
      obtain ⟨gz, hA1, t0, t1, t2, -⟩ := hoz.at_ hx
      subst hA1
      have hfx : s.files[k]? = some x.f := by rw [← HS.out.2.1]; simp [hx]
      have hfind := find_file HD.out.ok hfx
      have hfb : (ys.map FV.f).find? (fun f => f.name == x.f.name) = some x.f := (perm_find HB.out.2 (Rise.nodup HD.out.ok.rise) _).trans hfind
      obtain ⟨m, y, hy, hyf, -, hfz⟩ := findZ_some hfb
      have hrx := hoz.2.1 x (List.mem_of_getElem? hx)
      have hgood := HD.out.ok.good x.f (List.mem_of_getElem? hfx)
      have hth : s.there x.f.name = 0 := by unfold DS.there; rw [if_pos hgood, if_pos (by rw [hfind]; rfl)]
      have hnl : x.f.name.length ≤ 9223372036854775807 := by unfold goodN at hgood; rw [Bool.and_eq_true, decide_eq_true_eq] at hgood; omega
      have hrd : s.read x.f.name 0 (x.f.data.length : Int) = (x.f.data, 0) := by
        unfold DS.read; rw [if_neg (by rw [HDN.out]; simp), if_neg (fun h => h hth), hfind]; simp
      have hsz : s.size x.f.name = (x.f.data.length, 0) := by
        unfold DS.size; rw [if_neg (by rw [HDN.out]; simp), if_neg (fun h => h hth), hfind]; rfl
      have hus : usedF (s.files.take (k + 1)) = usedF (s.files.take k) + x.f.data.length := by
        rw [List.take_add_one, hfx, used_app]
        simp [usedF]
      have hxl : usedF (s.files.take k) + x.f.data.length ≤ s.cap := by
        have h3 := used_app (s.files.take (k + 1)) (s.files.drop (k + 1))
        rw [List.take_append_drop, hus] at h3
        have h1 := HD.out.ok.used
        unfold DS.used at h1
        omega
      have HX := Lib.hid (And.intro hx (And.intro hy (And.intro hfz (And.intro hrd (And.intro hsz (And.intro HS.out.2.2 (And.intro hnl hus)))))))
      have hml : m < ys.length := (List.getElem?_eq_some_iff.1 hy).1
      have HRX := Lib.hid (And.intro hrx hyf)
      clear hx hfx hfind hfb hy hyf hfz hrx hgood hth hnl hrd hsz hus hoz
      generalize usedF (s.files.take k) = U at *
      go_wp2_with fail
      obtain ⟨W1, hW1⟩ : ∃ W, wr.alloc (.cells #[.string (bstr x.f.name), .slice x.A x.f.data.length x.c, .int .i64 (x.f.syn : Int)] 65) = W := ⟨_, rfl⟩
      rw [hW1]
      have n1 : New wr W1 := hW1 ▸ Kp.alloc _ _ _
      have b1 : W1.heap[wr.heap.size]? = some (.cells #[.string (bstr x.f.name), .slice x.A x.f.data.length x.c, .int .i64 (x.f.syn : Int)] 65 (0, 0)) := hW1 ▸ heap_alloc_new wr _
      have o1 := (HB.out.1.kp NW.out (fun _ _ => id)).kp n1 (fun _ _ => id)
      have z1 := (HS.out.1.toN.kp ((H2.out.2.1.trans HL.out.2.2 (fun _ _ h => h) (fun _ _ h => h)).trans HK.out (fun _ _ h => h) (fun _ _ h => h)) (fun _ _ => id)).kp n1 (fun _ _ => id)
      have f0 : W1.cell? ⟨wr.heap.size, 0, none⟩ = some (.string (bstr x.f.name)) := (cell_of_block b1).trans rfl
      have f1 : W1.cell? ⟨wr.heap.size, 1, none⟩ = some (.slice x.A x.f.data.length x.c) := (cell_of_block b1).trans rfl
      have f2 : W1.cell? ⟨wr.heap.size, 2, none⟩ = some (.int .i64 (x.f.syn : Int)) := (cell_of_block b1).trans rfl
      have rx1 := HRX.out.1.rd.new n1
      have s1' := n1.cell s1
      have s3' := n1.cell s3
      have HW1 := Lib.hid (And.intro n1 (And.intro b1 (And.intro o1 rx1)))
      have HZ1 := Lib.hid (And.intro z1 trivial)
      clear n1 b1 o1 rx1 z1 hW1 t0 t1 t2 s0 s1 s3
      refine (find_calls_n W1 A c ys.length ys x.f.name rfl HW1.out.2.2.1 (by omega)).mono ?_
      rintro e x' ⟨rfl, rfl⟩
      rw [HX.out.2.2.1]
      obtain ⟨g, hAg, r0, r1, r2, -⟩ := HW1.out.2.2.1.at_ HX.out.2.1
      subst hAg
      rw [HRX.out.2] at r0 r1 r2
      have hm0 : (0 : Int) ≤ m := by omega
      have hmi : (m : Int) < (ys.length : Int) := by omega
      have d1 : decide ((m : Int) < 0) = false := decide_eq_false (by omega)
      have v1 := run_conv_RdB (P := Try.prog) W1.drew (src := 28) (dst := 9) Try.underlying28 Try.underlying5 Try.underlying9 x.c (HW1.out.2.2.2.new (Kp.drew _ _))
      have ryd := (HW1.out.2.2.1.2.1 y (List.mem_of_getElem? HX.out.2.1)).rd
      rw [HRX.out.2] at ryd
      have v2 := run_conv_RdB (P := Try.prog) W1.drew (src := 28) (dst := 9) Try.underlying28 Try.underlying5 Try.underlying9 y.c (ryd.new (Kp.drew _ _))
      clear ryd r0
      go_wp2_with fail
      by_cases hkp : (0 : Int) < k
      · obtain ⟨p, hp⟩ : ∃ p, zs[k - 1]? = some p := ⟨_, List.getElem?_eq_getElem (by have := HX.out.2.2.2.2.2.1; omega)⟩
        obtain ⟨gz', hgz', e0, -, -, -⟩ := (HZ1.out.1.at_ hp)
        obtain rfl : gz = gz' := by simpa using hgz'
        have hpx : p.f.name < x.f.name := by
          have h1 : (s.files.map (·.name))[k - 1]? = some p.f.name := by rw [← HS.out.2.1]; simp [hp]
          have h2 : (s.files.map (·.name))[k]? = some x.f.name := by rw [← HS.out.2.1]; simp [HX.out.1]
          obtain ⟨i1, e1⟩ := List.getElem?_eq_some_iff.1 h1
          obtain ⟨i2, e2⟩ := List.getElem?_eq_some_iff.1 h2
          have := List.pairwise_iff_getElem.1 HD.out.ok.rise (k - 1) k i1 i2 (by omega)
          rwa [e1, e2] at this
        have l1 : Op.bytesLess (bstr p.f.name).toList (bstr x.f.name).toList = true := by rw [less_bstr]; exact decide_eq_true hpx
        have l2 : Op.bytesLess (bstr x.f.name).toList (bstr p.f.name).toList = false := by rw [less_bstr]; exact decide_eq_false fun h => nm_irrefl _ (nm_lt_trans h hpx)
        have l3 : ((bstr p.f.name).toList == (bstr x.f.name).toList) = false := by rw [bstr_beq]; exact decide_eq_false fun h => nm_irrefl _ (h ▸ hpx)
        have l4 : ((bstr x.f.name).toList == (bstr p.f.name).toList) = false := by rw [bstr_beq]; exact decide_eq_false fun h => nm_irrefl _ (h ▸ hpx)
        have hkm : (k : Int) - 1 < (ys.length : Int) := by omega
        have hkm0 : (0 : Int) ≤ (k : Int) - 1 := by omega
        have hk1 : (1 : Int) ≤ k := by omega
        have hwk : IntKind.i64.wrap ((k : Int) - 1) = (k : Int) - 1 := by rw [IntKind.wrap_i64]; omega
        have hkt : ((k : Int) - 1).toNat = k - 1 := by omega
        have hkd : decide (0 < k) = true := decide_eq_true (by omega)
        clear hgz' hp hpx
        refine wp_region_line (fun w' => w'.cell? ⟨wr.heap.size, 0, none⟩ = some (.string (bstr x.f.name)) ∧ w'.cell? ⟨wr.heap.size, 1, none⟩ = some (.slice x.A x.f.data.length x.c) ∧ w'.cell? ⟨wr.heap.size, 2, none⟩ = some (.int .i64 (x.f.syn : Int)) ∧ w'.cell? ⟨w1.heap.size, 1, none⟩ = some (.slice (some ⟨gz, 0, none⟩) ys.length c1) ∧ w'.cell? ⟨g, m * 3 + 1, none⟩ = some (.slice y.A x.f.data.length y.c) ∧ w'.cell? ⟨g, m * 3 + 2, none⟩ = some (.int .i64 (x.f.syn : Int)) ∧ (convert 28 9 (.slice x.A x.f.data.length x.c)).run Try.prog w' = .ok (.string (bstr x.f.data)) w' ∧ (convert 28 9 (.slice y.A x.f.data.length y.c)).run Try.prog w' = .ok (.string (bstr x.f.data)) w' ∧ w'.cell? ⟨gz, (k - 1) * 3, none⟩ = some (.string (bstr p.f.name))) (pl := [(0, true), (1, true), (2, true), (3, true), (4, true), (5, true), (6, true), (7, true), (8, true), (9, true), (10, true), (11, true), (12, true), (13, true), (14, true), (15, true), (16, true), (17, true), (18, true), (19, true), (20, true), (21, true), (22, true), (23, true), (24, true), (25, true), (26, true), (27, true), (28, true), (29, true), (30, true), (31, true), (32, true), (33, true), (34, true), (35, true), (36, true), (37, true), (38, true), (39, true)]) hmo (by kernel_rfl) ⟨by simpa using f0, by simpa using f1, by simpa using f2, by simpa using s1', by simpa using r1, by simpa using r2, v1, v2, by simpa using e0⟩ ?_
        iterate 40 (first | (refine line_get rfl rfl (fun K hK => ?_); apply Exists.intro; refine ⟨fun w hS => ?_, ?_⟩; (first | (have hS' := hS rfl; go_simp; with_reducible rfl) | (go_simp; with_reducible rfl)); (go_simp; refine hK _ ?_; clear hK K)) | (refine line_past rfl rfl (fun K hK => ?_); go_simp; refine hK _ ?_; clear hK K))
        refine line_nil ?_
        obtain ⟨W2, hW2⟩ : ∃ W, W1.drew = W := ⟨_, rfl⟩
        rw [hW2]
        have n2 : New W1 W2 := hW2 ▸ Kp.drew _ _
        have p0 := n2.cell f0
        have p1 := n2.cell f1
        have q1 := n2.cell s1'
        have q3 := n2.cell s3'
        have HW2 := Lib.hid n2
        clear hW2 n2 f0 f1 f2 s1' s3' r1 r2 v1 v2 d1 hkd
        clear e0 l1 l2 l3 l4 hkm hkm0 hk1 hwk hkt
        go_wp2_with fail
        refine (Read_calls W2 d s F x.f.name 0 (x.f.data.length : Int) (HD.out.new ((NW.out.trans HW1.out.1 (fun _ _ h => h) (fun _ _ h => h)).trans HW2.out (fun _ _ h => h) (fun _ _ h => h))) HX.out.2.2.2.2.2.2.1 (by omega) (by omega)).mono ?_
        rintro e w5 ⟨A5, m5, c5, rfl, h5, o5, m6, -⟩
        rw [HX.out.2.2.2.1] at h5 o5
        simp only at h5 o5
        subst h5
        rw [HX.out.2.2.2.1]
        have P0 := m6.cell p0
        have P1 := m6.cell p1
        have Q1 := m6.cell q1
        have Q3 := m6.cell q3
        have H5 := Lib.hid (And.intro o5 m6)
        clear o5 m6 p0 p1 q1 q3
        go_wp2_with fail
        refine (Size_calls w5 d s F x.f.name (HD.out.new (((NW.out.trans HW1.out.1 (fun _ _ h => h) (fun _ _ h => h)).trans HW2.out (fun _ _ h => h) (fun _ _ h => h)).trans H5.out.2 (fun _ _ h => h) (fun _ _ h => h))) HX.out.2.2.2.2.2.2.1).mono ?_
        rintro e w6 ⟨rfl, n6⟩
        rw [HX.out.2.2.2.2.1]
        have R0 := n6.cell P0
        have R1 := n6.cell P1
        have n16 := ((HW1.out.1.trans HW2.out (fun _ _ h => h) (fun _ _ h => h)).trans H5.out.2 (fun _ _ h => h) (fun _ _ h => h)).trans n6 (fun _ _ h => h) (fun _ _ h => h)
        have hno := HL.out.2.1.kp (HK.out.trans n16 (fun _ _ h => h) (fun _ _ h => h)) (fun _ _ => id)
        obtain ⟨gn, rfl⟩ := hno.some_ (by have := HL.out.1; have h2 := HX.out.2.2.2.2.2.1; have h3 := HS.out.2.2; omega)
        have R2 : w6.cell? ⟨gn, k, none⟩ = some (.string (bstr x.f.name)) := hno.cell (by
          have : s.files[k]? = some x.f := by rw [← HS.out.2.1]; simp [HX.out.1]
          simp [DS.namesOf, this])
        have V1 := run_conv_RdB (P := Try.prog) w6.drew (src := 28) (dst := 9) Try.underlying28 Try.underlying5 Try.underlying9 x.c (((HW1.out.2.2.2.new HW2.out).new H5.out.2).new n6 |>.new (Kp.drew _ _))
        have V2 := run_conv_RdB (P := Try.prog) w6.drew (src := 28) (dst := 9) Try.underlying28 Try.underlying5 Try.underlying9 c5 (((Own.rd2 H5.out.1).new n6).new (Kp.drew _ _))
        have hnn : nN = ys.length := HL.out.1
        subst hnn
        have H6 := Lib.hid n16
        clear P0 P1 Q1 Q3 n6 n16 hno
        go_wp2_with fail
        refine wp_region_line (fun w' => w'.cell? ⟨wr.heap.size, 0, none⟩ = some (.string (bstr x.f.name)) ∧ w'.cell? ⟨wr.heap.size, 1, none⟩ = some (.slice x.A x.f.data.length x.c) ∧ w'.cell? ⟨gn, k, none⟩ = some (.string (bstr x.f.name)) ∧ (convert 28 9 (.slice x.A x.f.data.length x.c)).run Try.prog w' = .ok (.string (bstr x.f.data)) w' ∧ (convert 28 9 (.slice A5 x.f.data.length c5)).run Try.prog w' = .ok (.string (bstr x.f.data)) w') (pl := [(0, true), (1, false), (2, true), (3, true), (4, true), (5, false), (6, true), (7, true), (8, true), (9, true), (10, true), (11, true), (12, true), (13, true), (14, true), (15, true), (16, true), (17, true), (18, true), (19, true), (20, true), (21, true), (22, true), (23, true), (24, true), (25, false), (26, true), (27, true), (28, true), (29, true), (30, true), (31, true), (32, true), (33, true), (34, true), (35, true), (36, true), (37, true), (38, true), (39, true), (40, true), (41, true), (42, true), (43, true)]) hmo (by kernel_rfl) ⟨by simpa using R0, by simpa using R1, by simpa using R2, V1, V2⟩ ?_
        have N0 : w6.drew.cell? ⟨wr.heap.size, 0, none⟩ = some (.string (bstr x.f.name)) := by simpa using R0
        have N1 : w6.drew.cell? ⟨wr.heap.size, 1, none⟩ = some (.slice x.A x.f.data.length x.c) := by simpa using R1
        have N2 : w6.drew.cell? ⟨gn, k, none⟩ = some (.string (bstr x.f.name)) := by simpa using R2
        have HV := Lib.hid (And.intro V1 V2)
        clear V1 V2
        (refine line_get rfl rfl (fun K hK => ?_); apply Exists.intro; refine ⟨fun w hS => ?_, ?_⟩; (first | (have hS' := hS rfl; go_simp; with_reducible rfl) | (go_simp; with_reducible rfl)); (go_simp; refine hK _ ?_; clear hK K))
        (refine line_do rfl rfl (fun K hK => ?_); go_simp)
        refine (num_calls _ _).mono ?_
        rintro e x5 ⟨rfl, rfl⟩
        refine hK _ _ (fun _ => ⟨N0, N1, N2, HV.out.1, HV.out.2⟩) ?_
        clear hK K
        iterate 3 (first | (refine line_get rfl rfl (fun K hK => ?_); apply Exists.intro; refine ⟨fun w hS => ?_, ?_⟩; (first | (have hS' := hS rfl; go_simp; with_reducible rfl) | (go_simp; with_reducible rfl)); (go_simp; refine hK _ ?_; clear hK K)) | (refine line_past rfl rfl (fun K hK => ?_); go_simp; refine hK _ ?_; clear hK K))
        (refine line_do rfl rfl (fun K hK => ?_); go_simp)
        refine (num_calls _ _).mono ?_
        rintro e x5 ⟨rfl, rfl⟩
        refine hK _ _ (fun _ => ⟨N0, N1, N2, HV.out.1, HV.out.2⟩) ?_
        clear hK K
        iterate 19 (first | (refine line_get rfl rfl (fun K hK => ?_); apply Exists.intro; refine ⟨fun w hS => ?_, ?_⟩; (first | (have hS' := hS rfl; go_simp; with_reducible rfl) | (go_simp; with_reducible rfl)); (go_simp; refine hK _ ?_; clear hK K)) | (refine line_past rfl rfl (fun K hK => ?_); go_simp; refine hK _ ?_; clear hK K))
        (refine line_do rfl rfl (fun K hK => ?_); go_simp)
        refine (num_calls _ _).mono ?_
        rintro e x5 ⟨rfl, rfl⟩
        refine hK _ _ (fun _ => ⟨N0, N1, N2, HV.out.1, HV.out.2⟩) ?_
        clear hK K
        iterate 18 (first | (refine line_get rfl rfl (fun K hK => ?_); apply Exists.intro; refine ⟨fun w hS => ?_, ?_⟩; (first | (have hS' := hS rfl; go_simp; with_reducible rfl) | (go_simp; with_reducible rfl)); (go_simp; refine hK _ ?_; clear hK K)) | (refine line_past rfl rfl (fun K hK => ?_); go_simp; refine hK _ ?_; clear hK K))
        refine line_nil ?_
        clear R0 R1 R2 N0 N1 N2
        go_wp2_with fail
        exact ⟨⟨k + 1, by omega, by rw [HX.out.2.2.2.2.2.2.2]; go_num, by go_num, Lib.hid ((HK.out.trans H6.out (fun _ _ h => h) (fun _ _ h => h)).trans (Kp.drew _ _) (fun _ _ h => h) (fun _ _ h => h))⟩, by simp [intOf]; omega⟩
      · have hkd : decide (0 < k) = false := decide_eq_false (by omega)
        refine wp_region_line (fun w' => w'.cell? ⟨wr.heap.size, 0, none⟩ = some (.string (bstr x.f.name)) ∧ w'.cell? ⟨wr.heap.size, 1, none⟩ = some (.slice x.A x.f.data.length x.c) ∧ w'.cell? ⟨wr.heap.size, 2, none⟩ = some (.int .i64 (x.f.syn : Int)) ∧ w'.cell? ⟨w1.heap.size, 1, none⟩ = some (.slice (some ⟨gz, 0, none⟩) ys.length c1) ∧ w'.cell? ⟨g, m * 3 + 1, none⟩ = some (.slice y.A x.f.data.length y.c) ∧ w'.cell? ⟨g, m * 3 + 2, none⟩ = some (.int .i64 (x.f.syn : Int)) ∧ (convert 28 9 (.slice x.A x.f.data.length x.c)).run Try.prog w' = .ok (.string (bstr x.f.data)) w' ∧ (convert 28 9 (.slice y.A x.f.data.length y.c)).run Try.prog w' = .ok (.string (bstr x.f.data)) w') (pl := [(0, true), (1, true), (2, true), (3, true), (4, true), (5, true), (6, true), (7, true), (8, true), (9, true), (10, true), (11, true), (12, true), (13, true), (14, true), (15, true), (16, true), (17, true), (18, true), (19, true), (20, true), (21, true), (22, true), (23, true), (24, true), (25, true), (26, true), (27, true), (28, true), (29, true), (30, true), (31, true), (32, true), (33, true), (34, true), (35, true), (36, true), (37, true), (38, true), (39, true)]) hmo (by kernel_rfl) ⟨by simpa using f0, by simpa using f1, by simpa using f2, by simpa using s1', by simpa using r1, by simpa using r2, v1, v2⟩ ?_
        iterate 40 (first | (refine line_get rfl rfl (fun K hK => ?_); apply Exists.intro; refine ⟨fun w hS => ?_, ?_⟩; (first | (have hS' := hS rfl; go_simp; with_reducible rfl) | (go_simp; with_reducible rfl)); (go_simp; refine hK _ ?_; clear hK K)) | (refine line_past rfl rfl (fun K hK => ?_); go_simp; refine hK _ ?_; clear hK K))
        refine line_nil ?_
        obtain ⟨W2, hW2⟩ : ∃ W, W1.drew = W := ⟨_, rfl⟩
        rw [hW2]
        have n2 : New W1 W2 := hW2 ▸ Kp.drew _ _
        have p0 := n2.cell f0
        have p1 := n2.cell f1
        have q1 := n2.cell s1'
        have q3 := n2.cell s3'
        have HW2 := Lib.hid n2
        clear hW2 n2 f0 f1 f2 s1' s3' r1 r2 v1 v2 d1 hkd
        go_wp2_with fail
        refine (Read_calls W2 d s F x.f.name 0 (x.f.data.length : Int) (HD.out.new ((NW.out.trans HW1.out.1 (fun _ _ h => h) (fun _ _ h => h)).trans HW2.out (fun _ _ h => h) (fun _ _ h => h))) HX.out.2.2.2.2.2.2.1 (by omega) (by omega)).mono ?_
        rintro e w5 ⟨A5, m5, c5, rfl, h5, o5, m6, -⟩
        rw [HX.out.2.2.2.1] at h5 o5
        simp only at h5 o5
        subst h5
        rw [HX.out.2.2.2.1]
        have P0 := m6.cell p0
        have P1 := m6.cell p1
        have Q1 := m6.cell q1
        have Q3 := m6.cell q3
        have H5 := Lib.hid (And.intro o5 m6)
        clear o5 m6 p0 p1 q1 q3
        go_wp2_with fail
        refine (Size_calls w5 d s F x.f.name (HD.out.new (((NW.out.trans HW1.out.1 (fun _ _ h => h) (fun _ _ h => h)).trans HW2.out (fun _ _ h => h) (fun _ _ h => h)).trans H5.out.2 (fun _ _ h => h) (fun _ _ h => h))) HX.out.2.2.2.2.2.2.1).mono ?_
        rintro e w6 ⟨rfl, n6⟩
        rw [HX.out.2.2.2.2.1]
        have R0 := n6.cell P0
        have R1 := n6.cell P1
        have n16 := ((HW1.out.1.trans HW2.out (fun _ _ h => h) (fun _ _ h => h)).trans H5.out.2 (fun _ _ h => h) (fun _ _ h => h)).trans n6 (fun _ _ h => h) (fun _ _ h => h)
        have hno := HL.out.2.1.kp (HK.out.trans n16 (fun _ _ h => h) (fun _ _ h => h)) (fun _ _ => id)
        obtain ⟨gn, rfl⟩ := hno.some_ (by have := HL.out.1; have h2 := HX.out.2.2.2.2.2.1; have h3 := HS.out.2.2; omega)
        have R2 : w6.cell? ⟨gn, k, none⟩ = some (.string (bstr x.f.name)) := hno.cell (by
          have : s.files[k]? = some x.f := by rw [← HS.out.2.1]; simp [HX.out.1]
          simp [DS.namesOf, this])
        have V1 := run_conv_RdB (P := Try.prog) w6.drew (src := 28) (dst := 9) Try.underlying28 Try.underlying5 Try.underlying9 x.c (((HW1.out.2.2.2.new HW2.out).new H5.out.2).new n6 |>.new (Kp.drew _ _))
        have V2 := run_conv_RdB (P := Try.prog) w6.drew (src := 28) (dst := 9) Try.underlying28 Try.underlying5 Try.underlying9 c5 (((Own.rd2 H5.out.1).new n6).new (Kp.drew _ _))
        have hnn : nN = ys.length := HL.out.1
        subst hnn
        have H6 := Lib.hid n16
        clear P0 P1 Q1 Q3 n6 n16 hno
        go_wp2_with fail
        refine wp_region_line (fun w' => w'.cell? ⟨wr.heap.size, 0, none⟩ = some (.string (bstr x.f.name)) ∧ w'.cell? ⟨wr.heap.size, 1, none⟩ = some (.slice x.A x.f.data.length x.c) ∧ w'.cell? ⟨gn, k, none⟩ = some (.string (bstr x.f.name)) ∧ (convert 28 9 (.slice x.A x.f.data.length x.c)).run Try.prog w' = .ok (.string (bstr x.f.data)) w' ∧ (convert 28 9 (.slice A5 x.f.data.length c5)).run Try.prog w' = .ok (.string (bstr x.f.data)) w') (pl := [(0, true), (1, false), (2, true), (3, true), (4, true), (5, false), (6, true), (7, true), (8, true), (9, true), (10, true), (11, true), (12, true), (13, true), (14, true), (15, true), (16, true), (17, true), (18, true), (19, true), (20, true), (21, true), (22, true), (23, true), (24, true), (25, false), (26, true), (27, true), (28, true), (29, true), (30, true), (31, true), (32, true), (33, true), (34, true), (35, true), (36, true), (37, true), (38, true), (39, true), (40, true), (41, true), (42, true), (43, true)]) hmo (by kernel_rfl) ⟨by simpa using R0, by simpa using R1, by simpa using R2, V1, V2⟩ ?_
        have N0 : w6.drew.cell? ⟨wr.heap.size, 0, none⟩ = some (.string (bstr x.f.name)) := by simpa using R0
        have N1 : w6.drew.cell? ⟨wr.heap.size, 1, none⟩ = some (.slice x.A x.f.data.length x.c) := by simpa using R1
        have N2 : w6.drew.cell? ⟨gn, k, none⟩ = some (.string (bstr x.f.name)) := by simpa using R2
        have HV := Lib.hid (And.intro V1 V2)
        clear V1 V2
        (refine line_get rfl rfl (fun K hK => ?_); apply Exists.intro; refine ⟨fun w hS => ?_, ?_⟩; (first | (have hS' := hS rfl; go_simp; with_reducible rfl) | (go_simp; with_reducible rfl)); (go_simp; refine hK _ ?_; clear hK K))
        (refine line_do rfl rfl (fun K hK => ?_); go_simp)
        refine (num_calls _ _).mono ?_
        rintro e x5 ⟨rfl, rfl⟩
        refine hK _ _ (fun _ => ⟨N0, N1, N2, HV.out.1, HV.out.2⟩) ?_
        clear hK K
        iterate 3 (first | (refine line_get rfl rfl (fun K hK => ?_); apply Exists.intro; refine ⟨fun w hS => ?_, ?_⟩; (first | (have hS' := hS rfl; go_simp; with_reducible rfl) | (go_simp; with_reducible rfl)); (go_simp; refine hK _ ?_; clear hK K)) | (refine line_past rfl rfl (fun K hK => ?_); go_simp; refine hK _ ?_; clear hK K))
        (refine line_do rfl rfl (fun K hK => ?_); go_simp)
        refine (num_calls _ _).mono ?_
        rintro e x5 ⟨rfl, rfl⟩
        refine hK _ _ (fun _ => ⟨N0, N1, N2, HV.out.1, HV.out.2⟩) ?_
        clear hK K
        iterate 19 (first | (refine line_get rfl rfl (fun K hK => ?_); apply Exists.intro; refine ⟨fun w hS => ?_, ?_⟩; (first | (have hS' := hS rfl; go_simp; with_reducible rfl) | (go_simp; with_reducible rfl)); (go_simp; refine hK _ ?_; clear hK K)) | (refine line_past rfl rfl (fun K hK => ?_); go_simp; refine hK _ ?_; clear hK K))
        (refine line_do rfl rfl (fun K hK => ?_); go_simp)
        refine (num_calls _ _).mono ?_
        rintro e x5 ⟨rfl, rfl⟩
        refine hK _ _ (fun _ => ⟨N0, N1, N2, HV.out.1, HV.out.2⟩) ?_
        clear hK K
        iterate 18 (first | (refine line_get rfl rfl (fun K hK => ?_); apply Exists.intro; refine ⟨fun w hS => ?_, ?_⟩; (first | (have hS' := hS rfl; go_simp; with_reducible rfl) | (go_simp; with_reducible rfl)); (go_simp; refine hK _ ?_; clear hK K)) | (refine line_past rfl rfl (fun K hK => ?_); go_simp; refine hK _ ?_; clear hK K))
        refine line_nil ?_
        clear R0 R1 R2 N0 N1 N2
        go_wp2_with fail
        exact ⟨⟨k + 1, by omega, by rw [HX.out.2.2.2.2.2.2.2]; go_num, by go_num, Lib.hid ((HK.out.trans H6.out (fun _ _ h => h) (fun _ _ h => h)).trans (Kp.drew _ _) (fun _ _ h => h) (fun _ _ h => h))⟩, by simp [intOf]; omega⟩
    · obtain rfl : k = ys.length := by omega
      have hkd : decide (ys.length < ys.length) = false := by simp
      have hall : s.files.take ys.length = s.files := by
        have h1 := congrArg List.length HS.out.2.1
        rw [List.length_map] at h1
        rw [← HS.out.2.2, h1, List.take_length]
      rw [hall]
      rw [hall] at hul
      have hDr := HD.out.new NW.out
      have husd : ((s.cap : Int) - s.used == (s.cap : Int) - (usedF s.files : Nat)) = true := by unfold DS.used; simp
      have hle : decide (usedF s.files ≤ s.cap) = true := decide_eq_true hul
      have hsub : IntKind.i64.wrap ((s.cap : Int) - (usedF s.files : Nat)) = (s.cap : Int) - (usedF s.files : Nat) := by rw [IntKind.wrap_i64]; omega
      have HDr := Lib.hid hDr
      clear hall hDr
      go_wp2_with fail
      refine wp_region_line (fun w' => w'.cell? ⟨w1.heap.size, 0, none⟩ = some (.int .i64 (s.cap : Int)) ∧ w'.cell? ⟨w1.heap.size, 3, none⟩ = some (.bool false)) (pl := [(0, true), (2, true), (3, true), (4, true), (5, true), (1, false), (6, true), (7, true), (8, true), (9, true), (10, true), (11, true), (12, true), (13, true), (14, true), (16, true), (17, true), (15, false), (18, true), (19, true), (20, true), (21, true), (24, true), (25, true), (26, true), (22, false), (23, true), (27, true), (28, true), (29, true)]) hmo (by kernel_rfl) ⟨by simpa using s0, by simpa using s3⟩ ?_
      iterate 5 (refine line_get rfl rfl (fun K hK => ?_); apply Exists.intro; refine ⟨fun w hS => ?_, ?_⟩; (first | (have hS' := hS rfl; go_simp; with_reducible rfl) | (go_simp; with_reducible rfl)); (go_simp; refine hK _ ?_; clear hK K))
      (refine line_do rfl rfl (fun K hK => ?_); go_simp)
      refine (Free_calls wr.drew d s F (HDr.out.new (Kp.drew _ _))).mono ?_
      rintro e w8 ⟨rfl, n8⟩
      have n8' : New wr w8 := Kp.trans (Kp.drew _ _) n8 (fun _ _ h => h) (fun _ _ h => h)
      refine hK _ _ (fun _ => ⟨n8'.cell s0, n8'.cell s3⟩) ?_
      clear hK K
      have N0 := n8'.cell s0
      have N3 := n8'.cell s3
      have H8 := Lib.hid n8'
      clear n8 n8'
      iterate 11 (first | (refine line_get rfl rfl (fun K hK => ?_); apply Exists.intro; refine ⟨fun w hS => ?_, ?_⟩; (first | (have hS' := hS rfl; go_simp; with_reducible rfl) | (go_simp; with_reducible rfl)); (go_simp; refine hK _ ?_; clear hK K)) | (refine line_past rfl rfl (fun K hK => ?_); go_simp; refine hK _ ?_; clear hK K))
      (refine line_do rfl rfl (fun K hK => ?_); go_simp)
      refine (Down_calls w8 d s F (HDr.out.new H8.out)).mono ?_
      rintro e x5 ⟨rfl, rfl⟩
      rw [HDN.out]
      refine hK _ _ (fun _ => ⟨N0, N3⟩) ?_
      clear hK K
      iterate 7 (first | (refine line_get rfl rfl (fun K hK => ?_); apply Exists.intro; refine ⟨fun w hS => ?_, ?_⟩; (first | (have hS' := hS rfl; go_simp; with_reducible rfl) | (go_simp; with_reducible rfl)); (go_simp; refine hK _ ?_; clear hK K)) | (refine line_past rfl rfl (fun K hK => ?_); go_simp; refine hK _ ?_; clear hK K))
      (refine line_do rfl rfl (fun K hK => ?_); go_simp)
      refine (num_calls _ _).mono ?_
      rintro e x5 ⟨rfl, rfl⟩
      refine hK _ _ (fun _ => ⟨N0, N3⟩) ?_
      clear hK K
      iterate 4 (first | (refine line_get rfl rfl (fun K hK => ?_); apply Exists.intro; refine ⟨fun w hS => ?_, ?_⟩; (first | (have hS' := hS rfl; go_simp; with_reducible rfl) | (go_simp; with_reducible rfl)); (go_simp; refine hK _ ?_; clear hK K)) | (refine line_past rfl rfl (fun K hK => ?_); go_simp; refine hK _ ?_; clear hK K))
      refine line_nil ?_
      go_wp2_with fail
      go_ret
      exact ⟨rfl, NW.out.trans H8.out (fun _ _ h => h) (fun _ _ h => h)⟩

theorem shows_calls (w : World) (d : Nat) (s : DS) (F : List Nat) (A : Option Addr) (c : Nat) (ys : List FV) (hD : DiskAt w d s F) (hB : OwnN 66 w A c ys) (hP : (ys.map FV.f).Perm s.files) :
    Calls Try.prog 15 #[.pointer (some ⟨d, 0, none⟩), .slice A ys.length c] w fun e w' => e = .returned (.bool true) ∧ New w w' := by
  cases h : s.down with
  | true => exact shows_true w d s F A c ys hD hB hP h
  | false => exact shows_false w d s F A c ys hD hB hP h
end Go.Proofs.Ytekcoeonlfmebaa.Kit
