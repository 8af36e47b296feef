/- The law DiskWhole, walked. -/
import Derived.Test.YtekcoeonlfmebaaGoes
import Derived.Test.YtekcoeonlfmebaaWholeM
import Derived.Test.YtekcoeonlfmebaaOps
import Derived.Test.YtekcoeonlfmebaaSame
namespace Go.Proofs.Ytekcoeonlfmebaa.Kit
open Go Go.RowKit

set_option maxRecDepth 100000 in
set_option maxHeartbeats 8000000 in
theorem DiskWhole_calls (w : World) (cap : Int) (A : Option Addr) (n c : Nat) (ys : List OpV) (h1 : -9223372036854775808 ≤ cap) (h2 : cap ≤ 9223372036854775807) (hY : RdO w A ys) (hn : n = ys.length) :
    Calls Try.prog 4 #[.int .i64 cap, .slice A n c] w fun e w' => e = .returned (.bool true) ∧ New w w' := by
  subst hn
  have HI := Lib.hid hY
  clear hY
  go_enter Try.func4, Try.ntmps4
  go_wp2_with fail
  refine (begun_calls w cap h1 h2).mono ?_
  rintro e w1 ⟨d, F, cp, hcp, rfl, hD, hn1, hF⟩
  have H1 := Lib.hid (And.intro hD (And.intro hn1 hF))
  clear hD hn1 hF
  go_wp2_with fail
  refine (first_calls w1).mono ?_
  rintro e w2 ⟨rfl, n2⟩
  have H2 := Lib.hid (And.intro (H1.out.1.new n2) (H1.out.2.1.trans n2 (fun _ _ h => h) (fun _ _ h => h)))
  clear n2
  go_wp2_with fail
  go_loopw [7] (fun i wr => ∃ (k : Nat) (s : DS) (G : List Nat), k ≤ ys.length ∧ i = .int .i64 (k : Int) ∧ Hid (DiskAt wr d s G ∧ s.Few ∧ New w wr ∧ ∀ j ∈ G, w.heap.size ≤ j)) (fun i _ => ys.length - (intOf i).toNat)
  case atStart => exact ⟨0, DS.new cp, F, Nat.zero_le _, rfl, Lib.hid ⟨H2.out.1, fun f hf => by simp [DS.new] at hf, H2.out.2, H1.out.2.2⟩⟩
  case round =>
    obtain ⟨k, s, G, hk, rfl, HK⟩ := hrel
    by_cases hgo : k < ys.length ∧ k < 400
    · obtain ⟨hlt, h400⟩ := hgo
      obtain ⟨y, hy⟩ : ∃ y, ys[k]? = some y := ⟨_, List.getElem?_eq_getElem hlt⟩
      obtain ⟨b, off, rfl, o0, o1, o2, o3, o4, o5, o6, o7, o8, o9, o10, o11⟩ := (HI.out.new HK.out.2.2.1).at_ hy
      have hyo := (HI.out.new HK.out.2.2.1).2 y (List.mem_of_getElem? hy)
      have hki : (k : Int) < (ys.length : Int) := by omega
      have hk0 : (0 : Int) ≤ k := by omega
      have hk4 : (k : Int) < 400 := by omega
      have hkd1 : decide (k < ys.length) = true := decide_eq_true hlt
      have hkd4 : decide (k < 400) = true := decide_eq_true h400
      go_wp2_with fail
      obtain ⟨W1, hW1⟩ : ∃ W, wr.alloc (.cells #[.int .i64 y.disk, .int .i64 y.kind, .string (bstr y.name), .string (bstr y.to), .slice y.bA y.body.length y.bc, .int .i64 y.at_, .int .i64 y.n, .slice y.kA y.keep.length y.kc, .int .i64 y.cap, .slice y.fA y.fn y.fc, .int .i64 y.fuse, .bool y.down] 34) = W := ⟨_, rfl⟩
      rw [hW1]
      have nY : New wr W1 := hW1 ▸ Kp.alloc _ _ _
      have bY : W1.heap[wr.heap.size]? = some (.cells #[.int .i64 y.disk, .int .i64 y.kind, .string (bstr y.name), .string (bstr y.to), .slice y.bA y.body.length y.bc, .int .i64 y.at_, .int .i64 y.n, .slice y.kA y.keep.length y.kc, .int .i64 y.cap, .slice y.fA y.fn y.fc, .int .i64 y.fuse, .bool y.down] 34 (0, 0)) := hW1 ▸ heap_alloc_new wr _
      have HY := Lib.hid (And.intro nY bY)
      have HO := Lib.hid hyo
      clear o0 o1 o2 o3 o4 o5 o6 o7 o8 o9 o10 o11 nY bY hW1 hyo hy
      refine (isAct_calls _ _).mono ?_
      rintro e x ⟨rfl, rfl⟩
      by_cases hact : isAct y.kind = true
      · rw [hact]
        go_wp2_with fail
        refine (State_calls W1 d s G (HK.out.1.new HY.out.1)).mono ?_
        rintro e w2 ⟨A1, c1, zs, rfl, ho1, hz1, hf1, n2⟩
        have b2 := heap_kp HY.out.2 n2 id
        have hzl : zs.length ≤ 64 := by have := congrArg List.length hz1; rw [List.length_map] at this; have := HK.out.1.ok.few; omega
        have H2 := Lib.hid (And.intro ho1 (And.intro hz1 (And.intro hf1 (And.intro n2 b2))))
        clear ho1 hz1 hf1 n2 b2
        have nS : New w2 (w2.alloc (.cells #[.int .i64 (s.cap : Int), .slice A1 zs.length c1, .int .i64 s.fuse, .bool s.down] 32)) := Kp.alloc _ _ _
        have b3 := heap_kp H2.out.2.2.2.2 nS id
        have s3 : (w2.alloc (.cells #[.int .i64 (s.cap : Int), .slice A1 zs.length c1, .int .i64 s.fuse, .bool s.down] 32)).heap[w2.heap.size]? = some (.cells #[.int .i64 (s.cap : Int), .slice A1 zs.length c1, .int .i64 s.fuse, .bool s.down] 32 (0, 0)) := heap_alloc_new w2 _
        have p0 : (w2.alloc (.cells #[.int .i64 (s.cap : Int), .slice A1 zs.length c1, .int .i64 s.fuse, .bool s.down] 32)).cell? ⟨wr.heap.size, 0, none⟩ = some (.int .i64 y.disk) := (cell_of_block b3).trans rfl
        have p1 : (w2.alloc (.cells #[.int .i64 (s.cap : Int), .slice A1 zs.length c1, .int .i64 s.fuse, .bool s.down] 32)).cell? ⟨wr.heap.size, 1, none⟩ = some (.int .i64 y.kind) := (cell_of_block b3).trans rfl
        have p2 : (w2.alloc (.cells #[.int .i64 (s.cap : Int), .slice A1 zs.length c1, .int .i64 s.fuse, .bool s.down] 32)).cell? ⟨wr.heap.size, 2, none⟩ = some (.string (bstr y.name)) := (cell_of_block b3).trans rfl
        have p3 : (w2.alloc (.cells #[.int .i64 (s.cap : Int), .slice A1 zs.length c1, .int .i64 s.fuse, .bool s.down] 32)).cell? ⟨wr.heap.size, 3, none⟩ = some (.string (bstr y.to)) := (cell_of_block b3).trans rfl
        have p4 : (w2.alloc (.cells #[.int .i64 (s.cap : Int), .slice A1 zs.length c1, .int .i64 s.fuse, .bool s.down] 32)).cell? ⟨wr.heap.size, 4, none⟩ = some (.slice y.bA y.body.length y.bc) := (cell_of_block b3).trans rfl
        have p5 : (w2.alloc (.cells #[.int .i64 (s.cap : Int), .slice A1 zs.length c1, .int .i64 s.fuse, .bool s.down] 32)).cell? ⟨wr.heap.size, 5, none⟩ = some (.int .i64 y.at_) := (cell_of_block b3).trans rfl
        have p6 : (w2.alloc (.cells #[.int .i64 (s.cap : Int), .slice A1 zs.length c1, .int .i64 s.fuse, .bool s.down] 32)).cell? ⟨wr.heap.size, 6, none⟩ = some (.int .i64 y.n) := (cell_of_block b3).trans rfl
        have p7 : (w2.alloc (.cells #[.int .i64 (s.cap : Int), .slice A1 zs.length c1, .int .i64 s.fuse, .bool s.down] 32)).cell? ⟨wr.heap.size, 7, none⟩ = some (.slice y.kA y.keep.length y.kc) := (cell_of_block b3).trans rfl
        have p8 : (w2.alloc (.cells #[.int .i64 (s.cap : Int), .slice A1 zs.length c1, .int .i64 s.fuse, .bool s.down] 32)).cell? ⟨wr.heap.size, 8, none⟩ = some (.int .i64 y.cap) := (cell_of_block b3).trans rfl
        have p9 : (w2.alloc (.cells #[.int .i64 (s.cap : Int), .slice A1 zs.length c1, .int .i64 s.fuse, .bool s.down] 32)).cell? ⟨wr.heap.size, 9, none⟩ = some (.slice y.fA y.fn y.fc) := (cell_of_block b3).trans rfl
        have p10 : (w2.alloc (.cells #[.int .i64 (s.cap : Int), .slice A1 zs.length c1, .int .i64 s.fuse, .bool s.down] 32)).cell? ⟨wr.heap.size, 10, none⟩ = some (.int .i64 y.fuse) := (cell_of_block b3).trans rfl
        have p11 : (w2.alloc (.cells #[.int .i64 (s.cap : Int), .slice A1 zs.length c1, .int .i64 s.fuse, .bool s.down] 32)).cell? ⟨wr.heap.size, 11, none⟩ = some (.bool y.down) := (cell_of_block b3).trans rfl
        have H3 := Lib.hid (And.intro nS (And.intro b3 s3))
        clear nS b3 s3
        go_wp2_with fail
        clear p0 p1 p2 p3 p4 p5 p6 p7 p8 p9 p10 p11
        obtain ⟨W3, hW3⟩ : ∃ W, w2.alloc (.cells #[.int .i64 (s.cap : Int), .slice A1 zs.length c1, .int .i64 s.fuse, .bool s.down] 32) = W := ⟨_, rfl⟩
        rw [hW3] at H3 ⊢
        have n13 : New wr W3 := (Kp.trans HY.out.1 H2.out.2.2.2.1 (fun _ _ h => h) (fun _ _ h => h)).trans H3.out.1 (fun _ _ h => h) (fun _ _ h => h)
        refine (acts_calls W3 d s G y (HK.out.1.new n13) (HO.out.new n13)).mono ?_
        rintro e w4 ⟨rfl, G', q1, q2⟩
        have hm := act_made y s hact
        have hfw := act_few y HK.out.2.1
        obtain ⟨rv, s2, hr⟩ : ∃ rv s2, y.act s = (rv, s2) := ⟨_, _, rfl⟩
        rw [hr] at q1 hm hfw ⊢
        replace q1 : DiskAt w4 d s2 G' := q1
        replace hfw : s2.Few := hfw
        have zr := HY.out.1.size
        have z2 := H2.out.2.2.2.1.size
        have zW : wr.heap.size < W1.heap.size := (Array.getElem?_eq_some_iff.1 HY.out.2).1
        have b4 := heap_kp H3.out.2.1 q2.1 (fun h => by have := HK.out.1.lt _ h; omega)
        have t4 := heap_kp H3.out.2.2 q2.1 (fun h => by have := HK.out.1.lt _ h; omega)
        have H4 := Lib.hid (And.intro q1 (And.intro q2 (And.intro b4 (And.intro t4 (And.intro hfw (And.intro n13 hr))))))
        have HM := Lib.hid (And.intro hm hact)
        clear q1 q2 b4 t4 hfw n13 hr hm hact hW3
        go_wp2_with fail
        refine (State_calls w4 d s2 G' H4.out.1).mono ?_
        rintro e w5 ⟨A2, c2, zs2, rfl, ho2, hz2, hf2, n5⟩
        have hzl2 : zs2.length ≤ 64 := by have := congrArg List.length hz2; rw [List.length_map] at this; have := H4.out.1.ok.few; omega
        generalize hca : (s2.cap : Int) = ca2
        generalize hfu : s2.fuse = fu2
        generalize hdn : s2.down = dn2
        have HG2 := Lib.hid (And.intro hca (And.intro hfu hdn))
        clear hca hfu hdn
        obtain ⟨W6, hW6⟩ : ∃ W, w5.alloc (.cells #[.int .i64 ca2, .slice A2 zs2.length c2, .int .i64 fu2, .bool dn2] 32) = W := ⟨_, rfl⟩
        have H5z := n5.size
        have n6 : New w5 W6 := hW6 ▸ Kp.alloc _ _ _
        have b6 := heap_kp (heap_kp H4.out.2.2.1 n5 id) n6 id
        have t6 := heap_kp (heap_kp H4.out.2.2.2.1 n5 id) n6 id
        have u6 : W6.heap[w5.heap.size]? = some (.cells #[.int .i64 ca2, .slice A2 zs2.length c2, .int .i64 fu2, .bool dn2] 32 (0, 0)) := hW6 ▸ heap_alloc_new w5 _
        have k6 : W6.cell? ⟨wr.heap.size, 1, none⟩ = some (.int .i64 y.kind) := (cell_of_block b6).trans rfl
        have a0 : W6.cell? ⟨w2.heap.size, 0, none⟩ = some (.int .i64 (s.cap : Int)) := (cell_of_block t6).trans rfl
        have a1 : W6.cell? ⟨w2.heap.size, 1, none⟩ = some (.slice A1 zs.length c1) := (cell_of_block t6).trans rfl
        have a2 : W6.cell? ⟨w2.heap.size, 2, none⟩ = some (.int .i64 s.fuse) := (cell_of_block t6).trans rfl
        have a3 : W6.cell? ⟨w2.heap.size, 3, none⟩ = some (.bool s.down) := (cell_of_block t6).trans rfl
        have d0 : W6.cell? ⟨w5.heap.size, 0, none⟩ = some (.int .i64 ca2) := (cell_of_block u6).trans rfl
        have d1 : W6.cell? ⟨w5.heap.size, 1, none⟩ = some (.slice A2 zs2.length c2) := (cell_of_block u6).trans rfl
        have d2 : W6.cell? ⟨w5.heap.size, 2, none⟩ = some (.int .i64 fu2) := (cell_of_block u6).trans rfl
        have d3 : W6.cell? ⟨w5.heap.size, 3, none⟩ = some (.bool dn2) := (cell_of_block u6).trans rfl
        have n46 := Kp.trans n5 n6 (fun _ _ h => h) (fun _ _ h => h)
        have r1 : RdF W6 A1 zs := ((H2.out.1.rd.new H3.out.1).kp H4.out.2.1.1 (fun j hj hm => by
          have h1 := HK.out.1.lt _ hm
          have h2 := H2.out.2.2.1 j (by rcases hj with hj | ⟨z, hz, hj⟩; exact List.mem_append_left _ (mem_bks.2 hj); exact List.mem_append_right _ (mem_fblks.2 ⟨z, hz, hj⟩))
          omega)).new n46
        have r2 : RdF W6 A2 zs2 := ho2.rd.new n6
        have H6 := Lib.hid (And.intro r1 (And.intro r2 (And.intro hz2 (And.intro n46 (And.intro b6 (And.intro t6 u6))))))
        clear r1 r2 hz2 n46 b6 t6 u6 ho2 hf2 n5 n6
        subst hW6
        rcases HM.out.1 with ⟨e0, hc⟩ | hc
        · replace e0 : rv = 0 := e0
          rcases hc with hk14 | ⟨hk12, hsd⟩ | ⟨hk37, hsd, hf0, hf1⟩
          · cases hsd : s.down with
            | true =>
              go_wp2_with fail
              exact ⟨⟨k + 1, s2, G', by omega, by go_num, Lib.hid ⟨H4.out.1.new H6.out.2.2.2.1, H4.out.2.2.2.2.1, (New.mv (HK.out.2.2.1.trans H4.out.2.2.2.2.2.1 (fun _ _ h => h) (fun _ _ h => h)) HK.out.2.2.2 H4.out.2.1).1.trans H6.out.2.2.2.1 (fun _ _ h => h) (fun _ _ h => h), (New.mv (HK.out.2.2.1.trans H4.out.2.2.2.2.2.1 (fun _ _ h => h) (fun _ _ h => h)) HK.out.2.2.2 H4.out.2.1).2⟩⟩, by simp [intOf]; omega⟩
            | false =>
              go_wp2_with fail
              exact ⟨⟨k + 1, s2, G', by omega, by go_num, Lib.hid ⟨H4.out.1.new H6.out.2.2.2.1, H4.out.2.2.2.2.1, (New.mv (HK.out.2.2.1.trans H4.out.2.2.2.2.2.1 (fun _ _ h => h) (fun _ _ h => h)) HK.out.2.2.2 H4.out.2.1).1.trans H6.out.2.2.2.1 (fun _ _ h => h) (fun _ _ h => h), (New.mv (HK.out.2.2.1.trans H4.out.2.2.2.2.2.1 (fun _ _ h => h) (fun _ _ h => h)) HK.out.2.2.2 H4.out.2.1).2⟩⟩, by simp [intOf]; omega⟩
          · go_wp2_with fail
            exact ⟨⟨k + 1, s2, G', by omega, by go_num, Lib.hid ⟨H4.out.1.new H6.out.2.2.2.1, H4.out.2.2.2.2.1, (New.mv (HK.out.2.2.1.trans H4.out.2.2.2.2.2.1 (fun _ _ h => h) (fun _ _ h => h)) HK.out.2.2.2 H4.out.2.1).1.trans H6.out.2.2.2.1 (fun _ _ h => h) (fun _ _ h => h), (New.mv (HK.out.2.2.1.trans H4.out.2.2.2.2.2.1 (fun _ _ h => h) (fun _ _ h => h)) HK.out.2.2.2 H4.out.2.1).2⟩⟩, by simp [intOf]; omega⟩
          · replace hf1 : s2.fuse = if 0 < s.fuse then s.fuse - 1 else s.fuse := hf1
            have hfo := HK.out.1.ok.fuse
            have hk3 : (3 : Int) ≤ y.kind := hk37.1
            have hk7 : y.kind ≤ 7 := hk37.2
            have hk14 : ¬ y.kind = 14 := by omega
            by_cases hfp : 0 < s.fuse
            · rw [if_pos hfp] at hf1
              have hwf : IntKind.i64.wrap (s.fuse - 1) = s.fuse - 1 := by rw [IntKind.wrap_i64]; omega
              have hfm : ¬ s.fuse = -1 := by omega
              have hq1 : (fu2 != s.fuse - 1) = false := by rw [← HG2.out.2.1, hf1]; simp
              clear hk37 hf1
              go_wp2_with fail
              exact ⟨⟨k + 1, s2, G', by omega, by go_num, Lib.hid ⟨H4.out.1.new H6.out.2.2.2.1, H4.out.2.2.2.2.1, (New.mv (HK.out.2.2.1.trans H4.out.2.2.2.2.2.1 (fun _ _ h => h) (fun _ _ h => h)) HK.out.2.2.2 H4.out.2.1).1.trans H6.out.2.2.2.1 (fun _ _ h => h) (fun _ _ h => h), (New.mv (HK.out.2.2.1.trans H4.out.2.2.2.2.2.1 (fun _ _ h => h) (fun _ _ h => h)) HK.out.2.2.2 H4.out.2.1).2⟩⟩, by simp [intOf]; omega⟩
            · rw [if_neg hfp] at hf1
              have hfm : s.fuse = -1 := by omega
              have hq1 : (fu2 != -1) = false := by rw [← HG2.out.2.1, hf1, hfm]; rfl
              clear hk37 hf0 hfp hfo hf1
              go_wp2_with fail
              exact ⟨⟨k + 1, s2, G', by omega, by go_num, Lib.hid ⟨H4.out.1.new H6.out.2.2.2.1, H4.out.2.2.2.2.1, (New.mv (HK.out.2.2.1.trans H4.out.2.2.2.2.2.1 (fun _ _ h => h) (fun _ _ h => h)) HK.out.2.2.2 H4.out.2.1).1.trans H6.out.2.2.2.1 (fun _ _ h => h) (fun _ _ h => h), (New.mv (HK.out.2.2.1.trans H4.out.2.2.2.2.2.1 (fun _ _ h => h) (fun _ _ h => h)) HK.out.2.2.2 H4.out.2.1).2⟩⟩, by simp [intOf]; omega⟩
        · rcases hc with ⟨e0, e2, e3, e4, e5⟩ | ⟨e1, e2, e3, e4, e5⟩
          · replace e0 : ¬ rv = 0 := e0
            replace e2 : s2 = s := e2
            have hs : ca2 = (s.cap : Int) ∧ fu2 = s.fuse ∧ dn2 = s.down := by
              have h := HG2.out
              rw [e2] at h
              exact ⟨h.1.symm, h.2.1.symm, h.2.2.symm⟩
            have hz : zs.map FV.f = zs2.map FV.f := by rw [H2.out.2.1, H6.out.2.2.1, e2]
            have hzl3 : zs2.length = zs.length := by have := congrArg List.length hz; simpa using this.symm
            have hrv0 : ¬ ((rv : Nat) : Int) = 0 := by omega
            by_cases hsd : s.down = true
            · have e5' : y.kind ≠ 12 → rv = 34 := e5 hsd
              have HE := Lib.hid (And.intro e2 (And.intro hs (And.intro hz (And.intro e4 (And.intro e5' hzl3)))))
              have hk14 : ¬ y.kind = 14 := e3
              clear e2 hs hz e4 e5 e5' hzl3
              by_cases h34 : rv = 34
              · subst h34
                have u0 := HE.out.2.1.1
                have u1 := HE.out.2.1.2.1
                have u2 := HE.out.2.1.2.2.trans hsd
                subst u0 u1 u2
                rw [hsd] at a3 H6 ⊢
                have G6 := H6
                clear hsd
                go_wp2_with fail
                refine (Same_calls _ (s.cap : Int) s.fuse true A1 A2 zs.length zs2.length c1 c2 zs zs2 G6.out.1 G6.out.2.1 HE.out.2.2.1 rfl HE.out.2.2.2.2.2 (by omega)).mono ?_
                rintro e w7 ⟨rfl, n7⟩
                have b7 := heap_kp H6.out.2.2.2.2.1 n7 id
                have t7 := heap_kp H6.out.2.2.2.2.2.1 n7 id
                have u7 := heap_kp H6.out.2.2.2.2.2.2 n7 id
                have k7 : w7.cell? ⟨wr.heap.size, 1, none⟩ = some (.int .i64 y.kind) := (cell_of_block b7).trans rfl
                have A0' : w7.cell? ⟨w2.heap.size, 0, none⟩ = some (.int .i64 (s.cap : Int)) := (cell_of_block t7).trans rfl
                have A1' : w7.cell? ⟨w2.heap.size, 1, none⟩ = some (.slice A1 zs.length c1) := (cell_of_block t7).trans rfl
                have A2' : w7.cell? ⟨w2.heap.size, 2, none⟩ = some (.int .i64 s.fuse) := (cell_of_block t7).trans rfl
                have A3' : w7.cell? ⟨w2.heap.size, 3, none⟩ = some (.bool true) := (cell_of_block t7).trans rfl
                have D0' : w7.cell? ⟨w5.heap.size, 0, none⟩ = some (.int .i64 (s.cap : Int)) := (cell_of_block u7).trans rfl
                have D1' : w7.cell? ⟨w5.heap.size, 1, none⟩ = some (.slice A2 zs2.length c2) := (cell_of_block u7).trans rfl
                have D2' : w7.cell? ⟨w5.heap.size, 2, none⟩ = some (.int .i64 s.fuse) := (cell_of_block u7).trans rfl
                have D3' : w7.cell? ⟨w5.heap.size, 3, none⟩ = some (.bool true) := (cell_of_block u7).trans rfl
                have l1 : wr.heap.size < w7.heap.size := (Array.getElem?_eq_some_iff.1 b7).1
                have l2 : w2.heap.size < w7.heap.size := (Array.getElem?_eq_some_iff.1 t7).1
                have l3 : w5.heap.size < w7.heap.size := (Array.getElem?_eq_some_iff.1 u7).1
                have H7 := Lib.hid (And.intro n7 (H6.out.2.2.2.1.trans n7 (fun _ _ h => h) (fun _ _ h => h)))
                clear b7 t7 u7 n7 k6 a0 a1 a2 a3 d0 d1 d2 d3
                go_wp2_with fail
                refine (Same_calls _ (s.cap : Int) s.fuse true A1 A2 zs.length zs2.length c1 c2 zs zs2 ((H6.out.1.new H7.out.1).new (Kp.alloc _ _ _)) ((H6.out.2.1.new H7.out.1).new (Kp.alloc _ _ _)) HE.out.2.2.1 rfl HE.out.2.2.2.2.2 (by omega)).mono ?_
                rintro e w9 ⟨rfl, n9⟩
                have H9 := Lib.hid ((H7.out.2.trans (Kp.alloc (fun _ => False) w7 (.cells #[.int .i64 (s.cap : Int), .slice A1 zs.length c1, .int .i64 (-1), .bool true] 32)) (fun _ _ h => h) (fun _ _ h => h)).trans n9 (fun _ _ h => h) (fun _ _ h => h) : New w4 w9)
                clear n9 A0' A1' A2' A3' D0' D1' D2' D3' k7
                go_wp2_with fail
                exact ⟨⟨k + 1, s2, G', by omega, by go_num, Lib.hid ⟨H4.out.1.new H9.out, H4.out.2.2.2.2.1, (New.mv (HK.out.2.2.1.trans H4.out.2.2.2.2.2.1 (fun _ _ h => h) (fun _ _ h => h)) HK.out.2.2.2 H4.out.2.1).1.trans H9.out (fun _ _ h => h) (fun _ _ h => h), (New.mv (HK.out.2.2.1.trans H4.out.2.2.2.2.2.1 (fun _ _ h => h) (fun _ _ h => h)) HK.out.2.2.2 H4.out.2.1).2⟩⟩, by simp [intOf]; omega⟩
              · have hk12 : y.kind = 12 := Classical.byContradiction fun h => h34 (HE.out.2.2.2.2.1 h)
                have h34i : ¬ ((rv : Nat) : Int) = 34 := by omega
                have u0 := HE.out.2.1.1
                have u1 := HE.out.2.1.2.1
                have u2 := HE.out.2.1.2.2.trans hsd
                subst u0 u1 u2
                rw [hsd] at a3 H6 ⊢
                have G6 := H6
                clear hsd
                go_wp2_with fail
                refine (Same_calls _ (s.cap : Int) s.fuse true A1 A2 zs.length zs2.length c1 c2 zs zs2 G6.out.1 G6.out.2.1 HE.out.2.2.1 rfl HE.out.2.2.2.2.2 (by omega)).mono ?_
                rintro e w7 ⟨rfl, n7⟩
                have b7 := heap_kp H6.out.2.2.2.2.1 n7 id
                have t7 := heap_kp H6.out.2.2.2.2.2.1 n7 id
                have u7 := heap_kp H6.out.2.2.2.2.2.2 n7 id
                have k7 : w7.cell? ⟨wr.heap.size, 1, none⟩ = some (.int .i64 y.kind) := (cell_of_block b7).trans rfl
                have A0' : w7.cell? ⟨w2.heap.size, 0, none⟩ = some (.int .i64 (s.cap : Int)) := (cell_of_block t7).trans rfl
                have A1' : w7.cell? ⟨w2.heap.size, 1, none⟩ = some (.slice A1 zs.length c1) := (cell_of_block t7).trans rfl
                have A2' : w7.cell? ⟨w2.heap.size, 2, none⟩ = some (.int .i64 s.fuse) := (cell_of_block t7).trans rfl
                have A3' : w7.cell? ⟨w2.heap.size, 3, none⟩ = some (.bool true) := (cell_of_block t7).trans rfl
                have D0' : w7.cell? ⟨w5.heap.size, 0, none⟩ = some (.int .i64 (s.cap : Int)) := (cell_of_block u7).trans rfl
                have D1' : w7.cell? ⟨w5.heap.size, 1, none⟩ = some (.slice A2 zs2.length c2) := (cell_of_block u7).trans rfl
                have D2' : w7.cell? ⟨w5.heap.size, 2, none⟩ = some (.int .i64 s.fuse) := (cell_of_block u7).trans rfl
                have D3' : w7.cell? ⟨w5.heap.size, 3, none⟩ = some (.bool true) := (cell_of_block u7).trans rfl
                have l1 : wr.heap.size < w7.heap.size := (Array.getElem?_eq_some_iff.1 b7).1
                have l2 : w2.heap.size < w7.heap.size := (Array.getElem?_eq_some_iff.1 t7).1
                have l3 : w5.heap.size < w7.heap.size := (Array.getElem?_eq_some_iff.1 u7).1
                have H7 := Lib.hid (And.intro n7 (H6.out.2.2.2.1.trans n7 (fun _ _ h => h) (fun _ _ h => h)))
                clear b7 t7 u7 n7 k6 a0 a1 a2 a3 d0 d1 d2 d3
                go_wp2_with fail
                refine (Same_calls _ (s.cap : Int) s.fuse true A1 A2 zs.length zs2.length c1 c2 zs zs2 ((H6.out.1.new H7.out.1).new (Kp.alloc _ _ _)) ((H6.out.2.1.new H7.out.1).new (Kp.alloc _ _ _)) HE.out.2.2.1 rfl HE.out.2.2.2.2.2 (by omega)).mono ?_
                rintro e w9 ⟨rfl, n9⟩
                have H9 := Lib.hid ((H7.out.2.trans (Kp.alloc (fun _ => False) w7 (.cells #[.int .i64 (s.cap : Int), .slice A1 zs.length c1, .int .i64 (-1), .bool true] 32)) (fun _ _ h => h) (fun _ _ h => h)).trans n9 (fun _ _ h => h) (fun _ _ h => h) : New w4 w9)
                clear n9 A0' A1' A2' A3' D0' D1' D2' D3' k7
                go_wp2_with fail
                exact ⟨⟨k + 1, s2, G', by omega, by go_num, Lib.hid ⟨H4.out.1.new H9.out, H4.out.2.2.2.2.1, (New.mv (HK.out.2.2.1.trans H4.out.2.2.2.2.2.1 (fun _ _ h => h) (fun _ _ h => h)) HK.out.2.2.2 H4.out.2.1).1.trans H9.out (fun _ _ h => h) (fun _ _ h => h), (New.mv (HK.out.2.2.1.trans H4.out.2.2.2.2.2.1 (fun _ _ h => h) (fun _ _ h => h)) HK.out.2.2.2 H4.out.2.1).2⟩⟩, by simp [intOf]; omega⟩
            · have hsd' : s.down = false := by simpa using hsd
              have e4' : rv ≠ 34 := e4 hsd'
              have h34i : ¬ ((rv : Nat) : Int) = 34 := by omega
              have HE := Lib.hid (And.intro e2 (And.intro hs (And.intro hz (And.intro e4 (And.intro trivial hzl3)))))
              have hk14 : ¬ y.kind = 14 := e3
              clear e2 hs hz e4 e5 e4' hzl3 hsd
              have u0 := HE.out.2.1.1
              have u1 := HE.out.2.1.2.1
              have u2 := HE.out.2.1.2.2.trans hsd'
              subst u0 u1 u2
              rw [hsd'] at a3 H6 ⊢
              clear hsd'
              have l1 : wr.heap.size < w5.heap.size := by have h := H6.out.2.2.2.2.1; have h2 := H4.out.2.2.1; have := (Array.getElem?_eq_some_iff.1 h2).1; have := H5z; omega
              have l2 : w2.heap.size < w5.heap.size := by have h2 := H4.out.2.2.2.1; have := (Array.getElem?_eq_some_iff.1 h2).1; have := H5z; omega
              go_wp2_with fail
              refine (Same_calls _ (s.cap : Int) s.fuse false A1 A2 zs.length zs2.length c1 c2 zs zs2 (H6.out.1.new (Kp.alloc _ _ _)) (H6.out.2.1.new (Kp.alloc _ _ _)) HE.out.2.2.1 rfl HE.out.2.2.2.2.2 (by omega)).mono ?_
              rintro e w9 ⟨rfl, n9⟩
              have H9 := Lib.hid ((H6.out.2.2.2.1.trans (Kp.alloc (fun _ => False) _ (.cells #[.int .i64 (s.cap : Int), .slice A1 zs.length c1, .int .i64 (-1), .bool true] 32)) (fun _ _ h => h) (fun _ _ h => h)).trans n9 (fun _ _ h => h) (fun _ _ h => h) : New w4 w9)
              clear n9 a0 a1 a2 a3 d0 d1 d2 d3 k6
              go_wp2_with fail
              exact ⟨⟨k + 1, s2, G', by omega, by go_num, Lib.hid ⟨H4.out.1.new H9.out, H4.out.2.2.2.2.1, (New.mv (HK.out.2.2.1.trans H4.out.2.2.2.2.2.1 (fun _ _ h => h) (fun _ _ h => h)) HK.out.2.2.2 H4.out.2.1).1.trans H9.out (fun _ _ h => h) (fun _ _ h => h), (New.mv (HK.out.2.2.1.trans H4.out.2.2.2.2.2.1 (fun _ _ h => h) (fun _ _ h => h)) HK.out.2.2.2 H4.out.2.1).2⟩⟩, by simp [intOf]; omega⟩
          · replace e1 : rv = 34 := e1
            replace e5 : s2 = { s with down := true, fuse := -1 } := e5
            subst e1
            have hs : ca2 = (s.cap : Int) ∧ fu2 = -1 ∧ dn2 = true := by
              have h := HG2.out
              rw [e5] at h
              exact ⟨h.1.symm, h.2.1.symm, h.2.2.symm⟩
            have hz : zs.map FV.f = zs2.map FV.f := by rw [H2.out.2.1, H6.out.2.2.1, e5]
            have hzl3 : zs2.length = zs.length := by have := congrArg List.length hz; simpa using this.symm
            have HE := Lib.hid (And.intro e5 (And.intro hs (And.intro hz hzl3)))
            have hk14 : ¬ y.kind = 14 := e4
            clear e5 hs hz hzl3 e4
            have u0 := HE.out.2.1.1
            have u1 := HE.out.2.1.2.1
            have u2 := HE.out.2.1.2.2
            subst u0 u1 u2
            rw [e2, e3] at H6 ⊢
            rw [e2] at a3
            rw [e3] at a2
            clear e2 e3
            have l1 : wr.heap.size < w5.heap.size := by have h := H6.out.2.2.2.2.1; have h2 := H4.out.2.2.1; have := (Array.getElem?_eq_some_iff.1 h2).1; have := H5z; omega
            have l2 : w2.heap.size < w5.heap.size := by have h2 := H4.out.2.2.2.1; have := (Array.getElem?_eq_some_iff.1 h2).1; have := H5z; omega
            go_wp2_with fail
            refine (Same_calls _ (s.cap : Int) (-1) true A1 A2 zs.length zs2.length c1 c2 zs zs2 (H6.out.1.new (Kp.alloc _ _ _)) (H6.out.2.1.new (Kp.alloc _ _ _)) HE.out.2.2.1 rfl HE.out.2.2.2 (by omega)).mono ?_
            rintro e w9 ⟨rfl, n9⟩
            have H9 := Lib.hid ((H6.out.2.2.2.1.trans (Kp.alloc (fun _ => False) _ (.cells #[.int .i64 (s.cap : Int), .slice A1 zs.length c1, .int .i64 (-1), .bool true] 32)) (fun _ _ h => h) (fun _ _ h => h)).trans n9 (fun _ _ h => h) (fun _ _ h => h) : New w4 w9)
            clear n9 a0 a1 a2 a3 d0 d1 d2 d3 k6
            go_wp2_with fail
            exact ⟨⟨k + 1, s2, G', by omega, by go_num, Lib.hid ⟨H4.out.1.new H9.out, H4.out.2.2.2.2.1, (New.mv (HK.out.2.2.1.trans H4.out.2.2.2.2.2.1 (fun _ _ h => h) (fun _ _ h => h)) HK.out.2.2.2 H4.out.2.1).1.trans H9.out (fun _ _ h => h) (fun _ _ h => h), (New.mv (HK.out.2.2.1.trans H4.out.2.2.2.2.2.1 (fun _ _ h => h) (fun _ _ h => h)) HK.out.2.2.2 H4.out.2.1).2⟩⟩, by simp [intOf]; omega⟩
      · have hact' : isAct y.kind = false := by simpa using hact
        rw [hact']
        clear hact hact'
        go_wp2_with fail
        exact ⟨⟨k + 1, s, G, by omega, by go_num, Lib.hid ⟨HK.out.1.new HY.out.1, HK.out.2.1, HK.out.2.2.1.trans HY.out.1 (fun _ _ h => h) (fun _ _ h => h), HK.out.2.2.2⟩⟩, by simp [intOf]; omega⟩
    · by_cases hk1 : k < ys.length
      · have hkd1 : decide (k < ys.length) = true := decide_eq_true hk1
        have hk4 : decide (k < 400) = false := decide_eq_false fun h => hgo ⟨hk1, h⟩
        go_wp2_with fail
        refine (goes_calls wr d s (s.crash []) G HK.out.1 rfl (DS.crash_ok HK.out.1.ok []) ⟨rfl, rfl⟩ (few_none (crash_few HK.out.2.1 []) (by decide)) (few_none (crash_few HK.out.2.1 []) (by decide)) (few_length (crash_few HK.out.2.1 []) (DS.crash_ok HK.out.1.ok []))).mono ?_
        rintro e w9 ⟨rfl, kz⟩
        have HZ := Lib.hid kz
        clear kz
        go_wp2_with fail
        go_ret
        exact ⟨rfl, HK.out.2.2.1.trans HZ.out (fun _ _ h => h) (fun i hi hm => by have := HK.out.2.2.2 i hm; omega)⟩
      · have hkd1 : decide (k < ys.length) = false := decide_eq_false hk1
        go_wp2_with fail
        refine (goes_calls wr d s (s.crash []) G HK.out.1 rfl (DS.crash_ok HK.out.1.ok []) ⟨rfl, rfl⟩ (few_none (crash_few HK.out.2.1 []) (by decide)) (few_none (crash_few HK.out.2.1 []) (by decide)) (few_length (crash_few HK.out.2.1 []) (DS.crash_ok HK.out.1.ok []))).mono ?_
        rintro e w9 ⟨rfl, kz⟩
        have HZ := Lib.hid kz
        clear kz
        go_wp2_with fail
        go_ret
        exact ⟨rfl, HK.out.2.2.1.trans HZ.out (fun _ _ h => h) (fun i hi hm => by have := HK.out.2.2.2 i hm; omega)⟩
end Go.Proofs.Ytekcoeonlfmebaa.Kit
