/- The law DiskKeeps, walked. -/
import Derived.Test.YtekcoeonlfmebaaFirst
import Derived.Test.YtekcoeonlfmebaaOps
import Derived.Test.YtekcoeonlfmebaaStays
import Derived.Test.YtekcoeonlfmebaaShows
namespace Go.Proofs.Ytekcoeonlfmebaa.Kit
open Go Go.RowKit

theorem act_room {s : DS} (o : OpV) (h4 : o.kind = 4) (h0 : (o.act s).1 = 0) : s.used + o.body.length ≤ s.cap := by
  unfold OpV.act at h0
  rw [if_neg (by omega), if_pos h4] at h0
  unfold DS.append at h0
  obtain ⟨he, _⟩ := change_ok h0
  split at he
  · rename_i h
    exact absurd he h
  · split at he
    · simp at he
    · omega

set_option maxRecDepth 100000 in
set_option maxHeartbeats 16000000 in
theorem DiskKeeps_calls (w : World) (cap : Int) (A : Option Addr) (n c : Nat) (ys : List OpV) (h1 : -9223372036854775808 ≤ cap) (h2 : cap ≤ 9223372036854775807) (hY : RdO w A ys) (hn : n = ys.length) :
    Calls Try.prog 3 #[.int .i64 cap, .slice A n c] w fun e w' => e = .returned (.bool true) ∧ New w w' := by
  subst hn
  have HI := Lib.hid hY
  clear hY
  go_enter Try.func3, Try.ntmps3
  go_wp2_with fail
  refine (begun_calls w cap h1 h2).mono ?_
  rintro e w1 ⟨d, F, cp, hcp, rfl, hD, hn1, hF⟩
  have H1 := Lib.hid (And.intro hD (And.intro hn1 hF))
  clear hD hn1 hF
  go_wp2_with fail
  refine (first_calls w1).mono ?_
  rintro e w2 ⟨rfl, n2⟩
  have H2 := Lib.hid (And.intro (H1.out.1.new n2) (H1.out.2.1.trans n2 (fun _ _ h => h) (fun _ _ h => h)))
  clear n2
  go_wp2_with fail
  go_loopw [7, 8] (fun bv i wr => ∃ (k : Nat) (s : DS) (G : List Nat) (Ab : Option Addr) (cb : Nat) (bs : List FV), k ≤ ys.length ∧ i = .int .i64 (k : Int) ∧ bv = .slice Ab bs.length cb ∧ Hid (DiskAt wr d s G ∧ New w wr ∧ (∀ j ∈ G, w.heap.size ≤ j) ∧ OwnN 66 wr Ab cb bs ∧ (bs.map FV.f).Perm s.files ∧ (∀ j ∈ nblks Ab bs, w.heap.size ≤ j) ∧ ∀ j ∈ G, j ∉ nblks Ab bs)) (fun _ i _ => ys.length - (intOf i).toNat)
  case atStart => exact ⟨0, DS.new cp, F, none, 0, [], Nat.zero_le _, rfl, rfl, Lib.hid ⟨H2.out.1, H2.out.2, H1.out.2.2, OwnN.nil _ _, List.Perm.refl _, fun j hj => by simp [nblks, bks, fblks] at hj, fun j _ hj => by simp [nblks, bks, fblks] at hj⟩⟩
  case round =>
    obtain ⟨k, s, G, Ab, cb, bs, hk, rfl, rfl, HK⟩ := hrel
    by_cases hgo : k < ys.length ∧ k < 400
    · obtain ⟨hlt, h400⟩ := hgo
      obtain ⟨y, hy⟩ : ∃ y, ys[k]? = some y := ⟨_, List.getElem?_eq_getElem hlt⟩
      obtain ⟨b, off, rfl, o0, o1, o2, o3, o4, o5, o6, o7, o8, o9, o10, o11⟩ := (HI.out.new HK.out.2.1).at_ hy
      have hyo := (HI.out.new HK.out.2.1).2 y (List.mem_of_getElem? hy)
      have hki : (k : Int) < (ys.length : Int) := by omega
      have hk0 : (0 : Int) ≤ k := by omega
      have hk4 : (k : Int) < 400 := by omega
      have hkd1 : decide (k < ys.length) = true := decide_eq_true hlt
      have hkd4 : decide (k < 400) = true := decide_eq_true h400
      have HO := Lib.hid hyo
      have HMEM := Lib.hid (List.mem_of_getElem? hy)
      clear hyo
      go_wp2_with fail
      obtain ⟨W1, hW1⟩ : ∃ W, wr.alloc (.cells #[.int .i64 y.disk, .int .i64 y.kind, .string (bstr y.name), .string (bstr y.to), .slice y.bA y.body.length y.bc, .int .i64 y.at_, .int .i64 y.n, .slice y.kA y.keep.length y.kc, .int .i64 y.cap, .slice y.fA y.fn y.fc, .int .i64 y.fuse, .bool y.down] 34) = W := ⟨_, rfl⟩
      rw [hW1]
      have nY : New wr W1 := hW1 ▸ Kp.alloc _ _ _
      have bY : W1.heap[wr.heap.size]? = some (.cells #[.int .i64 y.disk, .int .i64 y.kind, .string (bstr y.name), .string (bstr y.to), .slice y.bA y.body.length y.bc, .int .i64 y.at_, .int .i64 y.n, .slice y.kA y.keep.length y.kc, .int .i64 y.cap, .slice y.fA y.fn y.fc, .int .i64 y.fuse, .bool y.down] 34 (0, 0)) := hW1 ▸ heap_alloc_new wr _
      have HY := Lib.hid (And.intro nY bY)
      clear o0 o1 o2 o3 o4 o5 o6 o7 o8 o9 o10 o11 nY bY hW1 hy
      refine (isAct_calls _ _).mono ?_
      rintro e x ⟨rfl, rfl⟩
      by_cases hact : isAct y.kind = true
      · rw [hact]
        have HP := Lib.hid hact
        clear hact
        have p0 : W1.cell? ⟨wr.heap.size, 0, none⟩ = some (.int .i64 y.disk) := (cell_of_block HY.out.2).trans rfl
        have p1 : W1.cell? ⟨wr.heap.size, 1, none⟩ = some (.int .i64 y.kind) := (cell_of_block HY.out.2).trans rfl
        have p2 : W1.cell? ⟨wr.heap.size, 2, none⟩ = some (.string (bstr y.name)) := (cell_of_block HY.out.2).trans rfl
        have p3 : W1.cell? ⟨wr.heap.size, 3, none⟩ = some (.string (bstr y.to)) := (cell_of_block HY.out.2).trans rfl
        have p4 : W1.cell? ⟨wr.heap.size, 4, none⟩ = some (.slice y.bA y.body.length y.bc) := (cell_of_block HY.out.2).trans rfl
        have p5 : W1.cell? ⟨wr.heap.size, 5, none⟩ = some (.int .i64 y.at_) := (cell_of_block HY.out.2).trans rfl
        have p6 : W1.cell? ⟨wr.heap.size, 6, none⟩ = some (.int .i64 y.n) := (cell_of_block HY.out.2).trans rfl
        have p7 : W1.cell? ⟨wr.heap.size, 7, none⟩ = some (.slice y.kA y.keep.length y.kc) := (cell_of_block HY.out.2).trans rfl
        have p8 : W1.cell? ⟨wr.heap.size, 8, none⟩ = some (.int .i64 y.cap) := (cell_of_block HY.out.2).trans rfl
        have p9 : W1.cell? ⟨wr.heap.size, 9, none⟩ = some (.slice y.fA y.fn y.fc) := (cell_of_block HY.out.2).trans rfl
        have p10 : W1.cell? ⟨wr.heap.size, 10, none⟩ = some (.int .i64 y.fuse) := (cell_of_block HY.out.2).trans rfl
        have p11 : W1.cell? ⟨wr.heap.size, 11, none⟩ = some (.bool y.down) := (cell_of_block HY.out.2).trans rfl
        go_wp2_with fail
        clear p0 p1 p2 p3 p4 p5 p6 p7 p8 p9 p10 p11
        refine (acts_calls W1 d s G y (HK.out.1.new HY.out.1) (HO.out.new HY.out.1)).mono ?_
        rintro e w2 ⟨rfl, G', q1, q2⟩
        have hm := act_made y s HP.out
        have hnp := fun h37 h0 => noted_perm HK.out.1.ok HK.out.2.2.2.2.1 y h37 h0
        have hnn := fun hk h0 => noted_not (s := s) y hk h0
        have happ := fun h4 h0 => act_room (s := s) y h4 h0
        have hcr : y.kind = 14 → y.act s = (0, s.crash y.keep) := fun h => by unfold OpV.act; rw [if_neg (by omega), if_neg (by omega), if_neg (by omega), if_neg (by omega), if_neg (by omega), if_neg (by omega), if_pos h]
        have hokc := HK.out.1.ok
        obtain ⟨rv, s2, hr⟩ : ∃ rv s2, y.act s = (rv, s2) := ⟨_, _, rfl⟩
        rw [hr] at q1 hm hnp hnn happ hcr ⊢
        replace q1 : DiskAt w2 d s2 G' := q1
        have nn := New.mv (HK.out.2.1.trans HY.out.1 (fun _ _ h => h) (fun _ _ h => h)) HK.out.2.2.1 q2
        have hlY : wr.heap.size < W1.heap.size := (Array.getElem?_eq_some_iff.1 HY.out.2).1
        have b2 := heap_kp HY.out.2 q2.1 (fun h => by have := HK.out.1.lt _ h; omega)
        have ob := (HK.out.2.2.2.1.kp HY.out.1 (fun _ _ => id)).kp q2.1 (fun j hj h => HK.out.2.2.2.2.2.2 j h hj)
        have dj : ∀ j ∈ G', j ∉ nblks Ab bs := fun j hj hm => (q2.2 j hj).elim (fun h => HK.out.2.2.2.2.2.2 j h hm) (fun h => by have h1 := HK.out.2.2.2.1.lt j hm; have h2 := HY.out.1.size; omega)
        have hbl : bs.length ≤ 64 := by have h1 := HK.out.2.2.2.2.1.length_eq; rw [List.length_map] at h1; have := HK.out.1.ok.few; omega
        have H2 := Lib.hid (And.intro q1 (And.intro nn (And.intro b2 (And.intro ob dj))))
        have HM := Lib.hid (And.intro hm (And.intro hnp (And.intro hnn (And.intro happ hcr))))
        clear q1 q2 nn b2 ob dj hm hnp hnn happ hcr hokc hlY hr
        have p0 : w2.cell? ⟨wr.heap.size, 0, none⟩ = some (.int .i64 y.disk) := (cell_of_block H2.out.2.2.1).trans rfl
        have p1 : w2.cell? ⟨wr.heap.size, 1, none⟩ = some (.int .i64 y.kind) := (cell_of_block H2.out.2.2.1).trans rfl
        have p2 : w2.cell? ⟨wr.heap.size, 2, none⟩ = some (.string (bstr y.name)) := (cell_of_block H2.out.2.2.1).trans rfl
        have p3 : w2.cell? ⟨wr.heap.size, 3, none⟩ = some (.string (bstr y.to)) := (cell_of_block H2.out.2.2.1).trans rfl
        have p4 : w2.cell? ⟨wr.heap.size, 4, none⟩ = some (.slice y.bA y.body.length y.bc) := (cell_of_block H2.out.2.2.1).trans rfl
        have p5 : w2.cell? ⟨wr.heap.size, 5, none⟩ = some (.int .i64 y.at_) := (cell_of_block H2.out.2.2.1).trans rfl
        have p6 : w2.cell? ⟨wr.heap.size, 6, none⟩ = some (.int .i64 y.n) := (cell_of_block H2.out.2.2.1).trans rfl
        have p7 : w2.cell? ⟨wr.heap.size, 7, none⟩ = some (.slice y.kA y.keep.length y.kc) := (cell_of_block H2.out.2.2.1).trans rfl
        have p8 : w2.cell? ⟨wr.heap.size, 8, none⟩ = some (.int .i64 y.cap) := (cell_of_block H2.out.2.2.1).trans rfl
        have p9 : w2.cell? ⟨wr.heap.size, 9, none⟩ = some (.slice y.fA y.fn y.fc) := (cell_of_block H2.out.2.2.1).trans rfl
        have p10 : w2.cell? ⟨wr.heap.size, 10, none⟩ = some (.int .i64 y.fuse) := (cell_of_block H2.out.2.2.1).trans rfl
        have p11 : w2.cell? ⟨wr.heap.size, 11, none⟩ = some (.bool y.down) := (cell_of_block H2.out.2.2.1).trans rfl
        by_cases hk14 : y.kind = 14
        · have hrc := HM.out.2.2.2.2 hk14
          obtain ⟨hr0, hs2⟩ : rv = 0 ∧ s2 = s.crash y.keep := by simpa using hrc
          subst hr0
          have hfu : s2.fuse = -1 := by rw [hs2]; rfl
          have hdn : s2.down = false := by rw [hs2]; rfl
          have hfl : s2.files = crashed y.keep 0 s.files := by rw [hs2]; rfl
          have HRC := Lib.hid (And.intro hk14 (And.intro hfu (And.intro hdn hfl)))
          rw [hk14] at p1
          clear hrc hk14 hs2 hfu hdn hfl
          go_wp2_with fail
          clear p0 p1 p2 p3 p4 p5 p6 p7 p8 p9 p10 p11
          refine (State_calls w2 d s2 G' H2.out.1).mono ?_
          rintro e w3 ⟨A1, c1, zs, rfl, ho1, hz1, hf1, n3⟩
          rw [HRC.out.2.1, HRC.out.2.2.1]
          rw [HRC.out.2.2.2] at hz1
          have hzl : zs.length = bs.length := by have h1 := congrArg List.length hz1; rw [List.length_map] at h1; have h2 := HK.out.2.2.2.2.1.length_eq; rw [List.length_map] at h2; have h3 := crashed_len y.keep s.files 0; omega
          have b3 := heap_kp H2.out.2.2.1 n3 id
          have H3 := Lib.hid (And.intro ho1 (And.intro hz1 (And.intro hf1 (And.intro n3 (And.intro hzl b3)))))
          clear ho1 hz1 hf1 n3 hzl b3
          go_wp2_with fail
          refine (stays_calls w3 Ab A1 cb c1 (s2.cap : Int) bs zs s.files (crashed y.keep 0 s.files) (H2.out.2.2.2.1.kp H3.out.2.2.2.1 (fun _ _ => id)) H3.out.1.rd ?ap H3.out.2.2.2.2.1 hbl H3.out.2.1 HK.out.2.2.2.2.1 (crashed_names y.keep s.files 0).symm ((crashed_names y.keep s.files 0).symm ▸ Rise.nodup HK.out.1.ok.rise) ?cr ?da).mono ?_
          case ap =>
            intro j hj hm
            have h1 := H3.out.2.2.1 j (by rcases hj with hj | ⟨z, hz, hj⟩; exact List.mem_append_left _ (mem_bks.2 hj); exact List.mem_append_right _ (mem_fblks.2 ⟨z, hz, hj⟩))
            have h2 := H2.out.2.2.2.1.lt j hm
            omega
          case cr =>
            intro i g f hg hf
            obtain ⟨f', hf', hc⟩ := crashed_get y.keep s.files 0 i g HK.out.1.ok.syn hg
            rw [hf] at hf'
            obtain rfl := Option.some.inj hf'
            exact hc
          case da =>
            intro g hg
            obtain ⟨l1, l2, e⟩ := List.append_of_mem hg
            have h1 := HK.out.1.ok.used
            have h2 := HK.out.1.ok.cap
            unfold DS.used at h1
            rw [e, used_app, used_cons] at h1
            omega
          rintro e w4 ⟨xs2, rfl, ox, hxl, px, mx⟩
          have b4 := heap_kp H3.out.2.2.2.2.2 mx.1 (fun h => by have h1 := HK.out.2.2.2.1.lt _ h; omega)
          have nx := New.mv (H2.out.2.1.1.trans H3.out.2.2.2.1 (fun _ _ h => h) (fun _ _ h => h)) HK.out.2.2.2.2.2.1 mx
          have dx : DiskAt w4 d s2 G' := (H2.out.1.new H3.out.2.2.2.1).kp mx.1 (fun j hj h => H2.out.2.2.2.2 j hj h)
          have djx : ∀ j ∈ G', j ∉ nblks Ab xs2 := fun j hj hm => (mx.2 j hm).elim (fun h => H2.out.2.2.2.2 j hj h) (fun h => by have h1 := H2.out.1.lt j hj; have h2 := H3.out.2.2.2.1.size; omega)
          have HE := Lib.hid (And.intro dx (And.intro nx.1 (And.intro ox (And.intro (HRC.out.2.2.2 ▸ px : (xs2.map FV.f).Perm s2.files) (And.intro nx.2 djx)))))
          have HXL := Lib.hid hxl.symm
          clear dx nx ox px mx djx b4 hxl
          go_wp2_with fail
          rw [HXL.out]
          refine (shows_calls w4 d s2 G' Ab cb xs2 HE.out.1 HE.out.2.2.1 HE.out.2.2.2.1).mono ?_
          rintro e wz ⟨rfl, nz⟩
          have HZ := Lib.hid nz
          clear nz
          go_wp2_with fail
          exact ⟨⟨k + 1, s2, G', Ab, cb, xs2, by omega, by go_num, rfl, Lib.hid ⟨HE.out.1.new HZ.out, HE.out.2.1.trans HZ.out (fun _ _ h => h) (fun _ _ h => h), H2.out.2.1.2, HE.out.2.2.1.kp HZ.out (fun _ _ => id), HE.out.2.2.2.1, HE.out.2.2.2.2.1, HE.out.2.2.2.2.2⟩⟩, by simp [intOf]; omega⟩
        · have hk14i : ¬ (y.kind = 14) := hk14
          by_cases h0 : rv = 0
          · subst h0
            by_cases hk12 : y.kind = 12
            · have HFS := Lib.hid (HM.out.2.2.1 hk14 (.inr hk12))
              have hb1 : (y.kind == 14) = false := by simpa using hk14
              have hb2 : (y.kind != 12) = false := by simpa using hk12
              clear hk12 hk14 hk14i
              have HE := Lib.hid (And.intro H2.out.1 (And.intro H2.out.2.1.1 (And.intro H2.out.2.2.2.1 (And.intro (HFS.out ▸ HK.out.2.2.2.2.1 : (bs.map FV.f).Perm s2.files) (And.intro HK.out.2.2.2.2.2.1 H2.out.2.2.2.2)))))
              go_wp2_with fail
              clear p0 p1 p2 p3 p4 p5 p6 p7 p8 p9 p10 p11
              refine (shows_calls w2 d s2 G' Ab cb bs HE.out.1 HE.out.2.2.1 HE.out.2.2.2.1).mono ?_
              rintro e wz ⟨rfl, nz⟩
              have HZ := Lib.hid nz
              clear nz
              go_wp2_with fail
              exact ⟨⟨k + 1, s2, G', Ab, cb, bs, by omega, by go_num, rfl, Lib.hid ⟨HE.out.1.new HZ.out, HE.out.2.1.trans HZ.out (fun _ _ h => h) (fun _ _ h => h), H2.out.2.1.2, HE.out.2.2.1.kp HZ.out (fun _ _ => id), HE.out.2.2.2.1, HE.out.2.2.2.2.1, HE.out.2.2.2.2.2⟩⟩, by simp [intOf]; omega⟩
            · have h37 : 3 ≤ y.kind ∧ y.kind ≤ 7 := by have h := HP.out; unfold isAct at h; have := of_decide_eq_true h; omega
              have HPM := Lib.hid (HM.out.2.1 h37 rfl)
              have HR := Lib.hid h37
              have hb1 : (y.kind == 14) = false := by simpa using hk14
              have hb2 : (y.kind != 12) = true := by simpa using hk12
              clear hk12 hk14 hk14i h37
              by_cases hk3 : y.kind = 3
              · have hb3 : (y.kind != 3) = false := by simpa using hk3
                have hb4 : (y.kind == 3) = true := by simpa using hk3
                have hfn := findZ_none (HPM.out.2.1 hk3)
                have HFN := Lib.hid hfn
                clear hk3 hfn
                go_wp2_with fail
                clear p0 p1 p2 p3 p4 p5 p6 p7 p8 p9 p10 p11
                refine (pressed_calls w2 y.name HO.out.name).mono ?_
                rintro e w3 ⟨rfl, n3⟩
                have b3 := heap_kp H2.out.2.2.1 n3 id
                have p0 : w3.cell? ⟨wr.heap.size, 0, none⟩ = some (.int .i64 y.disk) := (cell_of_block b3).trans rfl
                have p1 : w3.cell? ⟨wr.heap.size, 1, none⟩ = some (.int .i64 y.kind) := (cell_of_block b3).trans rfl
                have p2 : w3.cell? ⟨wr.heap.size, 2, none⟩ = some (.string (bstr y.name)) := (cell_of_block b3).trans rfl
                have p3 : w3.cell? ⟨wr.heap.size, 3, none⟩ = some (.string (bstr y.to)) := (cell_of_block b3).trans rfl
                have p4 : w3.cell? ⟨wr.heap.size, 4, none⟩ = some (.slice y.bA y.body.length y.bc) := (cell_of_block b3).trans rfl
                have p5 : w3.cell? ⟨wr.heap.size, 5, none⟩ = some (.int .i64 y.at_) := (cell_of_block b3).trans rfl
                have p6 : w3.cell? ⟨wr.heap.size, 6, none⟩ = some (.int .i64 y.n) := (cell_of_block b3).trans rfl
                have p7 : w3.cell? ⟨wr.heap.size, 7, none⟩ = some (.slice y.kA y.keep.length y.kc) := (cell_of_block b3).trans rfl
                have p8 : w3.cell? ⟨wr.heap.size, 8, none⟩ = some (.int .i64 y.cap) := (cell_of_block b3).trans rfl
                have p9 : w3.cell? ⟨wr.heap.size, 9, none⟩ = some (.slice y.fA y.fn y.fc) := (cell_of_block b3).trans rfl
                have p10 : w3.cell? ⟨wr.heap.size, 10, none⟩ = some (.int .i64 y.fuse) := (cell_of_block b3).trans rfl
                have p11 : w3.cell? ⟨wr.heap.size, 11, none⟩ = some (.bool y.down) := (cell_of_block b3).trans rfl
                have o3 := H2.out.2.2.2.1.kp n3 (fun _ _ => id)
                have H3 := Lib.hid (And.intro n3 (And.intro b3 o3))
                clear n3 b3 o3
                go_wp2_with fail
                refine (find_calls w3 Ab cb bs (pressed y.name) H3.out.2.2 (by omega)).mono ?_
                rintro e x ⟨rfl, rfl⟩
                rw [HFN.out]
                go_wp2_with fail
                clear p0 p1 p2 p3 p4 p5 p6 p7 p8 p9 p10 p11
                refine (noted_calls w3 Ab cb bs y H3.out.2.2 ((HI.out.new (H2.out.2.1.1.trans H3.out.1 (fun _ _ h => h) (fun _ _ h => h))).2 y HMEM.out) hbl ((HK.out.2.2.2.2.1.map _).nodup_iff.2 (Rise.nodup HK.out.1.ok.rise)) HR.out HPM.out.2.2 (fun h4 z hz => by
                    have h1 := HM.out.2.2.2.1 h4 (by simp)
                    have h2 := HK.out.1.ok.cap
                    have hzs : z.f ∈ s.files := HK.out.2.2.2.2.1.mem_iff.1 (List.mem_map.2 ⟨z, hz, rfl⟩)
                    obtain ⟨l1, l2, e⟩ := List.append_of_mem hzs
                    unfold DS.used at h1
                    rw [e, used_app, used_cons] at h1
                    omega)).mono ?_
                rintro e w4 ⟨A4, c4, xs2, rfl, ox, hxm, mx⟩
                have nx := New.mv (H2.out.2.1.1.trans H3.out.1 (fun _ _ h => h) (fun _ _ h => h)) HK.out.2.2.2.2.2.1 mx
                have dx : DiskAt w4 d s2 G' := (H2.out.1.new H3.out.1).kp mx.1 (fun j hj h => H2.out.2.2.2.2 j hj h)
                have djx : ∀ j ∈ G', j ∉ nblks A4 xs2 := fun j hj hm => (mx.2 j hm).elim (fun h => H2.out.2.2.2.2 j hj h) (fun h => by have h1 := H2.out.1.lt j hj; have h2 := H3.out.1.size; omega)
                have HE := Lib.hid (And.intro dx (And.intro nx.1 (And.intro ox (And.intro (hxm ▸ HPM.out.1 : (xs2.map FV.f).Perm s2.files) (And.intro nx.2 djx)))))
                clear dx nx ox hxm mx djx
                go_wp2_with fail
                refine (shows_calls w4 d s2 G' A4 c4 xs2 HE.out.1 HE.out.2.2.1 HE.out.2.2.2.1).mono ?_
                rintro e wz ⟨rfl, nz⟩
                have HZ := Lib.hid nz
                clear nz
                go_wp2_with fail
                exact ⟨⟨k + 1, s2, G', A4, c4, xs2, by omega, by go_num, rfl, Lib.hid ⟨HE.out.1.new HZ.out, HE.out.2.1.trans HZ.out (fun _ _ h => h) (fun _ _ h => h), H2.out.2.1.2, HE.out.2.2.1.kp HZ.out (fun _ _ => id), HE.out.2.2.2.1, HE.out.2.2.2.2.1, HE.out.2.2.2.2.2⟩⟩, by simp [intOf]; omega⟩
              · have hb3 : (y.kind != 3) = true := by simpa using hk3
                have hb4 : (y.kind == 3) = false := by simpa using hk3
                have hfs := HPM.out.2.2 hk3
                obtain ⟨fl, hfl⟩ := Option.isSome_iff_exists.1 hfs
                obtain ⟨ix, z, hz, -, -, hfz⟩ := findZ_some hfl
                have HFN := Lib.hid hfz
                have hi0 : (0 : Int) ≤ ix := by omega
                clear hk3 hfs hfl hz hfz z fl
                go_wp2_with fail
                clear p0 p1 p2 p3 p4 p5 p6 p7 p8 p9 p10 p11
                refine (pressed_calls w2 y.name HO.out.name).mono ?_
                rintro e w3 ⟨rfl, n3⟩
                have b3 := heap_kp H2.out.2.2.1 n3 id
                have p0 : w3.cell? ⟨wr.heap.size, 0, none⟩ = some (.int .i64 y.disk) := (cell_of_block b3).trans rfl
                have p1 : w3.cell? ⟨wr.heap.size, 1, none⟩ = some (.int .i64 y.kind) := (cell_of_block b3).trans rfl
                have p2 : w3.cell? ⟨wr.heap.size, 2, none⟩ = some (.string (bstr y.name)) := (cell_of_block b3).trans rfl
                have p3 : w3.cell? ⟨wr.heap.size, 3, none⟩ = some (.string (bstr y.to)) := (cell_of_block b3).trans rfl
                have p4 : w3.cell? ⟨wr.heap.size, 4, none⟩ = some (.slice y.bA y.body.length y.bc) := (cell_of_block b3).trans rfl
                have p5 : w3.cell? ⟨wr.heap.size, 5, none⟩ = some (.int .i64 y.at_) := (cell_of_block b3).trans rfl
                have p6 : w3.cell? ⟨wr.heap.size, 6, none⟩ = some (.int .i64 y.n) := (cell_of_block b3).trans rfl
                have p7 : w3.cell? ⟨wr.heap.size, 7, none⟩ = some (.slice y.kA y.keep.length y.kc) := (cell_of_block b3).trans rfl
                have p8 : w3.cell? ⟨wr.heap.size, 8, none⟩ = some (.int .i64 y.cap) := (cell_of_block b3).trans rfl
                have p9 : w3.cell? ⟨wr.heap.size, 9, none⟩ = some (.slice y.fA y.fn y.fc) := (cell_of_block b3).trans rfl
                have p10 : w3.cell? ⟨wr.heap.size, 10, none⟩ = some (.int .i64 y.fuse) := (cell_of_block b3).trans rfl
                have p11 : w3.cell? ⟨wr.heap.size, 11, none⟩ = some (.bool y.down) := (cell_of_block b3).trans rfl
                have o3 := H2.out.2.2.2.1.kp n3 (fun _ _ => id)
                have H3 := Lib.hid (And.intro n3 (And.intro b3 o3))
                clear n3 b3 o3
                go_wp2_with fail
                refine (find_calls w3 Ab cb bs (pressed y.name) H3.out.2.2 (by omega)).mono ?_
                rintro e x ⟨rfl, rfl⟩
                rw [HFN.out]
                go_wp2_with fail
                clear p0 p1 p2 p3 p4 p5 p6 p7 p8 p9 p10 p11
                refine (noted_calls w3 Ab cb bs y H3.out.2.2 ((HI.out.new (H2.out.2.1.1.trans H3.out.1 (fun _ _ h => h) (fun _ _ h => h))).2 y HMEM.out) hbl ((HK.out.2.2.2.2.1.map _).nodup_iff.2 (Rise.nodup HK.out.1.ok.rise)) HR.out HPM.out.2.2 (fun h4 z hz => by
                    have h1 := HM.out.2.2.2.1 h4 (by simp)
                    have h2 := HK.out.1.ok.cap
                    have hzs : z.f ∈ s.files := HK.out.2.2.2.2.1.mem_iff.1 (List.mem_map.2 ⟨z, hz, rfl⟩)
                    obtain ⟨l1, l2, e⟩ := List.append_of_mem hzs
                    unfold DS.used at h1
                    rw [e, used_app, used_cons] at h1
                    omega)).mono ?_
                rintro e w4 ⟨A4, c4, xs2, rfl, ox, hxm, mx⟩
                have nx := New.mv (H2.out.2.1.1.trans H3.out.1 (fun _ _ h => h) (fun _ _ h => h)) HK.out.2.2.2.2.2.1 mx
                have dx : DiskAt w4 d s2 G' := (H2.out.1.new H3.out.1).kp mx.1 (fun j hj h => H2.out.2.2.2.2 j hj h)
                have djx : ∀ j ∈ G', j ∉ nblks A4 xs2 := fun j hj hm => (mx.2 j hm).elim (fun h => H2.out.2.2.2.2 j hj h) (fun h => by have h1 := H2.out.1.lt j hj; have h2 := H3.out.1.size; omega)
                have HE := Lib.hid (And.intro dx (And.intro nx.1 (And.intro ox (And.intro (hxm ▸ HPM.out.1 : (xs2.map FV.f).Perm s2.files) (And.intro nx.2 djx)))))
                clear dx nx ox hxm mx djx
                go_wp2_with fail
                refine (shows_calls w4 d s2 G' A4 c4 xs2 HE.out.1 HE.out.2.2.1 HE.out.2.2.2.1).mono ?_
                rintro e wz ⟨rfl, nz⟩
                have HZ := Lib.hid nz
                clear nz
                go_wp2_with fail
                exact ⟨⟨k + 1, s2, G', A4, c4, xs2, by omega, by go_num, rfl, Lib.hid ⟨HE.out.1.new HZ.out, HE.out.2.1.trans HZ.out (fun _ _ h => h) (fun _ _ h => h), H2.out.2.1.2, HE.out.2.2.1.kp HZ.out (fun _ _ => id), HE.out.2.2.2.1, HE.out.2.2.2.2.1, HE.out.2.2.2.2.2⟩⟩, by simp [intOf]; omega⟩
          · have hrv0 : ¬ ((rv : Nat) : Int) = 0 := by omega
            have HFS := Lib.hid (HM.out.2.2.1 hk14 (.inl h0))
            have hb1 : (y.kind == 14) = false := by simpa using hk14
            clear hk14 hk14i h0
            have HE := Lib.hid (And.intro H2.out.1 (And.intro H2.out.2.1.1 (And.intro H2.out.2.2.2.1 (And.intro (HFS.out ▸ HK.out.2.2.2.2.1 : (bs.map FV.f).Perm s2.files) (And.intro HK.out.2.2.2.2.2.1 H2.out.2.2.2.2)))))
            go_wp2_with fail
            clear p0 p1 p2 p3 p4 p5 p6 p7 p8 p9 p10 p11
            refine (shows_calls w2 d s2 G' Ab cb bs HE.out.1 HE.out.2.2.1 HE.out.2.2.2.1).mono ?_
            rintro e wz ⟨rfl, nz⟩
            have HZ := Lib.hid nz
            clear nz
            go_wp2_with fail
            exact ⟨⟨k + 1, s2, G', Ab, cb, bs, by omega, by go_num, rfl, Lib.hid ⟨HE.out.1.new HZ.out, HE.out.2.1.trans HZ.out (fun _ _ h => h) (fun _ _ h => h), H2.out.2.1.2, HE.out.2.2.1.kp HZ.out (fun _ _ => id), HE.out.2.2.2.1, HE.out.2.2.2.2.1, HE.out.2.2.2.2.2⟩⟩, by simp [intOf]; omega⟩
      · have hact' : isAct y.kind = false := by simpa using hact
        rw [hact']
        clear hact hact'
        go_wp2_with fail
        exact ⟨⟨k + 1, s, G, Ab, cb, bs, by omega, by go_num, rfl, Lib.hid ⟨HK.out.1.new HY.out.1, HK.out.2.1.trans HY.out.1 (fun _ _ h => h) (fun _ _ h => h), HK.out.2.2.1, HK.out.2.2.2.1.kp HY.out.1 (fun _ _ => id), HK.out.2.2.2.2⟩⟩, by simp [intOf]; omega⟩
    · by_cases hk1 : k < ys.length
      · have hkd1 : decide (k < ys.length) = true := decide_eq_true hk1
        have hk4 : decide (k < 400) = false := decide_eq_false fun h => hgo ⟨hk1, h⟩
        go_wp2_with fail
        go_ret
        exact ⟨rfl, HK.out.2.1⟩
      · have hkd1 : decide (k < ys.length) = false := decide_eq_false hk1
        go_wp2_with fail
        go_ret
        exact ⟨rfl, HK.out.2.1⟩
end Go.Proofs.Ytekcoeonlfmebaa.Kit
