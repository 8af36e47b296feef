/- daybooklaw03.apart: what is written into the lists that one disk told is told by neither. -/
import Derived.Test.YtekcoeonlfmebaaSame
import Derived.Test.YtekcoeonlfmebaaNotes
import Derived.Test.YtekcoeonlfmebaaState
import Derived.Test.YtekcoeonlfmebaaLine
namespace Go.Proofs.Ytekcoeonlfmebaa.Kit
open Go Go.RowKit

theorem xor_u8 (x : UInt8) : (x ^^^ 85).toNat = x.toNat ^^^ 85 := UInt8.toNat_xor x 85
theorem xor85 : ∀ x : Fin 256, bits .xor .u8 ((x.val : Nat) : Int) 85 = ((x.val ^^^ 85 : Nat) : Int) := by decide +kernel
theorem xor_bits (x : UInt8) : bits .xor .u8 (x.toNat : Int) 85 = ((x.toNat ^^^ 85 : Nat) : Int) := xor85 ⟨x.toNat, x.toNat_lt⟩
/-- The list that is spoilt: as long, in its own blocks. -/
def Spoilt (W wr : World) (A : Option Addr) (c : Nat) (zs ys : List FV) : Prop := ys.length = zs.length ∧ OwnN 65 wr A c ys ∧ nblks A ys = nblks A zs ∧ Kp (· ∈ nblks A zs) W wr

set_option maxRecDepth 100000 in
set_option maxHeartbeats 8000000 in
theorem apart_calls (w : World) (d u : Nat) (s : DS) (E : List Nat) (hD : DiskAt w u s E) :
    Calls Try.prog 20 #[.pointer (some ⟨d, 0, none⟩), .pointer (some ⟨u, 0, none⟩)] w fun e w' => e = .returned (.bool true) ∧ New w w' := by
  have HD := Lib.hid hD
  have hmo : Try.prog.follows Departure.mixedOrders = true := by kernel_rfl
  clear hD
  go_enter Try.func20, Try.ntmps20
  go_wp2_with fail
  refine (State_calls w u s E HD.out).mono ?_
  rintro e w1 ⟨A1, c1, zs, rfl, ho1, hz1, hf1, n1⟩
  have hzl : zs.length ≤ 64 := by have := congrArg List.length hz1; rw [List.length_map] at this; have := HD.out.ok.few; omega
  have H1 := Lib.hid (And.intro ho1 (And.intro hz1 (And.intro hf1 n1)))
  clear ho1 hz1 hf1 n1
  go_wp2_with fail
  obtain ⟨W2, hW2⟩ : ∃ W, w1.alloc (.cells #[.int .i64 (s.cap : Int), .slice A1 zs.length c1, .int .i64 s.fuse, .bool s.down] 32) = W := ⟨_, rfl⟩
  rw [hW2]
  have n2 : New w1 W2 := hW2 ▸ Kp.alloc _ _ _
  have q2 : W2.heap[w1.heap.size]? = some (.cells #[.int .i64 (s.cap : Int), .slice A1 zs.length c1, .int .i64 s.fuse, .bool s.down] 32 (0, 0)) := hW2 ▸ heap_alloc_new w1 _
  have H2 := Lib.hid (And.intro n2 q2)
  clear n2 q2 hW2
  refine (State_calls W2 u s E (HD.out.new (H1.out.2.2.2.trans H2.out.1 (fun _ _ h => h) (fun _ _ h => h)))).mono ?_
  rintro e w3 ⟨A2, c2, xs, rfl, ho2, hz2, hf2, n3⟩
  have hxl : xs.length ≤ 64 := by have := congrArg List.length hz2; rw [List.length_map] at this; have := HD.out.ok.few; omega
  have H3 := Lib.hid (And.intro ho2 (And.intro hz2 (And.intro hf2 n3)))
  clear ho2 hz2 hf2 n3
  go_wp2_with fail
  obtain ⟨W4, hW4⟩ : ∃ W, w3.alloc (.cells #[.int .i64 (s.cap : Int), .slice A2 xs.length c2, .int .i64 s.fuse, .bool s.down] 32) = W := ⟨_, rfl⟩
  rw [hW4]
  have n4 : New w3 W4 := hW4 ▸ Kp.alloc _ _ _
  have q4 : W4.heap[w3.heap.size]? = some (.cells #[.int .i64 (s.cap : Int), .slice A2 xs.length c2, .int .i64 s.fuse, .bool s.down] 32 (0, 0)) := hW4 ▸ heap_alloc_new w3 _
  have n34 : New W2 W4 := H3.out.2.2.2.trans n4 (fun _ _ h => h) (fun _ _ h => h)
  have q1 := heap_kp H2.out.2 n34 id
  have o1 : OwnN 65 W4 A1 c1 zs := (H1.out.1.kp H2.out.1 (fun _ _ => id)).kp n34 (fun _ _ => id)
  have o2 : OwnF W4 A2 c2 xs := H3.out.1.kp n4 (fun _ _ => id)
  have k1 : ∀ j ∈ nblks A1 zs, j < w1.heap.size := fun j hj => H1.out.1.lt j hj
  have nw : New w W4 := (H1.out.2.2.2.trans H2.out.1 (fun _ _ h => h) (fun _ _ h => h)).trans n34 (fun _ _ h => h) (fun _ _ h => h)
  have z12 : w1.heap.size < W2.heap.size := (Array.getElem?_eq_some_iff.1 H2.out.2).1
  have z23 := H3.out.2.2.2.size
  have H4 := Lib.hid (And.intro q1 (And.intro q4 (And.intro o1 (And.intro o2 (And.intro k1 (And.intro nw (And.intro z12 z23)))))))
  clear n4 q4 n34 q1 o1 o2 k1 nw z12 z23 hW4
  go_loopw [7] (fun i wr => ∃ (k : Nat) (ys : List FV), k ≤ zs.length ∧ i = .int .i64 (k : Int) ∧ Hid (Spoilt W4 wr A1 c1 zs ys)) (fun i _ => zs.length - (intOf i).toNat)
  case atStart => exact ⟨0, zs, Nat.zero_le _, rfl, Lib.hid ⟨rfl, H4.out.2.2.1, rfl, Kp.refl _ _⟩⟩
  case round =>
    obtain ⟨k, ys, hk, rfl, HK⟩ := hrel
    have qa := heap_kp H4.out.1 HK.out.2.2.2 (fun h => by have := H4.out.2.2.2.2.1 _ h; omega)
    have qb := heap_kp H4.out.2.1 HK.out.2.2.2 (fun h => by have h1 := H4.out.2.2.2.2.1 _ h; have h2 := H4.out.2.2.2.2.2.2.1; have h3 := H4.out.2.2.2.2.2.2.2; omega)
    have a1 : wr.cell? ⟨w1.heap.size, 1, none⟩ = some (.slice A1 zs.length c1) := (cell_of_block qa).trans rfl
    have HQ := Lib.hid (And.intro qa qb)
    clear qa qb
    have hk0 : (0 : Int) ≤ k := by omega
    by_cases hlt : k < zs.length
    · have hki : (k : Int) < (zs.length : Int) := by omega
      obtain ⟨y, hy⟩ : ∃ y, ys[k]? = some y := ⟨_, List.getElem?_eq_getElem (by have := HK.out.1; omega)⟩
      obtain ⟨g, rfl, r0, r1, r2, rf⟩ := HK.out.2.1.at_ hy
      have hyl := (HK.out.2.1.2.1 y (List.mem_of_getElem? hy)).max
      simp only [maxLen] at hyl
      have HY := Lib.hid (And.intro hy rf)
      clear hy rf r0 r2
      go_wp2_with fail
      obtain ⟨wo, rfl⟩ : ∃ wo : World, wo = wr := ⟨_, rfl⟩
      go_loopw [8] (fun j wr => ∃ (m : Nat) (ys2 : List FV) (y2 : FV), m ≤ y.f.data.length ∧ j = .int .i64 (m : Int) ∧ Hid (Spoilt W4 wr (some ⟨g, 0, none⟩) c1 zs ys2 ∧ ys2[k]? = some y2 ∧ y2.A = y.A ∧ y2.c = y.c ∧ y2.f.data.length = y.f.data.length)) (fun j _ => y.f.data.length - (intOf j).toNat)
      case atStart => exact ⟨0, ys, y, Nat.zero_le _, rfl, Lib.hid ⟨HK.out, HY.out.1, rfl, rfl, rfl⟩⟩
      case round =>
        clear a1 r1
        obtain ⟨m, ys2, y2, hm, rfl, HM⟩ := hrel
        have qa := heap_kp H4.out.1 HM.out.1.2.2.2 (fun h => by have := H4.out.2.2.2.2.1 _ h; omega)
        have a1 : wr.cell? ⟨w1.heap.size, 1, none⟩ = some (.slice (some ⟨g, 0, none⟩) zs.length c1) := (cell_of_block qa).trans rfl
        obtain ⟨g', hg', r0, r1, r2, rf⟩ := HM.out.1.2.1.at_ HM.out.2.1
        obtain rfl : g = g' := by simpa using hg'
        rw [HM.out.2.2.1, HM.out.2.2.2.1, HM.out.2.2.2.2] at r1
        have hm0 : (0 : Int) ≤ m := by omega
        clear hg' r2 qa
        by_cases hml : m < y.f.data.length
        · have hmi : (m : Int) < (y.f.data.length : Int) := by omega
          have hyo := HM.out.1.2.1.2.1 y2 (List.mem_of_getElem? HM.out.2.1)
          obtain ⟨gy, hgy⟩ := hyo.some_ (by have := HM.out.2.2.2.2; omega)
          have hx : y2.f.data[m]? = some (y2.f.data[m]'(by have := HM.out.2.2.2.2; omega)) := List.getElem?_eq_getElem _
          generalize y2.f.data[m]'(by have := HM.out.2.2.2.2; omega) = x at hx
          rw [hgy] at hyo
          have bx : wr.cell? ⟨gy, m, none⟩ = some (.int .u8 (x.toNat : Int)) := hyo.cell (by simp [bcs, hx])
          have fx : wr.frozen? ⟨gy, m, none⟩ = false := hyo.frozen m
          have eya : y.A = some ⟨gy, 0, none⟩ := HM.out.2.2.1.symm.trans hgy
          rw [eya] at r1
          have hb := HM.out.1.2.1.byte HM.out.2.1 (k := m) hgy (x ^^^ 85)
          have hgm : gy ∈ nblks (some ⟨g, 0, none⟩) zs := by rw [← HM.out.1.2.2.1]; exact List.mem_append_right _ (mem_fblks.2 ⟨y2, List.mem_of_getElem? HM.out.2.1, hgy ▸ Bk.some_.2 rfl⟩)
          have hkb : Kp (· ∈ nblks (some ⟨g, 0, none⟩) zs) wr (wr.setCell ⟨gy, m, none⟩ (bc (x ^^^ 85))) := Kp.setCell _ _ _ hgm
          have hset : Spoilt W4 (wr.setCell ⟨gy, m, none⟩ (bc (x ^^^ 85))) (some ⟨g, 0, none⟩) c1 zs (ys2.set k (y2.byte m (x ^^^ 85))) := ⟨by rw [List.length_set]; exact HM.out.1.1, hb, by rw [← HM.out.1.2.2.1]; unfold nblks; rw [fblks_set_same (y := y2) (z := y2.byte m (x ^^^ 85)) rfl HM.out.2.1], HM.out.1.2.2.2.trans hkb (fun _ _ h => h) (fun _ _ h => h)⟩
          have HX := Lib.hid (And.intro hset (And.intro hx hgy))
          have hxo := xor_bits x
          clear hyo hb hgm hkb hset hx hgy r0 rf eya
          go_wp2_with fail
          refine wp_region_line (fun w' => w'.cell? ⟨w1.heap.size, 1, none⟩ = some (.slice (some ⟨g, 0, none⟩) zs.length c1) ∧ w'.cell? ⟨g, k * 3 + 1, none⟩ = some (.slice (some ⟨gy, 0, none⟩) y.f.data.length y.c) ∧ w'.cell? ⟨gy, m, none⟩ = some (.int .u8 (x.toNat : Int))) (pl := [(0, true), (1, true), (2, true), (3, true), (4, true), (5, true), (6, true), (7, true), (8, true), (9, true), (10, true), (11, true), (12, true), (13, true), (14, true), (15, true), (16, true), (17, true), (18, false)]) hmo (by kernel_rfl) ⟨by simpa using a1, by simpa using r1, by simpa using bx⟩ ?_
          iterate 18 (refine line_get rfl rfl (fun K hK => ?_); apply Exists.intro; refine ⟨fun w hS => ?_, ?_⟩; (first | (have hS' := hS rfl; go_simp; with_reducible rfl) | (go_simp; with_reducible rfl)); (go_simp; refine hK _ ?_; clear hK K))
          (refine line_do rfl rfl (fun K hK => ?_); go_simp)
          refine hK _ _ (no_need (by kernel_rfl)) ?_
          clear hK K
          refine line_nil ?_
          go_wp2_with fail
          have hs2 : Spoilt W4 (wr.setCell ⟨gy, m, none⟩ (.int .u8 ((x.toNat ^^^ 85 : Nat) : Int))).drew (some ⟨g, 0, none⟩) c1 zs (ys2.set k (y2.byte m (x ^^^ 85))) := by
            have h := HX.out.1
            simp only [bc, xor_u8] at h
            exact ⟨h.1, h.2.1.kp (Kp.drew (fun _ => False) _) (fun _ _ => id), h.2.2.1, h.2.2.2.trans (Kp.drew (fun _ => False) _) (fun _ _ h => h) (fun _ _ h => h.elim)⟩
          exact ⟨⟨m + 1, ys2.set k (y2.byte m (x ^^^ 85)), y2.byte m (x ^^^ 85), by omega, by go_num, Lib.hid ⟨hs2, by rw [List.getElem?_set, if_pos rfl, if_pos (List.getElem?_eq_some_iff.1 HM.out.2.1).1], HM.out.2.2.1, HM.out.2.2.2.1, by simp only [FV.byte, List.length_set]; exact HM.out.2.2.2.2⟩⟩, by simp [intOf]; omega⟩
        · obtain rfl : m = y.f.data.length := by omega
          have rf0 := rf (k * 3)
          go_wp2_with fail
          have hy0 : y2.A = y.A := HM.out.2.2.1
          have hz0 : Spoilt W4 (wr.setCell ⟨g, k * 3 + 0, none⟩ (.string (bstr [115, 112, 111, 105, 108, 116]))) (some ⟨g, 0, none⟩) c1 zs (ys2.set k ⟨⟨[115, 112, 111, 105, 108, 116], y2.f.data, y2.f.syn⟩, y2.A, y2.c⟩) :=
            ⟨by rw [List.length_set]; exact HM.out.1.1, HM.out.1.2.1.put HM.out.2.1 (m := 0) (z := ⟨⟨[115, 112, 111, 105, 108, 116], y2.f.data, y2.f.syn⟩, y2.A, y2.c⟩) (by omega) _ rfl (Kp.refl (fun _ => False) wr) (fun _ _ => id) (HM.out.1.2.1.2.1 y2 (List.mem_of_getElem? HM.out.2.1)) (fun _ h => .inr h),
              by rw [← HM.out.1.2.2.1]; unfold nblks; rw [fblks_set_same (y := y2) (z := ⟨⟨[115, 112, 111, 105, 108, 116], y2.f.data, y2.f.syn⟩, y2.A, y2.c⟩) rfl HM.out.2.1],
              HM.out.1.2.2.2.trans (Kp.setCell (S := (· ∈ nblks (some ⟨g, 0, none⟩) zs)) _ _ _ (List.mem_append_left _ (mem_bks.2 (Bk.some_.2 rfl)))) (fun _ _ h => h) (fun _ _ h => h)⟩
          exact ⟨⟨k + 1, _, by omega, by go_num, Lib.hid hz0⟩, by simp [intOf]; omega⟩
    · obtain rfl : k = zs.length := by omega
      have hkd : decide (zs.length < zs.length) = false := by simp
      have d0 : wr.cell? ⟨w3.heap.size, 0, none⟩ = some (.int .i64 (s.cap : Int)) := (cell_of_block HQ.out.2).trans rfl
      have d1 : wr.cell? ⟨w3.heap.size, 1, none⟩ = some (.slice A2 xs.length c2) := (cell_of_block HQ.out.2).trans rfl
      have d2 : wr.cell? ⟨w3.heap.size, 2, none⟩ = some (.int .i64 s.fuse) := (cell_of_block HQ.out.2).trans rfl
      have d3 : wr.cell? ⟨w3.heap.size, 3, none⟩ = some (.bool s.down) := (cell_of_block HQ.out.2).trans rfl
      have kw : New w wr := H4.out.2.2.2.2.2.1.trans HK.out.2.2.2 (fun _ _ h => h) (fun i hi h => by have h1 := H1.out.2.2.1 i h; omega)
      have ro : RdF wr A2 xs := H4.out.2.2.2.1.rd.kp HK.out.2.2.2 (fun j hj h => by
        have h1 := H4.out.2.2.2.2.1 j h
        have h2 := H3.out.2.2.1 j (by rcases hj with hj | ⟨z, hz, hj⟩; exact List.mem_append_left _ (mem_bks.2 hj); exact List.mem_append_right _ (mem_fblks.2 ⟨z, hz, hj⟩))
        have h3 := H4.out.2.2.2.2.2.2.1
        omega)
      have HR := Lib.hid (And.intro kw ro)
      clear kw ro
      go_wp2_with fail
      refine wp_region_line (fun w' => w'.cell? ⟨w3.heap.size, 0, none⟩ = some (.int .i64 (s.cap : Int)) ∧ w'.cell? ⟨w3.heap.size, 1, none⟩ = some (.slice A2 xs.length c2) ∧ w'.cell? ⟨w3.heap.size, 2, none⟩ = some (.int .i64 s.fuse) ∧ w'.cell? ⟨w3.heap.size, 3, none⟩ = some (.bool s.down)) (pl := [(0, true), (1, true), (2, false), (3, false), (4, true)]) hmo (by kernel_rfl) ⟨by simpa using d0, by simpa using d1, by simpa using d2, by simpa using d3⟩ ?_
      iterate 2 (refine line_get rfl rfl (fun K hK => ?_); apply Exists.intro; refine ⟨fun w hS => ?_, ?_⟩; (first | (have hS' := hS rfl; go_simp; with_reducible rfl) | (go_simp; with_reducible rfl)); (go_simp; refine hK _ ?_; clear hK K))
      (refine line_do rfl rfl (fun K hK => ?_); go_simp)
      refine (State_calls wr.drew u s E (HD.out.new (HR.out.1.trans (Kp.drew _ _) (fun _ _ h => h) (fun _ _ h => h)))).mono ?_
      rintro e w5 ⟨A5, c5, vs, rfl, ho5, hz5, -, n5⟩
      have h25 : xs.map FV.f = vs.map FV.f := H3.out.2.1.trans hz5.symm
      have hl5 : vs.length = xs.length := by have := congrArg List.length h25; simpa using this.symm
      have n5' : New wr w5 := Kp.trans (Kp.drew _ _) n5 (fun _ _ h => h) (fun _ _ h => h)
      refine hK _ _ (fun _ => ⟨n5'.cell d0, n5'.cell d1, n5'.cell d2, n5'.cell d3⟩) ?_
      have H5 := Lib.hid (And.intro ho5 (And.intro h25 (And.intro hl5 n5')))
      clear hK K ho5 hz5 n5 h25 hl5 n5'
      (refine line_do rfl rfl (fun K hK => ?_); go_simp)
      refine (Same_calls w5 (s.cap : Int) s.fuse s.down A2 A5 xs.length vs.length c2 c5 xs vs (HR.out.2.new H5.out.2.2.2) H5.out.1.rd H5.out.2.1 rfl H5.out.2.2.1 (by omega)).mono ?_
      rintro e w6 ⟨rfl, n6⟩
      have H6 := Lib.hid n6
      refine hK _ _ (fun _ => ⟨n6.cell (H5.out.2.2.2.cell d0), n6.cell (H5.out.2.2.2.cell d1), n6.cell (H5.out.2.2.2.cell d2), n6.cell (H5.out.2.2.2.cell d3)⟩) ?_
      clear hK K n6
      (refine line_get rfl rfl (fun K hK => ?_); apply Exists.intro; refine ⟨fun w hS => ?_, ?_⟩; (first | (have hS' := hS rfl; go_simp; with_reducible rfl) | (go_simp; with_reducible rfl)); (go_simp; refine hK _ ?_; clear hK K))
      refine line_nil ?_
      go_wp2_with fail
      go_ret
      exact ⟨rfl, (HR.out.1.trans H5.out.2.2.2 (fun _ _ h => h) (fun _ _ h => h)).trans H6.out (fun _ _ h => h) (fun _ _ h => h)⟩
end Go.Proofs.Ytekcoeonlfmebaa.Kit
