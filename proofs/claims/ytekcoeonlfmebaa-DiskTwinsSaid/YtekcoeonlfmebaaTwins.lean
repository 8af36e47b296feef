/- The law DiskTwins, walked. -/
import Derived.Test.YtekcoeonlfmebaaFirst
import Derived.Test.YtekcoeonlfmebaaOps
import Derived.Test.YtekcoeonlfmebaaSame
import Derived.Test.YtekcoeonlfmebaaFrom
import Derived.Test.YtekcoeonlfmebaaTwinM
import Derived.Test.YtekcoeonlfmebaaApart
namespace Go.Proofs.Ytekcoeonlfmebaa.Kit
open Go Go.RowKit

/-- The twin, if there is one: a disk of the same state in blocks apart. -/
def TwinAt (w wr : World) (s : DS) (G : List Nat) (tv : Value) : Prop := tv = .pointer none ∨ ∃ u E, tv = .pointer (some ⟨u, 0, none⟩) ∧ DiskAt wr u s E ∧ (∀ j ∈ E, w.heap.size ≤ j) ∧ ∀ j ∈ G, j ∉ E
theorem TwinAt.no (w wr : World) (s : DS) (G : List Nat) : TwinAt w wr s G (.pointer none) := .inl rfl
theorem TwinAt.yes {w wr : World} {s : DS} {G E : List Nat} {u : Nat} (h : DiskAt wr u s E) (h1 : ∀ j ∈ E, w.heap.size ≤ j) (h2 : ∀ j ∈ G, j ∉ E) : TwinAt w wr s G (.pointer (some ⟨u, 0, none⟩)) := .inr ⟨u, E, rfl, h, h1, h2⟩

set_option maxRecDepth 100000 in
set_option maxHeartbeats 16000000 in
theorem DiskTwins_calls (w : World) (cap at_ : Int) (A : Option Addr) (n c : Nat) (ys : List OpV) (h1 : -9223372036854775808 ≤ cap) (h2 : cap ≤ 9223372036854775807) (hY : RdO w A ys) (hn : n = ys.length) (hlen : ys.length ≤ 9223372036854775807) :
    Calls Try.prog 5 #[.int .i64 cap, .slice A n c, .int .i64 at_] w fun e w' => e = .returned (.bool true) ∧ New w w' := by
  subst hn
  have HI := Lib.hid hY
  clear hY
  go_enter Try.func5, Try.ntmps5
  go_wp2_with fail
  refine (begun_calls w cap h1 h2).mono ?_
  rintro e w1 ⟨d, F, cp, hcp, rfl, hD, hn1, hF⟩
  have H1 := Lib.hid (And.intro hD (And.intro hn1 hF))
  clear hD hn1 hF
  go_wp2_with fail
  refine (first_calls w1).mono ?_
  rintro e w2 ⟨rfl, n2⟩
  have H2 := Lib.hid (And.intro (H1.out.1.new n2) (H1.out.2.1.trans n2 (fun _ _ h => h) (fun _ _ h => h)))
  clear n2
  go_wp2_with fail
  go_loopw [9, 10] (fun tv i wr => ∃ (k : Nat) (s : DS) (G : List Nat), k ≤ ys.length ∧ i = .int .i64 (k : Int) ∧ Hid (DiskAt wr d s G ∧ New w wr ∧ (∀ j ∈ G, w.heap.size ≤ j) ∧ TwinAt w wr s G tv)) (fun _ i _ => ys.length - (intOf i).toNat)
  case atStart => exact ⟨0, DS.new cp, F, Nat.zero_le _, rfl, Lib.hid ⟨H2.out.1, H2.out.2, H1.out.2.2, TwinAt.no _ _ _ _⟩⟩
  case round =>
    obtain ⟨k, s, G, hk, rfl, HK⟩ := hrel
    have HB0 := Lib.hid (And.intro HK.out.1 (And.intro HK.out.2.1 HK.out.2.2.1))
    have htw := HK.out.2.2.2
    clear HK
    by_cases hgo : k < ys.length ∧ k < 400
    · obtain ⟨hlt, h400⟩ := hgo
      obtain ⟨y, hy⟩ : ∃ y, ys[k]? = some y := ⟨_, List.getElem?_eq_getElem hlt⟩
      have HM := Lib.hid (List.mem_of_getElem? hy)
      have hki : (k : Int) < (ys.length : Int) := by omega
      have hk0 : (0 : Int) ≤ k := by omega
      have hk4 : (k : Int) < 400 := by omega
      have hkd1 : decide (k < ys.length) = true := decide_eq_true hlt
      have hkd4 : decide (k < 400) = true := decide_eq_true h400
      rcases htw with rfl | ⟨u, E, rfl, ht⟩
      · by_cases hat : (k : Int) = at_
        · have hatd : ((k : Int) == at_) = true := by simpa using hat
          clear hat
          go_wp2_with fail
          refine (State_calls wr d s G HB0.out.1).mono ?_
          rintro e w1 ⟨A1, c1, zs, rfl, ho1, hz1, hf1, n1⟩
          have hfs := from_state HB0.out.1.ok hz1
          have hfb := from_bounds HB0.out.1.ok hz1
          have HF := Lib.hid (And.intro ho1.rd.toI (And.intro n1 (And.intro hfs hfb)))
          clear ho1 hz1 hf1 n1 hfs hfb
          go_wp2_with fail
          refine (From_calls w1 (s.cap : Int) s.fuse s.down A1 c1 zs.length (zs.map FV.fi) (by rw [List.length_map]) HF.out.1 HF.out.2.2.2.1 HF.out.2.2.2.2.1 HF.out.2.2.2.2.2).mono ?_
          rintro e wF hfp
          obtain ⟨un, En, rfl, hDu, n3, hE⟩ : ∃ un En, e = .returned (.tuple #[.pointer (some ⟨un, 0, none⟩), .int .i64 0]) ∧ DiskAt wF un s En ∧ New w1 wF ∧ ∀ j ∈ En, w1.heap.size ≤ j := by
            rcases hfp with ⟨_, un, En, he, hDu, n3, hE⟩ | ⟨hno, _⟩
            · exact ⟨un, En, he, HF.out.2.2.1.2 ▸ hDu, n3, hE⟩
            · exact absurd HF.out.2.2.1.1 hno
          clear hfp
          have z1 := HF.out.2.1.size
          have zr := HB0.out.2.1.size
          have nr3 : New wr wF := HF.out.2.1.trans n3 (fun _ _ h => h) (fun _ _ h => h)
          have HB := Lib.hid (And.intro (HB0.out.1.new nr3) (And.intro (HB0.out.2.1.trans nr3 (fun _ _ h => h) (fun _ _ h => h)) HB0.out.2.2))
          have HT := Lib.hid (And.intro hDu (And.intro (fun j hj => (by have := hE j hj; omega : w.heap.size ≤ j)) (fun j (hj : j ∈ G) hm => (by have h1 := hE j hm; have h2 := HB0.out.1.lt j hj; omega : False))))
          clear hDu n3 hE z1 zr nr3 HF
          obtain ⟨b, off, rfl, o0, o1, o2, o3, o4, o5, o6, o7, o8, o9, o10, o11⟩ := (HI.out.new HB.out.2.1).at_ hy
          have hyo := (HI.out.new HB.out.2.1).2 y (List.mem_of_getElem? hy)
          have HO0 := Lib.hid hyo
          clear hyo
          go_wp2_with fail
          refine (num_calls _ _).mono ?_
          rintro e x ⟨rfl, rfl⟩
          go_wp2_with fail
          obtain ⟨W1, hW1⟩ : ∃ W, wF.alloc (.cells #[.int .i64 y.disk, .int .i64 y.kind, .string (bstr y.name), .string (bstr y.to), .slice y.bA y.body.length y.bc, .int .i64 y.at_, .int .i64 y.n, .slice y.kA y.keep.length y.kc, .int .i64 y.cap, .slice y.fA y.fn y.fc, .int .i64 y.fuse, .bool y.down] 34) = W := ⟨_, rfl⟩
          rw [hW1]
          have nY : New wF W1 := hW1 ▸ Kp.alloc _ _ _
          have bY : W1.heap[wF.heap.size]? = some (.cells #[.int .i64 y.disk, .int .i64 y.kind, .string (bstr y.name), .string (bstr y.to), .slice y.bA y.body.length y.bc, .int .i64 y.at_, .int .i64 y.n, .slice y.kA y.keep.length y.kc, .int .i64 y.cap, .slice y.fA y.fn y.fc, .int .i64 y.fuse, .bool y.down] 34 (0, 0)) := hW1 ▸ heap_alloc_new wF _
          have HY := Lib.hid (And.intro nY bY)
          have HO := HO0
          clear o0 o1 o2 o3 o4 o5 o6 o7 o8 o9 o10 o11 nY bY hW1
          refine (isAct_calls _ _).mono ?_
          rintro e x ⟨rfl, rfl⟩
          by_cases hact : isAct y.kind = true
          · rw [hact]
            have p0 : W1.cell? ⟨wF.heap.size, 0, none⟩ = some (.int .i64 y.disk) := (cell_of_block HY.out.2).trans rfl
            have p1 : W1.cell? ⟨wF.heap.size, 1, none⟩ = some (.int .i64 y.kind) := (cell_of_block HY.out.2).trans rfl
            have p2 : W1.cell? ⟨wF.heap.size, 2, none⟩ = some (.string (bstr y.name)) := (cell_of_block HY.out.2).trans rfl
            have p3 : W1.cell? ⟨wF.heap.size, 3, none⟩ = some (.string (bstr y.to)) := (cell_of_block HY.out.2).trans rfl
            have p4 : W1.cell? ⟨wF.heap.size, 4, none⟩ = some (.slice y.bA y.body.length y.bc) := (cell_of_block HY.out.2).trans rfl
            have p5 : W1.cell? ⟨wF.heap.size, 5, none⟩ = some (.int .i64 y.at_) := (cell_of_block HY.out.2).trans rfl
            have p6 : W1.cell? ⟨wF.heap.size, 6, none⟩ = some (.int .i64 y.n) := (cell_of_block HY.out.2).trans rfl
            have p7 : W1.cell? ⟨wF.heap.size, 7, none⟩ = some (.slice y.kA y.keep.length y.kc) := (cell_of_block HY.out.2).trans rfl
            have p8 : W1.cell? ⟨wF.heap.size, 8, none⟩ = some (.int .i64 y.cap) := (cell_of_block HY.out.2).trans rfl
            have p9 : W1.cell? ⟨wF.heap.size, 9, none⟩ = some (.slice y.fA y.fn y.fc) := (cell_of_block HY.out.2).trans rfl
            have p10 : W1.cell? ⟨wF.heap.size, 10, none⟩ = some (.int .i64 y.fuse) := (cell_of_block HY.out.2).trans rfl
            have p11 : W1.cell? ⟨wF.heap.size, 11, none⟩ = some (.bool y.down) := (cell_of_block HY.out.2).trans rfl
            have HP := Lib.hid hact
            clear hact
            go_wp2_with fail
            clear p0 p1 p2 p3 p4 p5 p6 p7 p8 p9 p10 p11
            refine (acts_calls W1 d s G y (HB.out.1.new HY.out.1) (HO.out.new HY.out.1)).mono ?_
            rintro e w2 ⟨rfl, G', q1, q2⟩
            obtain ⟨rv, s2, hr⟩ : ∃ rv s2, y.act s = (rv, s2) := ⟨_, _, rfl⟩
            rw [hr] at q1 ⊢
            replace q1 : DiskAt w2 d s2 G' := q1
            have nn := New.mv (HB.out.2.1.trans HY.out.1 (fun _ _ h => h) (fun _ _ h => h)) HB.out.2.2 q2
            have hzY := HY.out.1.size
            have hlY : wF.heap.size < W1.heap.size := (Array.getElem?_eq_some_iff.1 HY.out.2).1
            have b2 := heap_kp HY.out.2 q2.1 (fun h => by have := HB.out.1.lt _ h; omega)
            have dt := (HT.out.1.new HY.out.1).kp q2.1 (fun j hj hm => HT.out.2.2 j hm hj)
            have dj : ∀ j ∈ G', j ∉ En := fun j hj hm => (q2.2 j hj).elim (fun h => HT.out.2.2 j h hm) (fun h => by have := HT.out.1.lt j hm; omega)
            have H2 := Lib.hid (And.intro q1 (And.intro nn (And.intro b2 (And.intro dt (And.intro dj (And.intro hr q2))))))
            clear q1 q2 nn b2 dt dj hr hzY hlY
            go_wp2_with fail
            refine (apart_calls w2 d un s En H2.out.2.2.2.1).mono ?_
            rintro e w3 ⟨rfl, n3⟩
            have b3 := heap_kp H2.out.2.2.1 n3 id
            have p0 : w3.cell? ⟨wF.heap.size, 0, none⟩ = some (.int .i64 y.disk) := (cell_of_block b3).trans rfl
            have p1 : w3.cell? ⟨wF.heap.size, 1, none⟩ = some (.int .i64 y.kind) := (cell_of_block b3).trans rfl
            have p2 : w3.cell? ⟨wF.heap.size, 2, none⟩ = some (.string (bstr y.name)) := (cell_of_block b3).trans rfl
            have p3 : w3.cell? ⟨wF.heap.size, 3, none⟩ = some (.string (bstr y.to)) := (cell_of_block b3).trans rfl
            have p4 : w3.cell? ⟨wF.heap.size, 4, none⟩ = some (.slice y.bA y.body.length y.bc) := (cell_of_block b3).trans rfl
            have p5 : w3.cell? ⟨wF.heap.size, 5, none⟩ = some (.int .i64 y.at_) := (cell_of_block b3).trans rfl
            have p6 : w3.cell? ⟨wF.heap.size, 6, none⟩ = some (.int .i64 y.n) := (cell_of_block b3).trans rfl
            have p7 : w3.cell? ⟨wF.heap.size, 7, none⟩ = some (.slice y.kA y.keep.length y.kc) := (cell_of_block b3).trans rfl
            have p8 : w3.cell? ⟨wF.heap.size, 8, none⟩ = some (.int .i64 y.cap) := (cell_of_block b3).trans rfl
            have p9 : w3.cell? ⟨wF.heap.size, 9, none⟩ = some (.slice y.fA y.fn y.fc) := (cell_of_block b3).trans rfl
            have p10 : w3.cell? ⟨wF.heap.size, 10, none⟩ = some (.int .i64 y.fuse) := (cell_of_block b3).trans rfl
            have p11 : w3.cell? ⟨wF.heap.size, 11, none⟩ = some (.bool y.down) := (cell_of_block b3).trans rfl
            have H3 := Lib.hid (And.intro n3 b3)
            clear n3 b3
            go_wp2_with fail
            clear p0 p1 p2 p3 p4 p5 p6 p7 p8 p9 p10 p11
            refine (acts_calls w3 un s En y (H2.out.2.2.2.1.new H3.out.1) ((HI.out.new (H2.out.2.1.1.trans H3.out.1 (fun _ _ h => h) (fun _ _ h => h))).2 y HM.out)).mono ?_
            rintro e w4 ⟨rfl, En', q1, q2⟩
            rw [H2.out.2.2.2.2.2.1] at q1 ⊢
            replace q1 : DiskAt w4 un s2 En' := q1
            have z3 := H3.out.1.size
            have dd := (H2.out.1.new H3.out.1).kp q2.1 (fun j hj hm => H2.out.2.2.2.2.1 j hj hm)
            have dj : ∀ j ∈ G', j ∉ En' := fun j hj hm => (q2.2 j hm).elim (fun h => H2.out.2.2.2.2.1 j hj h) (fun h => by have := H2.out.1.lt j hj; omega)
            have nn := New.mv (H2.out.2.1.1.trans H3.out.1 (fun _ _ h => h) (fun _ _ h => h)) HT.out.2.1 q2
            have H4 := Lib.hid (And.intro q1 (And.intro dd (And.intro dj nn)))
            clear q1 q2 z3 dd dj nn
            have hrr : (((rv : Nat) : Int) != ((rv : Nat) : Int)) = false := by simp
            go_wp2_with fail
            refine (State_calls w4 d s2 G' H4.out.2.1).mono ?_
            rintro e w5 ⟨A1, c1, zs, rfl, ho1, hz1, hf1, n5⟩
            have H5 := Lib.hid (And.intro ho1 (And.intro hz1 n5))
            clear ho1 hz1 hf1 n5
            go_wp2_with fail
            refine (State_calls w5 un s2 En' (H4.out.1.new H5.out.2.2)).mono ?_
            rintro e w6 ⟨A2, c2, xs, rfl, ho2, hz2, hf2, n6⟩
            have H6 := Lib.hid (And.intro ho2 (And.intro hz2 n6))
            have e12 : zs.map FV.f = xs.map FV.f := H5.out.2.1.trans hz2.symm
            have el : xs.length = zs.length := by have := congrArg List.length e12; simpa using this.symm
            have H12 := Lib.hid (And.intro e12 el)
            have hz64 : zs.length ≤ 64 := by have h1 := congrArg List.length H5.out.2.1; rw [List.length_map] at h1; have := H4.out.2.1.ok.few; omega
            clear ho2 hz2 hf2 n6 e12 el
            go_wp2_with fail
            refine (Same_calls w6 (s2.cap : Int) s2.fuse s2.down A1 A2 zs.length xs.length c1 c2 zs xs (H5.out.1.rd.new H6.out.2.2) H6.out.1.rd H12.out.1 rfl H12.out.2 (by omega)).mono ?_
            rintro e w7 ⟨rfl, n7⟩
            have n47 : New w4 w7 := (H5.out.2.2.trans H6.out.2.2 (fun _ _ h => h) (fun _ _ h => h)).trans n7 (fun _ _ h => h) (fun _ _ h => h)
            have H7 := Lib.hid n47
            clear n7 n47
            go_wp2_with fail
            exact ⟨⟨k + 1, s2, G', by omega, by go_num, Lib.hid ⟨H4.out.2.1.new H7.out, H4.out.2.2.2.1.trans H7.out (fun _ _ h => h) (fun _ _ h => h), H2.out.2.1.2, TwinAt.yes (H4.out.1.new H7.out) H4.out.2.2.2.2 H4.out.2.2.1⟩⟩, by simp [intOf]; omega⟩
          · have hact' : isAct y.kind = false := by simpa using hact
            rw [hact']
            clear hact hact'
            go_wp2_with fail
            exact ⟨⟨k + 1, s, G, by omega, by go_num, Lib.hid ⟨HB.out.1.new HY.out.1, HB.out.2.1.trans HY.out.1 (fun _ _ h => h) (fun _ _ h => h), HB.out.2.2, TwinAt.yes (HT.out.1.new HY.out.1) HT.out.2.1 HT.out.2.2⟩⟩, by simp [intOf]; omega⟩
        · have hatd : ((k : Int) == at_) = false := by simpa using hat
          by_cases hhf : k = ys.length / 2
          · have hhd : ((k : Int) == (ys.length : Int) / 2) = true := by rw [beq_iff_eq]; omega
            clear hat hhf
            go_wp2_with fail
            refine (State_calls wr d s G HB0.out.1).mono ?_
            rintro e w1 ⟨A1, c1, zs, rfl, ho1, hz1, hf1, n1⟩
            have hfs := from_state HB0.out.1.ok hz1
            have hfb := from_bounds HB0.out.1.ok hz1
            have HF := Lib.hid (And.intro ho1.rd.toI (And.intro n1 (And.intro hfs hfb)))
            clear ho1 hz1 hf1 n1 hfs hfb
            go_wp2_with fail
            refine (From_calls w1 (s.cap : Int) s.fuse s.down A1 c1 zs.length (zs.map FV.fi) (by rw [List.length_map]) HF.out.1 HF.out.2.2.2.1 HF.out.2.2.2.2.1 HF.out.2.2.2.2.2).mono ?_
            rintro e wF hfp
            obtain ⟨un, En, rfl, hDu, n3, hE⟩ : ∃ un En, e = .returned (.tuple #[.pointer (some ⟨un, 0, none⟩), .int .i64 0]) ∧ DiskAt wF un s En ∧ New w1 wF ∧ ∀ j ∈ En, w1.heap.size ≤ j := by
              rcases hfp with ⟨_, un, En, he, hDu, n3, hE⟩ | ⟨hno, _⟩
              · exact ⟨un, En, he, HF.out.2.2.1.2 ▸ hDu, n3, hE⟩
              · exact absurd HF.out.2.2.1.1 hno
            clear hfp
            have z1 := HF.out.2.1.size
            have zr := HB0.out.2.1.size
            have nr3 : New wr wF := HF.out.2.1.trans n3 (fun _ _ h => h) (fun _ _ h => h)
            have HB := Lib.hid (And.intro (HB0.out.1.new nr3) (And.intro (HB0.out.2.1.trans nr3 (fun _ _ h => h) (fun _ _ h => h)) HB0.out.2.2))
            have HT := Lib.hid (And.intro hDu (And.intro (fun j hj => (by have := hE j hj; omega : w.heap.size ≤ j)) (fun j (hj : j ∈ G) hm => (by have h1 := hE j hm; have h2 := HB0.out.1.lt j hj; omega : False))))
            clear hDu n3 hE z1 zr nr3 HF
            obtain ⟨b, off, rfl, o0, o1, o2, o3, o4, o5, o6, o7, o8, o9, o10, o11⟩ := (HI.out.new HB.out.2.1).at_ hy
            have hyo := (HI.out.new HB.out.2.1).2 y (List.mem_of_getElem? hy)
            have HO0 := Lib.hid hyo
            clear hyo
            go_wp2_with fail
            refine (num_calls _ _).mono ?_
            rintro e x ⟨rfl, rfl⟩
            go_wp2_with fail
            obtain ⟨W1, hW1⟩ : ∃ W, wF.alloc (.cells #[.int .i64 y.disk, .int .i64 y.kind, .string (bstr y.name), .string (bstr y.to), .slice y.bA y.body.length y.bc, .int .i64 y.at_, .int .i64 y.n, .slice y.kA y.keep.length y.kc, .int .i64 y.cap, .slice y.fA y.fn y.fc, .int .i64 y.fuse, .bool y.down] 34) = W := ⟨_, rfl⟩
            rw [hW1]
            have nY : New wF W1 := hW1 ▸ Kp.alloc _ _ _
            have bY : W1.heap[wF.heap.size]? = some (.cells #[.int .i64 y.disk, .int .i64 y.kind, .string (bstr y.name), .string (bstr y.to), .slice y.bA y.body.length y.bc, .int .i64 y.at_, .int .i64 y.n, .slice y.kA y.keep.length y.kc, .int .i64 y.cap, .slice y.fA y.fn y.fc, .int .i64 y.fuse, .bool y.down] 34 (0, 0)) := hW1 ▸ heap_alloc_new wF _
            have HY := Lib.hid (And.intro nY bY)
            have HO := HO0
            clear o0 o1 o2 o3 o4 o5 o6 o7 o8 o9 o10 o11 nY bY hW1
            refine (isAct_calls _ _).mono ?_
            rintro e x ⟨rfl, rfl⟩
            by_cases hact : isAct y.kind = true
            · rw [hact]
              have p0 : W1.cell? ⟨wF.heap.size, 0, none⟩ = some (.int .i64 y.disk) := (cell_of_block HY.out.2).trans rfl
              have p1 : W1.cell? ⟨wF.heap.size, 1, none⟩ = some (.int .i64 y.kind) := (cell_of_block HY.out.2).trans rfl
              have p2 : W1.cell? ⟨wF.heap.size, 2, none⟩ = some (.string (bstr y.name)) := (cell_of_block HY.out.2).trans rfl
              have p3 : W1.cell? ⟨wF.heap.size, 3, none⟩ = some (.string (bstr y.to)) := (cell_of_block HY.out.2).trans rfl
              have p4 : W1.cell? ⟨wF.heap.size, 4, none⟩ = some (.slice y.bA y.body.length y.bc) := (cell_of_block HY.out.2).trans rfl
              have p5 : W1.cell? ⟨wF.heap.size, 5, none⟩ = some (.int .i64 y.at_) := (cell_of_block HY.out.2).trans rfl
              have p6 : W1.cell? ⟨wF.heap.size, 6, none⟩ = some (.int .i64 y.n) := (cell_of_block HY.out.2).trans rfl
              have p7 : W1.cell? ⟨wF.heap.size, 7, none⟩ = some (.slice y.kA y.keep.length y.kc) := (cell_of_block HY.out.2).trans rfl
              have p8 : W1.cell? ⟨wF.heap.size, 8, none⟩ = some (.int .i64 y.cap) := (cell_of_block HY.out.2).trans rfl
              have p9 : W1.cell? ⟨wF.heap.size, 9, none⟩ = some (.slice y.fA y.fn y.fc) := (cell_of_block HY.out.2).trans rfl
              have p10 : W1.cell? ⟨wF.heap.size, 10, none⟩ = some (.int .i64 y.fuse) := (cell_of_block HY.out.2).trans rfl
              have p11 : W1.cell? ⟨wF.heap.size, 11, none⟩ = some (.bool y.down) := (cell_of_block HY.out.2).trans rfl
              have HP := Lib.hid hact
              clear hact
              go_wp2_with fail
              clear p0 p1 p2 p3 p4 p5 p6 p7 p8 p9 p10 p11
              refine (acts_calls W1 d s G y (HB.out.1.new HY.out.1) (HO.out.new HY.out.1)).mono ?_
              rintro e w2 ⟨rfl, G', q1, q2⟩
              obtain ⟨rv, s2, hr⟩ : ∃ rv s2, y.act s = (rv, s2) := ⟨_, _, rfl⟩
              rw [hr] at q1 ⊢
              replace q1 : DiskAt w2 d s2 G' := q1
              have nn := New.mv (HB.out.2.1.trans HY.out.1 (fun _ _ h => h) (fun _ _ h => h)) HB.out.2.2 q2
              have hzY := HY.out.1.size
              have hlY : wF.heap.size < W1.heap.size := (Array.getElem?_eq_some_iff.1 HY.out.2).1
              have b2 := heap_kp HY.out.2 q2.1 (fun h => by have := HB.out.1.lt _ h; omega)
              have dt := (HT.out.1.new HY.out.1).kp q2.1 (fun j hj hm => HT.out.2.2 j hm hj)
              have dj : ∀ j ∈ G', j ∉ En := fun j hj hm => (q2.2 j hj).elim (fun h => HT.out.2.2 j h hm) (fun h => by have := HT.out.1.lt j hm; omega)
              have H2 := Lib.hid (And.intro q1 (And.intro nn (And.intro b2 (And.intro dt (And.intro dj (And.intro hr q2))))))
              clear q1 q2 nn b2 dt dj hr hzY hlY
              go_wp2_with fail
              refine (apart_calls w2 d un s En H2.out.2.2.2.1).mono ?_
              rintro e w3 ⟨rfl, n3⟩
              have b3 := heap_kp H2.out.2.2.1 n3 id
              have p0 : w3.cell? ⟨wF.heap.size, 0, none⟩ = some (.int .i64 y.disk) := (cell_of_block b3).trans rfl
              have p1 : w3.cell? ⟨wF.heap.size, 1, none⟩ = some (.int .i64 y.kind) := (cell_of_block b3).trans rfl
              have p2 : w3.cell? ⟨wF.heap.size, 2, none⟩ = some (.string (bstr y.name)) := (cell_of_block b3).trans rfl
              have p3 : w3.cell? ⟨wF.heap.size, 3, none⟩ = some (.string (bstr y.to)) := (cell_of_block b3).trans rfl
              have p4 : w3.cell? ⟨wF.heap.size, 4, none⟩ = some (.slice y.bA y.body.length y.bc) := (cell_of_block b3).trans rfl
              have p5 : w3.cell? ⟨wF.heap.size, 5, none⟩ = some (.int .i64 y.at_) := (cell_of_block b3).trans rfl
              have p6 : w3.cell? ⟨wF.heap.size, 6, none⟩ = some (.int .i64 y.n) := (cell_of_block b3).trans rfl
              have p7 : w3.cell? ⟨wF.heap.size, 7, none⟩ = some (.slice y.kA y.keep.length y.kc) := (cell_of_block b3).trans rfl
              have p8 : w3.cell? ⟨wF.heap.size, 8, none⟩ = some (.int .i64 y.cap) := (cell_of_block b3).trans rfl
              have p9 : w3.cell? ⟨wF.heap.size, 9, none⟩ = some (.slice y.fA y.fn y.fc) := (cell_of_block b3).trans rfl
              have p10 : w3.cell? ⟨wF.heap.size, 10, none⟩ = some (.int .i64 y.fuse) := (cell_of_block b3).trans rfl
              have p11 : w3.cell? ⟨wF.heap.size, 11, none⟩ = some (.bool y.down) := (cell_of_block b3).trans rfl
              have H3 := Lib.hid (And.intro n3 b3)
              clear n3 b3
              go_wp2_with fail
              clear p0 p1 p2 p3 p4 p5 p6 p7 p8 p9 p10 p11
              refine (acts_calls w3 un s En y (H2.out.2.2.2.1.new H3.out.1) ((HI.out.new (H2.out.2.1.1.trans H3.out.1 (fun _ _ h => h) (fun _ _ h => h))).2 y HM.out)).mono ?_
              rintro e w4 ⟨rfl, En', q1, q2⟩
              rw [H2.out.2.2.2.2.2.1] at q1 ⊢
              replace q1 : DiskAt w4 un s2 En' := q1
              have z3 := H3.out.1.size
              have dd := (H2.out.1.new H3.out.1).kp q2.1 (fun j hj hm => H2.out.2.2.2.2.1 j hj hm)
              have dj : ∀ j ∈ G', j ∉ En' := fun j hj hm => (q2.2 j hm).elim (fun h => H2.out.2.2.2.2.1 j hj h) (fun h => by have := H2.out.1.lt j hj; omega)
              have nn := New.mv (H2.out.2.1.1.trans H3.out.1 (fun _ _ h => h) (fun _ _ h => h)) HT.out.2.1 q2
              have H4 := Lib.hid (And.intro q1 (And.intro dd (And.intro dj nn)))
              clear q1 q2 z3 dd dj nn
              have hrr : (((rv : Nat) : Int) != ((rv : Nat) : Int)) = false := by simp
              go_wp2_with fail
              refine (State_calls w4 d s2 G' H4.out.2.1).mono ?_
              rintro e w5 ⟨A1, c1, zs, rfl, ho1, hz1, hf1, n5⟩
              have H5 := Lib.hid (And.intro ho1 (And.intro hz1 n5))
              clear ho1 hz1 hf1 n5
              go_wp2_with fail
              refine (State_calls w5 un s2 En' (H4.out.1.new H5.out.2.2)).mono ?_
              rintro e w6 ⟨A2, c2, xs, rfl, ho2, hz2, hf2, n6⟩
              have H6 := Lib.hid (And.intro ho2 (And.intro hz2 n6))
              have e12 : zs.map FV.f = xs.map FV.f := H5.out.2.1.trans hz2.symm
              have el : xs.length = zs.length := by have := congrArg List.length e12; simpa using this.symm
              have H12 := Lib.hid (And.intro e12 el)
              have hz64 : zs.length ≤ 64 := by have h1 := congrArg List.length H5.out.2.1; rw [List.length_map] at h1; have := H4.out.2.1.ok.few; omega
              clear ho2 hz2 hf2 n6 e12 el
              go_wp2_with fail
              refine (Same_calls w6 (s2.cap : Int) s2.fuse s2.down A1 A2 zs.length xs.length c1 c2 zs xs (H5.out.1.rd.new H6.out.2.2) H6.out.1.rd H12.out.1 rfl H12.out.2 (by omega)).mono ?_
              rintro e w7 ⟨rfl, n7⟩
              have n47 : New w4 w7 := (H5.out.2.2.trans H6.out.2.2 (fun _ _ h => h) (fun _ _ h => h)).trans n7 (fun _ _ h => h) (fun _ _ h => h)
              have H7 := Lib.hid n47
              clear n7 n47
              go_wp2_with fail
              exact ⟨⟨k + 1, s2, G', by omega, by go_num, Lib.hid ⟨H4.out.2.1.new H7.out, H4.out.2.2.2.1.trans H7.out (fun _ _ h => h) (fun _ _ h => h), H2.out.2.1.2, TwinAt.yes (H4.out.1.new H7.out) H4.out.2.2.2.2 H4.out.2.2.1⟩⟩, by simp [intOf]; omega⟩
            · have hact' : isAct y.kind = false := by simpa using hact
              rw [hact']
              clear hact hact'
              go_wp2_with fail
              exact ⟨⟨k + 1, s, G, by omega, by go_num, Lib.hid ⟨HB.out.1.new HY.out.1, HB.out.2.1.trans HY.out.1 (fun _ _ h => h) (fun _ _ h => h), HB.out.2.2, TwinAt.yes (HT.out.1.new HY.out.1) HT.out.2.1 HT.out.2.2⟩⟩, by simp [intOf]; omega⟩
          · have hhd : ((k : Int) == (ys.length : Int) / 2) = false := by rw [beq_eq_false_iff_ne]; omega
            clear hat hhf
            have HB := HB0
            obtain ⟨b, off, rfl, o0, o1, o2, o3, o4, o5, o6, o7, o8, o9, o10, o11⟩ := (HI.out.new HB.out.2.1).at_ hy
            have hyo := (HI.out.new HB.out.2.1).2 y (List.mem_of_getElem? hy)
            have HO0 := Lib.hid hyo
            clear hyo
            go_wp2_with fail
            obtain ⟨W1, hW1⟩ : ∃ W, wr.alloc (.cells #[.int .i64 y.disk, .int .i64 y.kind, .string (bstr y.name), .string (bstr y.to), .slice y.bA y.body.length y.bc, .int .i64 y.at_, .int .i64 y.n, .slice y.kA y.keep.length y.kc, .int .i64 y.cap, .slice y.fA y.fn y.fc, .int .i64 y.fuse, .bool y.down] 34) = W := ⟨_, rfl⟩
            rw [hW1]
            have nY : New wr W1 := hW1 ▸ Kp.alloc _ _ _
            have bY : W1.heap[wr.heap.size]? = some (.cells #[.int .i64 y.disk, .int .i64 y.kind, .string (bstr y.name), .string (bstr y.to), .slice y.bA y.body.length y.bc, .int .i64 y.at_, .int .i64 y.n, .slice y.kA y.keep.length y.kc, .int .i64 y.cap, .slice y.fA y.fn y.fc, .int .i64 y.fuse, .bool y.down] 34 (0, 0)) := hW1 ▸ heap_alloc_new wr _
            have HY := Lib.hid (And.intro nY bY)
            have HO := HO0
            clear o0 o1 o2 o3 o4 o5 o6 o7 o8 o9 o10 o11 nY bY hW1
            refine (isAct_calls _ _).mono ?_
            rintro e x ⟨rfl, rfl⟩
            by_cases hact : isAct y.kind = true
            · rw [hact]
              have p0 : W1.cell? ⟨wr.heap.size, 0, none⟩ = some (.int .i64 y.disk) := (cell_of_block HY.out.2).trans rfl
              have p1 : W1.cell? ⟨wr.heap.size, 1, none⟩ = some (.int .i64 y.kind) := (cell_of_block HY.out.2).trans rfl
              have p2 : W1.cell? ⟨wr.heap.size, 2, none⟩ = some (.string (bstr y.name)) := (cell_of_block HY.out.2).trans rfl
              have p3 : W1.cell? ⟨wr.heap.size, 3, none⟩ = some (.string (bstr y.to)) := (cell_of_block HY.out.2).trans rfl
              have p4 : W1.cell? ⟨wr.heap.size, 4, none⟩ = some (.slice y.bA y.body.length y.bc) := (cell_of_block HY.out.2).trans rfl
              have p5 : W1.cell? ⟨wr.heap.size, 5, none⟩ = some (.int .i64 y.at_) := (cell_of_block HY.out.2).trans rfl
              have p6 : W1.cell? ⟨wr.heap.size, 6, none⟩ = some (.int .i64 y.n) := (cell_of_block HY.out.2).trans rfl
              have p7 : W1.cell? ⟨wr.heap.size, 7, none⟩ = some (.slice y.kA y.keep.length y.kc) := (cell_of_block HY.out.2).trans rfl
              have p8 : W1.cell? ⟨wr.heap.size, 8, none⟩ = some (.int .i64 y.cap) := (cell_of_block HY.out.2).trans rfl
              have p9 : W1.cell? ⟨wr.heap.size, 9, none⟩ = some (.slice y.fA y.fn y.fc) := (cell_of_block HY.out.2).trans rfl
              have p10 : W1.cell? ⟨wr.heap.size, 10, none⟩ = some (.int .i64 y.fuse) := (cell_of_block HY.out.2).trans rfl
              have p11 : W1.cell? ⟨wr.heap.size, 11, none⟩ = some (.bool y.down) := (cell_of_block HY.out.2).trans rfl
              have HP := Lib.hid hact
              clear hact
              go_wp2_with fail
              clear p0 p1 p2 p3 p4 p5 p6 p7 p8 p9 p10 p11
              refine (acts_calls W1 d s G y (HB.out.1.new HY.out.1) (HO.out.new HY.out.1)).mono ?_
              rintro e w2 ⟨rfl, G', q1, q2⟩
              obtain ⟨rv, s2, hr⟩ : ∃ rv s2, y.act s = (rv, s2) := ⟨_, _, rfl⟩
              rw [hr] at q1 ⊢
              replace q1 : DiskAt w2 d s2 G' := q1
              have nn := New.mv (HB.out.2.1.trans HY.out.1 (fun _ _ h => h) (fun _ _ h => h)) HB.out.2.2 q2
              have H2 := Lib.hid (And.intro q1 nn)
              clear q1 q2 nn hr
              go_wp2_with fail
              exact ⟨⟨k + 1, s2, G', by omega, by go_num, Lib.hid ⟨H2.out.1, H2.out.2.1, H2.out.2.2, TwinAt.no _ _ _ _⟩⟩, by simp [intOf]; omega⟩
            · have hact' : isAct y.kind = false := by simpa using hact
              rw [hact']
              clear hact hact'
              go_wp2_with fail
              exact ⟨⟨k + 1, s, G, by omega, by go_num, Lib.hid ⟨HB.out.1.new HY.out.1, HB.out.2.1.trans HY.out.1 (fun _ _ h => h) (fun _ _ h => h), HB.out.2.2, TwinAt.no _ _ _ _⟩⟩, by simp [intOf]; omega⟩
      · have HT0 := Lib.hid ht
        clear ht
        by_cases hat : (k : Int) = at_
        · have hatd : ((k : Int) == at_) = true := by simpa using hat
          clear hat HT0
          go_wp2_with fail
          refine (State_calls wr d s G HB0.out.1).mono ?_
          rintro e w1 ⟨A1, c1, zs, rfl, ho1, hz1, hf1, n1⟩
          have hfs := from_state HB0.out.1.ok hz1
          have hfb := from_bounds HB0.out.1.ok hz1
          have HF := Lib.hid (And.intro ho1.rd.toI (And.intro n1 (And.intro hfs hfb)))
          clear ho1 hz1 hf1 n1 hfs hfb
          go_wp2_with fail
          refine (From_calls w1 (s.cap : Int) s.fuse s.down A1 c1 zs.length (zs.map FV.fi) (by rw [List.length_map]) HF.out.1 HF.out.2.2.2.1 HF.out.2.2.2.2.1 HF.out.2.2.2.2.2).mono ?_
          rintro e wF hfp
          obtain ⟨un, En, rfl, hDu, n3, hE⟩ : ∃ un En, e = .returned (.tuple #[.pointer (some ⟨un, 0, none⟩), .int .i64 0]) ∧ DiskAt wF un s En ∧ New w1 wF ∧ ∀ j ∈ En, w1.heap.size ≤ j := by
            rcases hfp with ⟨_, un, En, he, hDu, n3, hE⟩ | ⟨hno, _⟩
            · exact ⟨un, En, he, HF.out.2.2.1.2 ▸ hDu, n3, hE⟩
            · exact absurd HF.out.2.2.1.1 hno
          clear hfp
          have z1 := HF.out.2.1.size
          have zr := HB0.out.2.1.size
          have nr3 : New wr wF := HF.out.2.1.trans n3 (fun _ _ h => h) (fun _ _ h => h)
          have HB := Lib.hid (And.intro (HB0.out.1.new nr3) (And.intro (HB0.out.2.1.trans nr3 (fun _ _ h => h) (fun _ _ h => h)) HB0.out.2.2))
          have HT := Lib.hid (And.intro hDu (And.intro (fun j hj => (by have := hE j hj; omega : w.heap.size ≤ j)) (fun j (hj : j ∈ G) hm => (by have h1 := hE j hm; have h2 := HB0.out.1.lt j hj; omega : False))))
          clear hDu n3 hE z1 zr nr3 HF
          obtain ⟨b, off, rfl, o0, o1, o2, o3, o4, o5, o6, o7, o8, o9, o10, o11⟩ := (HI.out.new HB.out.2.1).at_ hy
          have hyo := (HI.out.new HB.out.2.1).2 y (List.mem_of_getElem? hy)
          have HO0 := Lib.hid hyo
          clear hyo
          go_wp2_with fail
          refine (num_calls _ _).mono ?_
          rintro e x ⟨rfl, rfl⟩
          go_wp2_with fail
          obtain ⟨W1, hW1⟩ : ∃ W, wF.alloc (.cells #[.int .i64 y.disk, .int .i64 y.kind, .string (bstr y.name), .string (bstr y.to), .slice y.bA y.body.length y.bc, .int .i64 y.at_, .int .i64 y.n, .slice y.kA y.keep.length y.kc, .int .i64 y.cap, .slice y.fA y.fn y.fc, .int .i64 y.fuse, .bool y.down] 34) = W := ⟨_, rfl⟩
          rw [hW1]
          have nY : New wF W1 := hW1 ▸ Kp.alloc _ _ _
          have bY : W1.heap[wF.heap.size]? = some (.cells #[.int .i64 y.disk, .int .i64 y.kind, .string (bstr y.name), .string (bstr y.to), .slice y.bA y.body.length y.bc, .int .i64 y.at_, .int .i64 y.n, .slice y.kA y.keep.length y.kc, .int .i64 y.cap, .slice y.fA y.fn y.fc, .int .i64 y.fuse, .bool y.down] 34 (0, 0)) := hW1 ▸ heap_alloc_new wF _
          have HY := Lib.hid (And.intro nY bY)
          have HO := HO0
          clear o0 o1 o2 o3 o4 o5 o6 o7 o8 o9 o10 o11 nY bY hW1
          refine (isAct_calls _ _).mono ?_
          rintro e x ⟨rfl, rfl⟩
          by_cases hact : isAct y.kind = true
          · rw [hact]
            have p0 : W1.cell? ⟨wF.heap.size, 0, none⟩ = some (.int .i64 y.disk) := (cell_of_block HY.out.2).trans rfl
            have p1 : W1.cell? ⟨wF.heap.size, 1, none⟩ = some (.int .i64 y.kind) := (cell_of_block HY.out.2).trans rfl
            have p2 : W1.cell? ⟨wF.heap.size, 2, none⟩ = some (.string (bstr y.name)) := (cell_of_block HY.out.2).trans rfl
            have p3 : W1.cell? ⟨wF.heap.size, 3, none⟩ = some (.string (bstr y.to)) := (cell_of_block HY.out.2).trans rfl
            have p4 : W1.cell? ⟨wF.heap.size, 4, none⟩ = some (.slice y.bA y.body.length y.bc) := (cell_of_block HY.out.2).trans rfl
            have p5 : W1.cell? ⟨wF.heap.size, 5, none⟩ = some (.int .i64 y.at_) := (cell_of_block HY.out.2).trans rfl
            have p6 : W1.cell? ⟨wF.heap.size, 6, none⟩ = some (.int .i64 y.n) := (cell_of_block HY.out.2).trans rfl
            have p7 : W1.cell? ⟨wF.heap.size, 7, none⟩ = some (.slice y.kA y.keep.length y.kc) := (cell_of_block HY.out.2).trans rfl
            have p8 : W1.cell? ⟨wF.heap.size, 8, none⟩ = some (.int .i64 y.cap) := (cell_of_block HY.out.2).trans rfl
            have p9 : W1.cell? ⟨wF.heap.size, 9, none⟩ = some (.slice y.fA y.fn y.fc) := (cell_of_block HY.out.2).trans rfl
            have p10 : W1.cell? ⟨wF.heap.size, 10, none⟩ = some (.int .i64 y.fuse) := (cell_of_block HY.out.2).trans rfl
            have p11 : W1.cell? ⟨wF.heap.size, 11, none⟩ = some (.bool y.down) := (cell_of_block HY.out.2).trans rfl
            have HP := Lib.hid hact
            clear hact
            go_wp2_with fail
            clear p0 p1 p2 p3 p4 p5 p6 p7 p8 p9 p10 p11
            refine (acts_calls W1 d s G y (HB.out.1.new HY.out.1) (HO.out.new HY.out.1)).mono ?_
            rintro e w2 ⟨rfl, G', q1, q2⟩
            obtain ⟨rv, s2, hr⟩ : ∃ rv s2, y.act s = (rv, s2) := ⟨_, _, rfl⟩
            rw [hr] at q1 ⊢
            replace q1 : DiskAt w2 d s2 G' := q1
            have nn := New.mv (HB.out.2.1.trans HY.out.1 (fun _ _ h => h) (fun _ _ h => h)) HB.out.2.2 q2
            have hzY := HY.out.1.size
            have hlY : wF.heap.size < W1.heap.size := (Array.getElem?_eq_some_iff.1 HY.out.2).1
            have b2 := heap_kp HY.out.2 q2.1 (fun h => by have := HB.out.1.lt _ h; omega)
            have dt := (HT.out.1.new HY.out.1).kp q2.1 (fun j hj hm => HT.out.2.2 j hm hj)
            have dj : ∀ j ∈ G', j ∉ En := fun j hj hm => (q2.2 j hj).elim (fun h => HT.out.2.2 j h hm) (fun h => by have := HT.out.1.lt j hm; omega)
            have H2 := Lib.hid (And.intro q1 (And.intro nn (And.intro b2 (And.intro dt (And.intro dj (And.intro hr q2))))))
            clear q1 q2 nn b2 dt dj hr hzY hlY
            go_wp2_with fail
            refine (apart_calls w2 d un s En H2.out.2.2.2.1).mono ?_
            rintro e w3 ⟨rfl, n3⟩
            have b3 := heap_kp H2.out.2.2.1 n3 id
            have p0 : w3.cell? ⟨wF.heap.size, 0, none⟩ = some (.int .i64 y.disk) := (cell_of_block b3).trans rfl
            have p1 : w3.cell? ⟨wF.heap.size, 1, none⟩ = some (.int .i64 y.kind) := (cell_of_block b3).trans rfl
            have p2 : w3.cell? ⟨wF.heap.size, 2, none⟩ = some (.string (bstr y.name)) := (cell_of_block b3).trans rfl
            have p3 : w3.cell? ⟨wF.heap.size, 3, none⟩ = some (.string (bstr y.to)) := (cell_of_block b3).trans rfl
            have p4 : w3.cell? ⟨wF.heap.size, 4, none⟩ = some (.slice y.bA y.body.length y.bc) := (cell_of_block b3).trans rfl
            have p5 : w3.cell? ⟨wF.heap.size, 5, none⟩ = some (.int .i64 y.at_) := (cell_of_block b3).trans rfl
            have p6 : w3.cell? ⟨wF.heap.size, 6, none⟩ = some (.int .i64 y.n) := (cell_of_block b3).trans rfl
            have p7 : w3.cell? ⟨wF.heap.size, 7, none⟩ = some (.slice y.kA y.keep.length y.kc) := (cell_of_block b3).trans rfl
            have p8 : w3.cell? ⟨wF.heap.size, 8, none⟩ = some (.int .i64 y.cap) := (cell_of_block b3).trans rfl
            have p9 : w3.cell? ⟨wF.heap.size, 9, none⟩ = some (.slice y.fA y.fn y.fc) := (cell_of_block b3).trans rfl
            have p10 : w3.cell? ⟨wF.heap.size, 10, none⟩ = some (.int .i64 y.fuse) := (cell_of_block b3).trans rfl
            have p11 : w3.cell? ⟨wF.heap.size, 11, none⟩ = some (.bool y.down) := (cell_of_block b3).trans rfl
            have H3 := Lib.hid (And.intro n3 b3)
            clear n3 b3
            go_wp2_with fail
            clear p0 p1 p2 p3 p4 p5 p6 p7 p8 p9 p10 p11
            refine (acts_calls w3 un s En y (H2.out.2.2.2.1.new H3.out.1) ((HI.out.new (H2.out.2.1.1.trans H3.out.1 (fun _ _ h => h) (fun _ _ h => h))).2 y HM.out)).mono ?_
            rintro e w4 ⟨rfl, En', q1, q2⟩
            rw [H2.out.2.2.2.2.2.1] at q1 ⊢
            replace q1 : DiskAt w4 un s2 En' := q1
            have z3 := H3.out.1.size
            have dd := (H2.out.1.new H3.out.1).kp q2.1 (fun j hj hm => H2.out.2.2.2.2.1 j hj hm)
            have dj : ∀ j ∈ G', j ∉ En' := fun j hj hm => (q2.2 j hm).elim (fun h => H2.out.2.2.2.2.1 j hj h) (fun h => by have := H2.out.1.lt j hj; omega)
            have nn := New.mv (H2.out.2.1.1.trans H3.out.1 (fun _ _ h => h) (fun _ _ h => h)) HT.out.2.1 q2
            have H4 := Lib.hid (And.intro q1 (And.intro dd (And.intro dj nn)))
            clear q1 q2 z3 dd dj nn
            have hrr : (((rv : Nat) : Int) != ((rv : Nat) : Int)) = false := by simp
            go_wp2_with fail
            refine (State_calls w4 d s2 G' H4.out.2.1).mono ?_
            rintro e w5 ⟨A1, c1, zs, rfl, ho1, hz1, hf1, n5⟩
            have H5 := Lib.hid (And.intro ho1 (And.intro hz1 n5))
            clear ho1 hz1 hf1 n5
            go_wp2_with fail
            refine (State_calls w5 un s2 En' (H4.out.1.new H5.out.2.2)).mono ?_
            rintro e w6 ⟨A2, c2, xs, rfl, ho2, hz2, hf2, n6⟩
            have H6 := Lib.hid (And.intro ho2 (And.intro hz2 n6))
            have e12 : zs.map FV.f = xs.map FV.f := H5.out.2.1.trans hz2.symm
            have el : xs.length = zs.length := by have := congrArg List.length e12; simpa using this.symm
            have H12 := Lib.hid (And.intro e12 el)
            have hz64 : zs.length ≤ 64 := by have h1 := congrArg List.length H5.out.2.1; rw [List.length_map] at h1; have := H4.out.2.1.ok.few; omega
            clear ho2 hz2 hf2 n6 e12 el
            go_wp2_with fail
            refine (Same_calls w6 (s2.cap : Int) s2.fuse s2.down A1 A2 zs.length xs.length c1 c2 zs xs (H5.out.1.rd.new H6.out.2.2) H6.out.1.rd H12.out.1 rfl H12.out.2 (by omega)).mono ?_
            rintro e w7 ⟨rfl, n7⟩
            have n47 : New w4 w7 := (H5.out.2.2.trans H6.out.2.2 (fun _ _ h => h) (fun _ _ h => h)).trans n7 (fun _ _ h => h) (fun _ _ h => h)
            have H7 := Lib.hid n47
            clear n7 n47
            go_wp2_with fail
            exact ⟨⟨k + 1, s2, G', by omega, by go_num, Lib.hid ⟨H4.out.2.1.new H7.out, H4.out.2.2.2.1.trans H7.out (fun _ _ h => h) (fun _ _ h => h), H2.out.2.1.2, TwinAt.yes (H4.out.1.new H7.out) H4.out.2.2.2.2 H4.out.2.2.1⟩⟩, by simp [intOf]; omega⟩
          · have hact' : isAct y.kind = false := by simpa using hact
            rw [hact']
            clear hact hact'
            go_wp2_with fail
            exact ⟨⟨k + 1, s, G, by omega, by go_num, Lib.hid ⟨HB.out.1.new HY.out.1, HB.out.2.1.trans HY.out.1 (fun _ _ h => h) (fun _ _ h => h), HB.out.2.2, TwinAt.yes (HT.out.1.new HY.out.1) HT.out.2.1 HT.out.2.2⟩⟩, by simp [intOf]; omega⟩
        · have hatd : ((k : Int) == at_) = false := by simpa using hat
          clear hat
          have HB := HB0
          have HT := HT0
          obtain ⟨b, off, rfl, o0, o1, o2, o3, o4, o5, o6, o7, o8, o9, o10, o11⟩ := (HI.out.new HB.out.2.1).at_ hy
          have hyo := (HI.out.new HB.out.2.1).2 y (List.mem_of_getElem? hy)
          have HO0 := Lib.hid hyo
          clear hyo
          go_wp2_with fail
          obtain ⟨W1, hW1⟩ : ∃ W, wr.alloc (.cells #[.int .i64 y.disk, .int .i64 y.kind, .string (bstr y.name), .string (bstr y.to), .slice y.bA y.body.length y.bc, .int .i64 y.at_, .int .i64 y.n, .slice y.kA y.keep.length y.kc, .int .i64 y.cap, .slice y.fA y.fn y.fc, .int .i64 y.fuse, .bool y.down] 34) = W := ⟨_, rfl⟩
          rw [hW1]
          have nY : New wr W1 := hW1 ▸ Kp.alloc _ _ _
          have bY : W1.heap[wr.heap.size]? = some (.cells #[.int .i64 y.disk, .int .i64 y.kind, .string (bstr y.name), .string (bstr y.to), .slice y.bA y.body.length y.bc, .int .i64 y.at_, .int .i64 y.n, .slice y.kA y.keep.length y.kc, .int .i64 y.cap, .slice y.fA y.fn y.fc, .int .i64 y.fuse, .bool y.down] 34 (0, 0)) := hW1 ▸ heap_alloc_new wr _
          have HY := Lib.hid (And.intro nY bY)
          have HO := HO0
          clear o0 o1 o2 o3 o4 o5 o6 o7 o8 o9 o10 o11 nY bY hW1
          refine (isAct_calls _ _).mono ?_
          rintro e x ⟨rfl, rfl⟩
          by_cases hact : isAct y.kind = true
          · rw [hact]
            have p0 : W1.cell? ⟨wr.heap.size, 0, none⟩ = some (.int .i64 y.disk) := (cell_of_block HY.out.2).trans rfl
            have p1 : W1.cell? ⟨wr.heap.size, 1, none⟩ = some (.int .i64 y.kind) := (cell_of_block HY.out.2).trans rfl
            have p2 : W1.cell? ⟨wr.heap.size, 2, none⟩ = some (.string (bstr y.name)) := (cell_of_block HY.out.2).trans rfl
            have p3 : W1.cell? ⟨wr.heap.size, 3, none⟩ = some (.string (bstr y.to)) := (cell_of_block HY.out.2).trans rfl
            have p4 : W1.cell? ⟨wr.heap.size, 4, none⟩ = some (.slice y.bA y.body.length y.bc) := (cell_of_block HY.out.2).trans rfl
            have p5 : W1.cell? ⟨wr.heap.size, 5, none⟩ = some (.int .i64 y.at_) := (cell_of_block HY.out.2).trans rfl
            have p6 : W1.cell? ⟨wr.heap.size, 6, none⟩ = some (.int .i64 y.n) := (cell_of_block HY.out.2).trans rfl
            have p7 : W1.cell? ⟨wr.heap.size, 7, none⟩ = some (.slice y.kA y.keep.length y.kc) := (cell_of_block HY.out.2).trans rfl
            have p8 : W1.cell? ⟨wr.heap.size, 8, none⟩ = some (.int .i64 y.cap) := (cell_of_block HY.out.2).trans rfl
            have p9 : W1.cell? ⟨wr.heap.size, 9, none⟩ = some (.slice y.fA y.fn y.fc) := (cell_of_block HY.out.2).trans rfl
            have p10 : W1.cell? ⟨wr.heap.size, 10, none⟩ = some (.int .i64 y.fuse) := (cell_of_block HY.out.2).trans rfl
            have p11 : W1.cell? ⟨wr.heap.size, 11, none⟩ = some (.bool y.down) := (cell_of_block HY.out.2).trans rfl
            have HP := Lib.hid hact
            clear hact
            go_wp2_with fail
            clear p0 p1 p2 p3 p4 p5 p6 p7 p8 p9 p10 p11
            refine (acts_calls W1 d s G y (HB.out.1.new HY.out.1) (HO.out.new HY.out.1)).mono ?_
            rintro e w2 ⟨rfl, G', q1, q2⟩
            obtain ⟨rv, s2, hr⟩ : ∃ rv s2, y.act s = (rv, s2) := ⟨_, _, rfl⟩
            rw [hr] at q1 ⊢
            replace q1 : DiskAt w2 d s2 G' := q1
            have nn := New.mv (HB.out.2.1.trans HY.out.1 (fun _ _ h => h) (fun _ _ h => h)) HB.out.2.2 q2
            have hzY := HY.out.1.size
            have hlY : wr.heap.size < W1.heap.size := (Array.getElem?_eq_some_iff.1 HY.out.2).1
            have b2 := heap_kp HY.out.2 q2.1 (fun h => by have := HB.out.1.lt _ h; omega)
            have dt := (HT.out.1.new HY.out.1).kp q2.1 (fun j hj hm => HT.out.2.2 j hm hj)
            have dj : ∀ j ∈ G', j ∉ E := fun j hj hm => (q2.2 j hj).elim (fun h => HT.out.2.2 j h hm) (fun h => by have := HT.out.1.lt j hm; omega)
            have H2 := Lib.hid (And.intro q1 (And.intro nn (And.intro b2 (And.intro dt (And.intro dj (And.intro hr q2))))))
            clear q1 q2 nn b2 dt dj hr hzY hlY
            go_wp2_with fail
            refine (apart_calls w2 d u s E H2.out.2.2.2.1).mono ?_
            rintro e w3 ⟨rfl, n3⟩
            have b3 := heap_kp H2.out.2.2.1 n3 id
            have p0 : w3.cell? ⟨wr.heap.size, 0, none⟩ = some (.int .i64 y.disk) := (cell_of_block b3).trans rfl
            have p1 : w3.cell? ⟨wr.heap.size, 1, none⟩ = some (.int .i64 y.kind) := (cell_of_block b3).trans rfl
            have p2 : w3.cell? ⟨wr.heap.size, 2, none⟩ = some (.string (bstr y.name)) := (cell_of_block b3).trans rfl
            have p3 : w3.cell? ⟨wr.heap.size, 3, none⟩ = some (.string (bstr y.to)) := (cell_of_block b3).trans rfl
            have p4 : w3.cell? ⟨wr.heap.size, 4, none⟩ = some (.slice y.bA y.body.length y.bc) := (cell_of_block b3).trans rfl
            have p5 : w3.cell? ⟨wr.heap.size, 5, none⟩ = some (.int .i64 y.at_) := (cell_of_block b3).trans rfl
            have p6 : w3.cell? ⟨wr.heap.size, 6, none⟩ = some (.int .i64 y.n) := (cell_of_block b3).trans rfl
            have p7 : w3.cell? ⟨wr.heap.size, 7, none⟩ = some (.slice y.kA y.keep.length y.kc) := (cell_of_block b3).trans rfl
            have p8 : w3.cell? ⟨wr.heap.size, 8, none⟩ = some (.int .i64 y.cap) := (cell_of_block b3).trans rfl
            have p9 : w3.cell? ⟨wr.heap.size, 9, none⟩ = some (.slice y.fA y.fn y.fc) := (cell_of_block b3).trans rfl
            have p10 : w3.cell? ⟨wr.heap.size, 10, none⟩ = some (.int .i64 y.fuse) := (cell_of_block b3).trans rfl
            have p11 : w3.cell? ⟨wr.heap.size, 11, none⟩ = some (.bool y.down) := (cell_of_block b3).trans rfl
            have H3 := Lib.hid (And.intro n3 b3)
            clear n3 b3
            go_wp2_with fail
            clear p0 p1 p2 p3 p4 p5 p6 p7 p8 p9 p10 p11
            refine (acts_calls w3 u s E y (H2.out.2.2.2.1.new H3.out.1) ((HI.out.new (H2.out.2.1.1.trans H3.out.1 (fun _ _ h => h) (fun _ _ h => h))).2 y HM.out)).mono ?_
            rintro e w4 ⟨rfl, E', q1, q2⟩
            rw [H2.out.2.2.2.2.2.1] at q1 ⊢
            replace q1 : DiskAt w4 u s2 E' := q1
            have z3 := H3.out.1.size
            have dd := (H2.out.1.new H3.out.1).kp q2.1 (fun j hj hm => H2.out.2.2.2.2.1 j hj hm)
            have dj : ∀ j ∈ G', j ∉ E' := fun j hj hm => (q2.2 j hm).elim (fun h => H2.out.2.2.2.2.1 j hj h) (fun h => by have := H2.out.1.lt j hj; omega)
            have nn := New.mv (H2.out.2.1.1.trans H3.out.1 (fun _ _ h => h) (fun _ _ h => h)) HT.out.2.1 q2
            have H4 := Lib.hid (And.intro q1 (And.intro dd (And.intro dj nn)))
            clear q1 q2 z3 dd dj nn
            have hrr : (((rv : Nat) : Int) != ((rv : Nat) : Int)) = false := by simp
            go_wp2_with fail
            refine (State_calls w4 d s2 G' H4.out.2.1).mono ?_
            rintro e w5 ⟨A1, c1, zs, rfl, ho1, hz1, hf1, n5⟩
            have H5 := Lib.hid (And.intro ho1 (And.intro hz1 n5))
            clear ho1 hz1 hf1 n5
            go_wp2_with fail
            refine (State_calls w5 u s2 E' (H4.out.1.new H5.out.2.2)).mono ?_
            rintro e w6 ⟨A2, c2, xs, rfl, ho2, hz2, hf2, n6⟩
            have H6 := Lib.hid (And.intro ho2 (And.intro hz2 n6))
            have e12 : zs.map FV.f = xs.map FV.f := H5.out.2.1.trans hz2.symm
            have el : xs.length = zs.length := by have := congrArg List.length e12; simpa using this.symm
            have H12 := Lib.hid (And.intro e12 el)
            have hz64 : zs.length ≤ 64 := by have h1 := congrArg List.length H5.out.2.1; rw [List.length_map] at h1; have := H4.out.2.1.ok.few; omega
            clear ho2 hz2 hf2 n6 e12 el
            go_wp2_with fail
            refine (Same_calls w6 (s2.cap : Int) s2.fuse s2.down A1 A2 zs.length xs.length c1 c2 zs xs (H5.out.1.rd.new H6.out.2.2) H6.out.1.rd H12.out.1 rfl H12.out.2 (by omega)).mono ?_
            rintro e w7 ⟨rfl, n7⟩
            have n47 : New w4 w7 := (H5.out.2.2.trans H6.out.2.2 (fun _ _ h => h) (fun _ _ h => h)).trans n7 (fun _ _ h => h) (fun _ _ h => h)
            have H7 := Lib.hid n47
            clear n7 n47
            go_wp2_with fail
            exact ⟨⟨k + 1, s2, G', by omega, by go_num, Lib.hid ⟨H4.out.2.1.new H7.out, H4.out.2.2.2.1.trans H7.out (fun _ _ h => h) (fun _ _ h => h), H2.out.2.1.2, TwinAt.yes (H4.out.1.new H7.out) H4.out.2.2.2.2 H4.out.2.2.1⟩⟩, by simp [intOf]; omega⟩
          · have hact' : isAct y.kind = false := by simpa using hact
            rw [hact']
            clear hact hact'
            go_wp2_with fail
            exact ⟨⟨k + 1, s, G, by omega, by go_num, Lib.hid ⟨HB.out.1.new HY.out.1, HB.out.2.1.trans HY.out.1 (fun _ _ h => h) (fun _ _ h => h), HB.out.2.2, TwinAt.yes (HT.out.1.new HY.out.1) HT.out.2.1 HT.out.2.2⟩⟩, by simp [intOf]; omega⟩
    · rcases htw with rfl | ⟨u, E, rfl, ht⟩
      · by_cases hk1 : k < ys.length
        · have hkd1 : decide (k < ys.length) = true := decide_eq_true hk1
          have hk4 : decide (k < 400) = false := decide_eq_false fun h => hgo ⟨hk1, h⟩
          go_wp2_with fail
          go_ret
          exact ⟨rfl, HB0.out.2.1⟩
        · have hkd1 : decide (k < ys.length) = false := decide_eq_false hk1
          go_wp2_with fail
          go_ret
          exact ⟨rfl, HB0.out.2.1⟩
      · have HT := Lib.hid ht
        clear ht
        by_cases hk1 : k < ys.length
        · have hkd1 : decide (k < ys.length) = true := decide_eq_true hk1
          have hk4 : decide (k < 400) = false := decide_eq_false fun h => hgo ⟨hk1, h⟩
          go_wp2_with fail
          refine (State_calls wr d s G HB0.out.1).mono ?_
          rintro e w5 ⟨A1, c1, zs, rfl, ho1, hz1, hf1, n5⟩
          have H5 := Lib.hid (And.intro ho1 (And.intro hz1 n5))
          clear ho1 hz1 hf1 n5
          go_wp2_with fail
          refine (State_calls w5 u s E (HT.out.1.new H5.out.2.2)).mono ?_
          rintro e w6 ⟨A2, c2, xs, rfl, ho2, hz2, hf2, n6⟩
          have H6 := Lib.hid (And.intro ho2 (And.intro hz2 n6))
          have e12 : zs.map FV.f = xs.map FV.f := H5.out.2.1.trans hz2.symm
          have el : xs.length = zs.length := by have := congrArg List.length e12; simpa using this.symm
          have H12 := Lib.hid (And.intro e12 el)
          have hz64 : zs.length ≤ 64 := by have h1 := congrArg List.length H5.out.2.1; rw [List.length_map] at h1; have := HB0.out.1.ok.few; omega
          clear ho2 hz2 hf2 n6 e12 el
          go_wp2_with fail
          refine (Same_calls w6 (s.cap : Int) s.fuse s.down A1 A2 zs.length xs.length c1 c2 zs xs (H5.out.1.rd.new H6.out.2.2) H6.out.1.rd H12.out.1 rfl H12.out.2 (by omega)).mono ?_
          rintro e w7 ⟨rfl, n7⟩
          have H7 := Lib.hid n7
          clear n7
          go_wp2_with fail
          go_ret
          exact ⟨rfl, ((HB0.out.2.1.trans H5.out.2.2 (fun _ _ h => h) (fun _ _ h => h)).trans H6.out.2.2 (fun _ _ h => h) (fun _ _ h => h)).trans H7.out (fun _ _ h => h) (fun _ _ h => h)⟩
        · have hkd1 : decide (k < ys.length) = false := decide_eq_false hk1
          go_wp2_with fail
          refine (State_calls wr d s G HB0.out.1).mono ?_
          rintro e w5 ⟨A1, c1, zs, rfl, ho1, hz1, hf1, n5⟩
          have H5 := Lib.hid (And.intro ho1 (And.intro hz1 n5))
          clear ho1 hz1 hf1 n5
          go_wp2_with fail
          refine (State_calls w5 u s E (HT.out.1.new H5.out.2.2)).mono ?_
          rintro e w6 ⟨A2, c2, xs, rfl, ho2, hz2, hf2, n6⟩
          have H6 := Lib.hid (And.intro ho2 (And.intro hz2 n6))
          have e12 : zs.map FV.f = xs.map FV.f := H5.out.2.1.trans hz2.symm
          have el : xs.length = zs.length := by have := congrArg List.length e12; simpa using this.symm
          have H12 := Lib.hid (And.intro e12 el)
          have hz64 : zs.length ≤ 64 := by have h1 := congrArg List.length H5.out.2.1; rw [List.length_map] at h1; have := HB0.out.1.ok.few; omega
          clear ho2 hz2 hf2 n6 e12 el
          go_wp2_with fail
          refine (Same_calls w6 (s.cap : Int) s.fuse s.down A1 A2 zs.length xs.length c1 c2 zs xs (H5.out.1.rd.new H6.out.2.2) H6.out.1.rd H12.out.1 rfl H12.out.2 (by omega)).mono ?_
          rintro e w7 ⟨rfl, n7⟩
          have H7 := Lib.hid n7
          clear n7
          go_wp2_with fail
          go_ret
          exact ⟨rfl, ((HB0.out.2.1.trans H5.out.2.2 (fun _ _ h => h) (fun _ _ h => h)).trans H6.out.2.2 (fun _ _ h => h) (fun _ _ h => h)).trans H7.out (fun _ _ h => h) (fun _ _ h => h)⟩
end Go.Proofs.Ytekcoeonlfmebaa.Kit
