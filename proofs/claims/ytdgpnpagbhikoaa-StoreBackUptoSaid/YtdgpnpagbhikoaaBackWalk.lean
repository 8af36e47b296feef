/- The walk of the law StoreBack. -/
import Derived.Test.YtdgpnpagbhikoaaShort
import Derived.Test.YtdgpnpagbhikoaaStoreLaw
import Derived.Lib.SlBytesConst
import Derived.Deep.DeepCutAuto
namespace Go.Proofs.Ytdgpnpagbhikoaa.Kit
open Go Go.RowKit

/-- The records that the law lays end to end. -/
def rsOf (xs : List BSl) : List (List UInt8) := (xs.map fun x => x.l.take 2048).take 40
theorem rsOf_short (xs : List BSl) : ∀ r ∈ rsOf xs, r.length ≤ 2048 := by
  intro r hr
  obtain ⟨x, _, rfl⟩ := List.mem_map.1 (List.mem_of_mem_take hr)
  rw [List.length_take]
  omega
theorem rsOf_length (xs : List BSl) : (rsOf xs).length = min 40 xs.length := by simp [rsOf]
theorem flat_length (rs : List (List UInt8)) (h : ∀ r ∈ rs, r.length ≤ 2048) : (rs.flatMap frame).length ≤ rs.length * 2056 := by
  induction rs with
  | nil => simp
  | cons r rs ih =>
    have := h r List.mem_cons_self
    have := ih (fun x hx => h x (List.mem_cons_of_mem _ hx))
    rw [List.flatMap_cons, List.length_append, frame_length, List.length_cons]
    omega

/-- What the first loop holds behind k rounds. -/
def Back1 (w : World) (rs : List (List UInt8)) (k : Nat) (A1 : Option Addr) (c1 n1 : Nat) (A2 : Option Addr) (c2 : Nat) (ws : List BSl) (W : World) : Prop :=
  n1 = ((rs.take k).flatMap frame).length ∧ Own W 5 1 A1 c1 n1 (bcs ((rs.take k).flatMap frame)) ∧ OwnL W 26 5 A2 c2 ws ∧ ws.map BSl.l = rs.take k ∧ New w W ∧
    (∀ j, Bk A1 j → w.heap.size ≤ j ∧ j ∉ bks A2 ++ blks ws) ∧ (∀ j, j ∈ bks A2 ++ blks ws → w.heap.size ≤ j)

theorem back1_step {w wr w1 w2 w3 w4 : World} {rs : List (List UInt8)} {k c1 n1 c2 n3 c3 c4 n5 c5 c6 : Nat} {A1 A2 A3 A4 A5 A6 : Option Addr} {ws : List BSl} {r : List UInt8} {o : Obj}
    (HI : Back1 w rs k A1 c1 n1 A2 c2 ws wr) (hr : rs[k]? = some r) (H1 : NewBytes wr r w1 A3 n3 c3)
    (hA4 : Own w2 26 1 A4 c4 (k + 1) (ws.map BSl.val ++ [.slice A3 n3 c3])) (k4 : Kp (Bk A2) (w1.alloc o) w2) (b4 : ∀ j, Bk A4 j → Bk A2 j ∨ j = (w1.alloc o).heap.size) (hlen : ws.length = k)
    (H5 : NewBytes w2 (frame r) w3 A5 n5 c5) (hA6 : Own w4 5 1 A6 c6 (n1 + n5) (bcs ((rs.take k).flatMap frame) ++ bcs (frame r))) (k6 : Kp (Bk A1) w3 w4) (b6 : ∀ j, Bk A6 j → Bk A1 j ∨ j = w3.heap.size) :
    Back1 w rs (k + 1) A6 c6 (n1 + n5) A4 c4 (ws ++ [⟨A3, c3, r⟩]) w4 := by
  obtain ⟨h1, h2, h3, h4, h5, h6, h7⟩ := HI
  have ha : (w1.alloc o).heap.size = w1.heap.size + 1 := by simp
  have s1 := H1.2.2.1.size
  have s2 := k4.size
  have s3 := H5.2.2.1.size
  have s4 := k6.size
  have s0 := h5.size
  have htk : rs.take (k + 1) = rs.take k ++ [r] := by rw [List.take_add_one, hr]; rfl
  have hfm : (rs.take (k + 1)).flatMap frame = (rs.take k).flatMap frame ++ frame r := by rw [htk]; simp
  have l3 := h3.lt
  have l2 := h2.lt
  -- from wr to w4 only the blocks of A1 and A2 change
  have kk : Kp (fun j => Bk A1 j ∨ Bk A2 j) wr w4 :=
    ((H1.2.2.1.trans ((Kp.alloc (fun _ => False) w1 o).trans k4 (fun _ _ h => h.elim) (fun _ _ h => h)) (fun _ _ h => h.elim) (fun _ _ h => h)).trans H5.2.2.1 (fun _ _ h => h) (fun _ _ h => h.elim)).trans k6 (fun _ _ h => .inr h) (fun _ _ h => .inl h)
  have f3 : ∀ j, Bk A3 j → wr.heap.size ≤ j ∧ j < w1.heap.size := fun j h => ⟨H1.2.2.2 j h, H1.2.1.lt j h⟩
  have l4 := hA4.lt
  have f4 : ∀ j, Bk A4 j → Bk A2 j ∨ (w1.heap.size < j ∧ j < w2.heap.size) := fun j h => (b4 j h).imp id (fun h' => by have := l4 j h; omega)
  have n12 : ∀ j, Bk A1 j → ¬ Bk A2 j := fun j h h' => (h6 j h).2 (List.mem_append_left _ (mem_bks.2 h'))
  have o3 : Own w4 5 1 A3 c3 n3 (bcs r) := by
    have g := ((H1.2.1.new (Kp.alloc (fun _ => False) w1 o)).kp k4 (fun j h h' => by have := f3 j h; have := l3 j (List.mem_append_left _ (mem_bks.2 h')); omega)).new H5.2.2.1
    exact g.kp k6 (fun j h h' => by have := f3 j h; have := l2 j h'; omega)
  have o4 : Own w4 26 1 A4 c4 (k + 1) (ws.map BSl.val ++ [.slice A3 n3 c3]) :=
    (hA4.new H5.2.2.1).kp k6 (fun j h h' => (f4 j h).elim (n12 j h') (fun e => by have := l2 j h'; omega))
  have hn3 : n3 = r.length := H1.1
  subst hn3
  refine ⟨?_, ?_, ?_, ?_, ?_, ?_, ?_⟩
  · rw [hfm, List.length_append, h1, H5.1]
  · rw [hfm, bcs_append]
    exact hA6
  · refine OwnL.push h3 ⟨A3, c3, r⟩ o3 (by rw [hlen]; exact o4) (fun j hj => ?_) (fun j h => (f3 j h).1) (fun j h => (f4 j h).imp id (fun e => ⟨by omega, fun h' => by have := f3 j h'; omega⟩))
    refine kk.block j (l3 j (List.mem_append_right _ hj)) ?_
    rintro (h | h)
    · exact (h6 j h).2 (List.mem_append_right _ hj)
    · exact (List.nodup_append.1 h3.2.2).2.2 j (mem_bks.2 h) j hj rfl
  · rw [List.map_append, h4, htk]
    rfl
  · refine h5.trans kk (fun _ _ h => h) ?_
    rintro j hj (h | h)
    · have := (h6 j h).1
      omega
    · have := h7 j (List.mem_append_left _ (mem_bks.2 h))
      omega
  · intro j h
    have hne : ∀ i, i ∈ bks A4 ++ blks (ws ++ [⟨A3, c3, r⟩]) → i ∈ bks A2 ++ blks ws ∨ (wr.heap.size ≤ i ∧ i < w2.heap.size) := by
      intro i hi
      rcases List.mem_append.1 hi with hi | hi
      · rcases f4 i (mem_bks.1 hi) with h | h
        · exact .inl (List.mem_append_left _ (mem_bks.2 h))
        · exact .inr (by omega)
      · rw [blks_snoc] at hi
        rcases List.mem_append.1 hi with hi | hi
        · exact .inl (List.mem_append_right _ hi)
        · have := f3 i (mem_bks.1 hi)
          exact .inr (by omega)
    rcases b6 j h with h | h
    · refine ⟨(h6 j h).1, fun hi => ?_⟩
      rcases hne j hi with h' | h'
      · exact (h6 j h).2 h'
      · have := l2 j h
        omega
    · refine ⟨by omega, fun hi => ?_⟩
      rcases hne j hi with h' | h'
      · have := l3 j h'
        omega
      · omega
  · intro i hi
    rcases List.mem_append.1 hi with hi | hi
    · rcases f4 i (mem_bks.1 hi) with h | h
      · exact h7 i (List.mem_append_left _ (mem_bks.2 h))
      · omega
    · rw [blks_snoc] at hi
      rcases List.mem_append.1 hi with hi | hi
      · exact h7 i (List.mem_append_right _ hi)
      · have := f3 i (mem_bks.1 hi)
        omega

theorem frames_count (rs : List (List UInt8)) : rs.length ≤ (rs.flatMap frame).length := by
  induction rs with
  | nil => simp
  | cons r rs ih =>
    rw [List.flatMap_cons, List.length_append, frame_length, List.length_cons]
    omega

def tornEnd : List UInt8 := [116, 111, 114, 110, 32, 101, 110, 100]
theorem torn_rd (w : World) : RdB (w.alloc (.cells #[.int .u8 116, .int .u8 111, .int .u8 114, .int .u8 110, .int .u8 32, .int .u8 101, .int .u8 110, .int .u8 100] 5 (8, 9))) (some ⟨w.heap.size, 0, none⟩) tornEnd := by
  intro _
  refine ⟨w.heap.size, 0, rfl, fun j hj => ?_⟩
  have : j = 0 ∨ j = 1 ∨ j = 2 ∨ j = 3 ∨ j = 4 ∨ j = 5 ∨ j = 6 ∨ j = 7 := by simp [tornEnd] at hj; omega
  rcases this with rfl | rfl | rfl | rfl | rfl | rfl | rfl | rfl <;> (rw [cell_of_block (heap_alloc_new w _)]; rfl)

set_option maxRecDepth 100000 in
set_option maxHeartbeats 4000000 in
theorem StoreBack_calls (w : World) (A B : Option Addr) (n c m d : Nat) (cut : Int) (xs : List BSl) (l : List UInt8) (hx : RdL w A xs) (hl : RdB w B l) (hn : n = xs.length) (hm : m = l.length) (hc : n ≤ c) (hd : m ≤ d) (hb2 : d ≤ 1099511627776)
    (hcut : -9223372036854775808 ≤ cut ∧ cut ≤ 9223372036854775807) (hxs : ∀ x ∈ xs, x.c ≤ 1099511627776) :
    Calls Try.prog 5 #[.slice A n c, .int .i64 cut, .slice B m d] w fun e w' => e = .returned (.bool true) ∧ New w w' := by
  subst hn
  subst hm
  have HX := Lib.hid (And.intro hx hxs)
  have HY := Lib.hid hl
  have HR := Lib.hid (And.intro (rsOf_short xs) (rsOf_length xs))
  clear hx hl hxs
  generalize hrs : rsOf xs = rs at HR
  have HRS := Lib.hid hrs
  clear hrs
  go_enter Try.func5, Try.ntmps5
  go_wp2
  go_loopw [7, 8, 9] (fun a v i wr => ∃ (k : Nat) (A1 : Option Addr) (c1 n1 : Nat) (A2 : Option Addr) (c2 : Nat) (ws : List BSl), k ≤ 40 ∧ k ≤ xs.length ∧ i = .int .i64 (k : Int) ∧ a = .slice A1 n1 c1 ∧ v = .slice A2 k c2 ∧ Hid (Back1 w rs k A1 c1 n1 A2 c2 ws wr)) (fun _ _ i _ => 40 - (intOf i).toNat)
  case atStart => exact ⟨0, none, 0, 0, none, 0, [], by omega, by omega, rfl, rfl, rfl, Lib.hid ⟨rfl, Own.nil _ _ _, OwnL.nil _ _ _, rfl, Kp.refl _ _, fun j h => absurd h Bk.none_, by simp [bks, blks]⟩⟩
  case round =>
    obtain ⟨k, A1, c1, n1, A2, c2, ws, hk, hk2, rfl, rfl, rfl, HI⟩ := hrel
    by_cases hlt : k < xs.length ∧ k < 40
    · obtain ⟨hlt1, hlt2⟩ := hlt
      obtain ⟨b1, o1, rfl, hc1, hr1⟩ := (HX.out.1.new HI.out.2.2.2.2.1).at_ hlt1
      have hcx := HX.out.2 _ (List.getElem_mem hlt1)
      have hcl := (HX.out.1.2 _ (List.getElem_mem hlt1)).2
      have hrk : rs[k]? = some ((xs[k]).l.take 2048) := by
        rw [← HRS.out]
        simp [rsOf, List.getElem?_take_of_lt hlt2, hlt1]
      generalize xs[k] = x at hc1 hr1 hcx hcl hrk
      have HK := Lib.hid (And.intro hr1 (And.intro hcl hrk))
      clear hr1 hrk
      go_wp2_with fail
      refine (short_calls wr x.A x.l.length x.c x.l HK.out.1 rfl HK.out.2.1 (by omega)).mono ?_
      rintro e w1 ⟨A3, n3, c3, rfl, hp⟩
      have H1 := Lib.hid hp
      clear hp hcl
      have hz1 := H1.out.2.2.1.size
      have hw := HI.out.2.2.2.2.1.size
      have hlen : ws.length = k := by have := congrArg List.length HI.out.2.2.2.1; rw [List.length_map, List.length_take, HR.out.2] at this; omega
      have HLN := Lib.hid hlen
      clear hlen
      have hown : Own (w1.alloc (.cells #[.slice A3 n3 c3] 26)) 26 1 A2 c2 k (ws.map BSl.val) := by
        have := (HI.out.2.2.1.1.new H1.out.2.2.1).new (Kp.alloc _ _ (.cells #[.slice A3 n3 c3] 26))
        rwa [HLN.out] at this
      have HO := Lib.hid hown
      clear hown
      go_wp2_with (at_builtin; refine wpList_append_src _ rfl (.tmp 32) (.tmp 38) 25 25 rfl 26 (.slice none 0 0) 1 24 Try.underlying25 Try.info_sb rfl A2 c2 k _ rfl HO.out _ rfl 1 _ (Src.ofNew _ Try.underlying25 #[.slice A3 n3 c3] 26 1 1 1 rfl (by simp [Value.oneCell'])) (by omega) (by omega) ?_; intro A4 c4 w2 h41 h42 h43; obtain ⟨g4, rfl⟩ := h41.some_ (by omega); have hcw : w2.cell? ⟨g4, k, none⟩ = some (.slice A3 n3 c3) := h41.cell (by have := HLN.out; subst this; simp); have HA4 := Lib.hid (And.intro h41 (And.intro h42 h43)); clear h41 h42 h43)
      have hn12 : Kp (Bk A2) w1 w2 := (Kp.alloc (fun _ => False) w1 _).trans HA4.out.2.1 (fun _ _ h => h.elim) (fun _ _ h => h)
      have hA3b : ∀ j, Bk A3 j → ¬ Bk A2 j := fun j h h2 => by
        have := H1.out.2.2.2 j h
        have := HI.out.2.2.1.lt j (List.mem_append_left _ (mem_bks.2 h2))
        omega
      have hA3 := H1.out.2.1.kp hn12 hA3b
      have HN := Lib.hid (And.intro hn12 (And.intro hA3b hA3))
      clear hn12 hA3b hA3
      refine (Frame_calls' w2 A3 n3 c3 (x.l.take 2048) HN.out.2.2.rd2 H1.out.1 (by rw [List.length_take]; omega)).mono ?_
      rintro e w3 ⟨A5, n5, c5, rfl, hp⟩
      have H5 := Lib.hid hp
      clear hp
      have hz2 := HN.out.1.size
      have hz3 := H5.out.2.2.1.size
      have hA1 : Own w3 5 1 A1 c1 n1 (bcs ((rs.take k).flatMap frame)) :=
        ((HI.out.2.1.new H1.out.2.2.1).kp HN.out.1 (fun j h h2 => (HI.out.2.2.2.2.2.1 j h).2 (List.mem_append_left _ (mem_bks.2 h2)))).new H5.out.2.2.1
      have hfl := flat_length (rs.take k) (fun r hr => HR.out.1 r (List.mem_of_mem_take hr))
      have hn1 : n1 ≤ 82240 := by
        have := HI.out.1
        rw [List.length_take] at hfl
        omega
      have hn5 : n5 ≤ 2056 := by
        have := H5.out.1
        rw [frame_length, List.length_take] at this
        omega
      have HA1 := Lib.hid hA1
      clear hA1 hfl
      go_wp2_with (at_builtin; refine wpList_append_src _ rfl (.tmp 50) (.tmp 51) 26 26 rfl 5 (.int .u8 0) 1 1 Try.underlying26 Try.info_u8 rfl A1 c1 n1 _ rfl HA1.out _ rfl n5 (bcs (frame (x.l.take 2048))) (Src.ofOwnB _ Try.underlying26 c5 H5.out.2.1.rd2 H5.out.1) (by omega) (by omega) ?_; intro A6 c6 w4 h61 h62 h63; have HA6 := Lib.hid (And.intro h61 (And.intro h62 h63)); clear h61 h62 h63)
      refine ⟨⟨k + 1, A6, c6, n1 + n5, some ⟨g4, 0, none⟩, c4, ws ++ [⟨A3, c3, x.l.take 2048⟩], by omega, by omega, by go_num, rfl, rfl, Lib.hid ?_⟩, by simp [intOf]; omega⟩
      exact back1_step HI.out HK.out.2.2 H1.out HA4.out.1 HA4.out.2.1 HA4.out.2.2 HLN.out H5.out HA6.out.1 HA6.out.2.1 HA6.out.2.2
    · have hkm : k = min 40 xs.length := by omega
      have htk : rs.take k = rs := List.take_of_length_le (by rw [HR.out.2]; omega)
      have HI' := HI.out
      unfold Back1 at HI'
      rw [htk] at HI'
      have HB := Lib.hid HI'
      clear HI HI' htk
      have hfl := flat_length rs HR.out.1
      have hn1 : n1 ≤ 82240 := by
        have := HB.out.1
        have := HR.out.2
        omega
      clear hfl
      have hge : k < xs.length → ¬ k < 40 := fun h1 h2 => hlt ⟨h1, h2⟩
      clear hlt hkm
      by_cases hlt : k < xs.length
      all_goals
        (try (have h40 := hge hlt))
        clear hge
        have kc := fun (w : World) (C : Array Value) (n c : Nat) => Lib.run_convert_bytes_const (P := Try.prog) w 26 5 C n c Try.underlying26 Try.underlying5
        go_wp2_with fail
        clear kc
        have hT : RdB (wr.alloc (.cells #[.int .u8 116, .int .u8 111, .int .u8 114, .int .u8 110, .int .u8 32, .int .u8 101, .int .u8 110, .int .u8 100] 5 (8, 9))) (some ⟨wr.heap.size, 0, none⟩) tornEnd := torn_rd _
        have hN0 : New wr (wr.alloc (.cells #[.int .u8 116, .int .u8 111, .int .u8 114, .int .u8 110, .int .u8 32, .int .u8 101, .int .u8 110, .int .u8 100] 5 (8, 9))) := Kp.alloc _ _ _
        generalize (wr.alloc (.cells #[.int .u8 116, .int .u8 111, .int .u8 114, .int .u8 110, .int .u8 32, .int .u8 101, .int .u8 110, .int .u8 100] 5 (8, 9))) = w1 at hT hN0
        refine (Frame_calls' w1 (some ⟨wr.heap.size, 0, none⟩) 8 8 tornEnd hT rfl (by decide)).mono ?_
        clear hT
        have HN0 := Lib.hid hN0
        clear hN0
        rintro e w2 ⟨A5, n5, c5, rfl, hp⟩
        have H5 := Lib.hid hp
        clear hp
        have h16 : n5 = 16 := H5.out.1
        subst h16
        have hc5 := H5.out.2.1.cap.1
        have hc5' := H5.out.2.1.cap.2
        obtain ⟨m, hm⟩ : ∃ m : Nat, m = (if cut < 0 then -(cut + 1).tmod 16 else cut % 16).toNat := ⟨_, rfl⟩
        have htm : cut < 0 → (cut + 1).tmod 16 ≤ 0 ∧ -(cut + 1).tmod 16 < 16 := fun hneg => by
          have ht : (-(cut + 1)).tmod 16 = (-(cut + 1)) % 16 := Int.tmod_eq_emod_of_nonneg (by omega)
          rw [Int.neg_tmod] at ht
          omega
        have hm16 : m < 16 := by
          by_cases hneg : cut < 0
          · rw [if_pos hneg] at hm
            have ht : (-(cut + 1)).tmod 16 = (-(cut + 1)) % 16 := Int.tmod_eq_emod_of_nonneg (by omega)
            rw [Int.neg_tmod] at ht
            omega
          · rw [if_neg hneg] at hm
            omega
        have HT := Lib.hid (H5.out.2.1.rd2.upto m)
        by_cases hneg : cut < 0
        case' pos =>
          rw [if_pos hneg] at hm
          obtain ⟨ht1, ht2⟩ := htm hneg
          have ht3 : -(cut + 1).tmod 16 ≤ (c5 : Int) := by omega
        case' neg => rw [if_neg hneg] at hm
        all_goals
          have HM := Lib.hid hm
          clear hm
          clear htm
          have hz2 := H5.out.2.2.1.size
          have hz1 := HN0.out.size
          have hA1 := (HB.out.2.1.new HN0.out).new H5.out.2.2.1
          have HA1 := Lib.hid hA1
          clear hA1
          go_wp2_with (at_builtin; rw [← HM.out]; refine wpList_append_src _ rfl (.tmp 73) (.tmp 79) 26 26 rfl 5 (.int .u8 0) 1 1 Try.underlying26 Try.info_u8 rfl A1 c1 n1 _ rfl HA1.out _ rfl m (bcs ((frame tornEnd).take m)) (Src.ofOwnB _ Try.underlying26 c5 HT.out (by rw [List.length_take]; exact (Nat.min_eq_left (by show m ≤ 16; omega)).symm)) (by omega) (by omega) ?_; intro A6 c6 w4 h61 h62 h63; have HA6 := Lib.hid (And.intro h61 (And.intro h62 h63)); clear h61 h62 h63)
          have hl6 : ((rs.flatMap frame) ++ (frame tornEnd).take m).length = n1 + m := by
            rw [List.length_append, List.length_take, ← HB.out.1]
            exact congrArg _ (Nat.min_eq_left (by show m ≤ 16; omega))
          have hown6 : Own w4 5 1 A6 c6 (n1 + m) (bcs ((rs.flatMap frame) ++ (frame tornEnd).take m)) := by
            rw [bcs_append]
            exact HA6.out.1
          have hsc := scan_frames rs ((frame tornEnd).take m) HR.out.1 (torn_none tornEnd (by decide) m hm16) _ rfl
          have HO6 := Lib.hid (And.intro hown6 hsc)
          clear hown6 hsc
          have hc6 := HO6.out.1.cap.2
          refine (Scan_calls w4 A6 (n1 + m) c6 _ HO6.out.1.rd2 hl6.symm HO6.out.1.cap.1 (by simp only [maxLen] at hc6; omega) HO6.out.1.lt (by omega)).mono ?_
          rintro e w5 ⟨A7, c7, ys, rfl, h71, h72, h73, h74⟩
          rw [HO6.out.2.1] at h72
          have hflen : (rs.flatMap frame).length = n1 := HB.out.1.symm
          rw [HO6.out.2.2, hflen]
          clear hflen
          have hys : ys.length ≤ 40 := by
            have := congrArg List.length h72
            rw [List.length_map, HR.out.2] at this
            omega
          have hcm : New w w5 := (((HB.out.2.2.2.2.1.trans (HN0.out.trans H5.out.2.2.1 (fun _ _ h => h) (fun _ _ h => h)) (fun _ _ h => h) (fun _ _ h => h))).trans HA6.out.2.1 (fun _ _ h => h) (fun j hj h => by have := (HB.out.2.2.2.2.2.1 j h).1; omega)).trans h74 (fun _ _ h => h) (fun _ _ h => h)
          have hws : RdL w5 A2 ws := (((HB.out.2.2.1.rd.new HN0.out).new H5.out.2.2.1).kp HA6.out.2.1 (fun j h h' => (HB.out.2.2.2.2.2.1 j h').2 h)).new h74
          have H7 := Lib.hid (And.intro h71 (And.intro h72 (And.intro h73 hcm)))
          clear h71 h72 h73 h74 hcm
          have hlen : ws.length = k := by have := congrArg List.length HB.out.2.2.2.1; rw [List.length_map, HR.out.2] at this; omega
          have HWS := Lib.hid (And.intro hws hlen)
          clear hws hlen
          go_wp2_with fail
          refine (sameLists_calls w5 A7 A2 ys.length k c7 c2 ys ws H7.out.1.rd HWS.out.1 rfl HWS.out.2.symm (by omega) (by omega)).mono ?_
          rintro e w6 ⟨rfl, n6, hw6⟩
          have hn6 : New w w6 := hw6 ▸ H7.out.2.2.2.trans (Kp.drewN (fun _ => False) w5 n6) (fun _ _ h => h) (fun _ _ h => h)
          rw [H7.out.2.1, HB.out.2.2.2.1]
          have HL6 := Lib.hid (And.intro (HY.out.new hn6) hn6)
          have hz6 := hn6.size
          clear hn6 hw6
          go_wp2_with (at_builtin; refine wpList_append_src _ rfl (.tmp 97) (.tmp 98) 26 26 rfl 5 (.int .u8 0) 1 1 Try.underlying26 Try.info_u8 rfl _ 0 0 [] rfl (Own.empty _ _ _) _ rfl l.length (bcs l) (Src.ofRdB _ Try.underlying26 d (HL6.out.1.new (Kp.alloc _ _ _))) (by omega) (by omega) ?_; intro A8 c8 w8 h81 h82 h83; have HA8 := Lib.hid (And.intro h81 (And.intro h82 h83)); clear h81 h82 h83)
          have hown8 : Own w8 5 1 A8 c8 l.length (bcs l) := by simpa using HA8.out.1
          have hn8 : New w w8 := (HL6.out.2.trans (Kp.alloc (fun _ => False) w6 _) (fun _ _ h => h) (fun _ _ h => h)).trans HA8.out.2.1 (fun _ _ h => h) (fun j hj h => by have := Bk.some_.1 h; simp at this; omega)
          have hc8 := hown8.cap.2
          have hl8 := hown8.cap.1
          refine (Scan_calls w8 A8 l.length c8 l hown8.rd2 rfl hl8 (by simp only [maxLen] at hc8; omega) hown8.lt (by omega)).mono ?_
          rintro e w9 ⟨A9, c9, zs, rfl, h91, h92, h93, h94⟩
          have hfb := frames_back l l.length 0 (Nat.zero_le _)
          rw [endFrom_zero] at hfb
          generalize frs l.length l 0 = ps at h92 hfb
          generalize recsOf l ps = rr at h92 hfb
          generalize endOf ps = E at hfb
          obtain ⟨_, hE, hfl, hrr⟩ := hfb
          rw [List.drop_zero, Nat.sub_zero] at hfl
          have hn9 : New w w9 := hn8.trans h94 (fun _ _ h => h) (fun _ _ h => h)
          have hzl : zs.length = rr.length := by have := congrArg List.length h92; rwa [List.length_map] at this
          have hpre : ∀ k, ((rr.take k).flatMap frame).length ≤ l.length := fun k => by
            have h1 := congrArg List.length hfl
            rw [List.length_take] at h1
            have h2 : (rr.flatMap frame).length = ((rr.take k).flatMap frame).length + ((rr.drop k).flatMap frame).length := by rw [← List.length_append, ← List.flatMap_append, List.take_append_drop]
            omega
          have hrl : rr.length ≤ l.length := by
            have h1 := hpre rr.length
            rw [List.take_of_length_le (Nat.le_refl _)] at h1
            exact Nat.le_trans (frames_count rr) h1
          have H9 := Lib.hid (And.intro h91.rd (And.intro h92 (And.intro hfl (And.intro hrr (And.intro hn9 (And.intro hzl hpre))))))
          clear h91 h92 hfl hrr hn9 hpre h93 h94 hown8 hn8 hc8 hl8
          have hzl2 : zs.length ≤ 1099511627776 := by omega
          clear hzl hrl
          go_wp2_with fail
          go_loopw [18, 19] (fun a i wr => ∃ (k : Nat) (A1 : Option Addr) (c1 n1 : Nat), k ≤ zs.length ∧ i = .int .i64 (k : Int) ∧ a = .slice A1 n1 c1 ∧ Hid (n1 = ((rr.take k).flatMap frame).length ∧ Own wr 5 1 A1 c1 n1 (bcs ((rr.take k).flatMap frame)) ∧ New w9 wr ∧ (∀ j, Bk A1 j → w9.heap.size ≤ j))) (fun _ i _ => zs.length - (intOf i).toNat)
          case atStart => exact ⟨0, none, 0, 0, by omega, rfl, rfl, Lib.hid ⟨rfl, Own.nil _ _ _, Kp.refl _ _, fun j h => absurd h Bk.none_⟩⟩
          case round =>
            obtain ⟨k2, A1', c1', n1', hk2', rfl, rfl, HI⟩ := hrel
            by_cases hlt2 : k2 < zs.length
            · obtain ⟨b1, o1, rfl, hc1, hr1⟩ := (H9.out.1.new HI.out.2.2.1).at_ hlt2
              have hrk : rr[k2]? = some zs[k2].l := by
                rw [← H9.out.2.1]
                simp [hlt2]
              have hlk : zs[k2].l.length ≤ 2048 := H9.out.2.2.2.1 _ (List.mem_of_getElem? hrk)
              generalize zs[k2] = x at hc1 hr1 hlk hrk
              have HK := Lib.hid (And.intro hr1 hrk)
              clear hr1 hrk
              go_wp2_with fail
              refine (Frame_calls' wr x.A x.l.length x.c x.l HK.out.1 rfl hlk).mono ?_
              rintro e w10 ⟨A11, n11, c11, rfl, hp⟩
              have HF := Lib.hid hp
              clear hp
              have hz10 := HF.out.2.2.1.size
              have hzw := HI.out.2.2.1.size
              have htk : rr.take (k2 + 1) = rr.take k2 ++ [x.l] := by rw [List.take_add_one, HK.out.2]; rfl
              have hfm : (rr.take (k2 + 1)).flatMap frame = (rr.take k2).flatMap frame ++ frame x.l := by rw [htk]; simp
              have hsum : n1' + n11 ≤ 1099511627776 := by
                have := H9.out.2.2.2.2.2.2 (k2 + 1)
                rw [hfm, List.length_append, ← HI.out.1, ← HF.out.1] at this
                omega
              have hA1' := HI.out.2.1.new HF.out.2.2.1
              have HB1 := Lib.hid (And.intro hA1' hfm)
              clear hA1' hfm htk
              go_wp2_with (at_builtin; refine wpList_append_src _ rfl (.tmp 119) (.tmp 120) 26 26 rfl 5 (.int .u8 0) 1 1 Try.underlying26 Try.info_u8 rfl A1' c1' n1' _ rfl HB1.out.1 _ rfl n11 (bcs (frame x.l)) (Src.ofOwnB _ Try.underlying26 c11 HF.out.2.1.rd2 HF.out.1) (by omega) (by omega) ?_; intro A12 c12 w12 h121 h122 h123; have HA12 := Lib.hid (And.intro h121 (And.intro h122 h123)); clear h121 h122 h123)
              refine ⟨⟨k2 + 1, A12, c12, n1' + n11, by omega, by go_num, rfl, Lib.hid ⟨by rw [HB1.out.2, List.length_append, ← HI.out.1, ← HF.out.1], by rw [HB1.out.2, bcs_append]; exact HA12.out.1, (HI.out.2.2.1.trans HF.out.2.2.1 (fun _ _ h => h) (fun _ _ h => h)).trans HA12.out.2.1 (fun _ _ h => h) (fun j hj h => by have := HI.out.2.2.2 j h; omega), fun j h => ?_⟩⟩, by simp [intOf]; omega⟩
              rcases HA12.out.2.2 j h with h | h
              · exact HI.out.2.2.2 j h
              · omega
            · have hkz : k2 = rr.length := by have := H9.out.2.2.2.2.2.1; omega
              have htk : (rr.take k2).flatMap frame = l.take E := by rw [hkz, List.take_of_length_le (Nat.le_refl _)]; exact H9.out.2.2.1
              have hIE := HI.out
              rw [htk] at hIE
              have hnE : n1' = E := by rw [hIE.1, List.length_take]; omega
              subst hnE
              have HE := Lib.hid hIE
              clear htk hIE hkz
              obtain rfl : k2 = zs.length := by omega
              have hs1 : RdB wr A1' (l.take n1') := HE.out.2.1.rd2
              have hnw : New w wr := H9.out.2.2.2.2.1.trans HE.out.2.2.1 (fun _ _ h => h) (fun _ _ h => h)
              have hs2 : RdB wr B (l.take n1') := (HY.out.new hnw).upto _
              have hsl : (l.take n1').length = n1' := HE.out.1.symm
              have hs := run_slice_upto (P := Try.prog) 26 5 Try.underlying26 1 Try.size_u8 B l.length d n1' (by omega)
              generalize l.take n1' = s at hs1 hs2 hsl
              have hv1 : ∀ j, (convert 26 9 (.slice A1' n1' c1')).run Try.prog (wr.drewN j) = .ok (.string (bstr s)) (wr.drewN j) := fun j => hsl ▸ run_conv_RdB _ Try.underlying26 Try.underlying5 Try.underlying9 c1' (hs1.new (Kp.drewN _ _ _))
              have hv2 : ∀ j, (convert 26 9 (.slice B n1' d)).run Try.prog (wr.drewN j) = .ok (.string (bstr s)) (wr.drewN j) := fun j => hsl ▸ run_conv_RdB _ Try.underlying26 Try.underlying5 Try.underlying9 d (hs2.new (Kp.drewN _ _ _))
              have hi1 : (n1' : Int) ≤ (l.length : Int) := by omega
              have HN := Lib.hid hnw
              clear hs1 hs2 hsl hnw
              go_wp2_with fail
              go_quiet (fail)
              go_wp2_with fail
              go_ret
              exact ⟨rfl, HN.out.trans (Kp.drewN _ _ _) (fun _ _ h => h) (fun _ _ h => h)⟩
end Go.Proofs.Ytdgpnpagbhikoaa.Kit
