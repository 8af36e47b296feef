/- The walk of the law StoreFrames. -/
import Derived.Test.YtdgpnpagbhikoaaGreatDoorBookU
import Derived.Test.YtdgpnpagbhikoaaGreatDoorBookR
import Derived.Test.YtdgpnpagbhikoaaGreatDoorRef4
import Derived.Test.YtdgpnpagbhikoaaGreatDoorBytes
namespace Go.Proofs.YtdgpnpagbhikoaaGreatDoor.Kit
open Go Go.RowKit

/-- What Frame makes of any bytes, and its error. -/
def fr (l : List UInt8) : List UInt8 := if l.length ≤ 2048 then frame l else []
def er (l : List UInt8) : Int := if l.length ≤ 2048 then 0 else 3
def AnyFrame (w : World) (l : List UInt8) (e : Ending) (w' : World) : Prop := ∃ A n c, e = .returned (.tuple #[.slice A n c, .int .i64 (er l)]) ∧ NewBytes w (fr l) w' A n c ∧ n ≤ 2056
theorem any_of_short {w : World} {l : List UInt8} (h : l.length ≤ 2048) {e : Ending} {w' : World} (hp : FramePost w l e w') : AnyFrame w l e w' := by
  obtain ⟨A, n, c, rfl, hb⟩ := hp
  refine ⟨A, n, c, by rw [er, if_pos h], by rw [fr, if_pos h]; exact hb, ?_⟩
  have := hb.1
  rw [frame_length] at this
  omega
theorem any_of_long (w : World) {l : List UInt8} (h : ¬ l.length ≤ 2048) : AnyFrame w l (.returned (.tuple #[.slice none 0 0, .int .i64 3])) w :=
  ⟨none, 0, 0, by rw [er, if_neg h], by rw [fr, if_neg h]; exact ⟨rfl, Own.nil _ _ _, Kp.refl _ _, fun k hk => absurd hk Bk.none_⟩, by omega⟩
theorem FrameAny_calls (w : World) (A : Option Addr) (n c : Nat) (l : List UInt8) (hx : RdB w A l) (hn : n = l.length) :
    Calls Tryz.prog 8 #[.slice A n c] w (AnyFrame w l) := by
  by_cases h : l.length ≤ 2048
  · exact (Frame_calls' w A n c l hx hn h).mono fun e w' hp => any_of_short h hp
  · refine (Frame_long w A c n (by omega)).mono ?_
    rintro e w' ⟨rfl, rfl⟩
    exact any_of_long w h
theorem RefAny_calls (w : World) (A : Option Addr) (n c : Nat) (l : List UInt8) (hx : RdB w A l) (hn : n = l.length) :
    Calls Tryz.prog 9 #[.slice A n c] w (AnyFrame w l) := by
  by_cases h : l.length ≤ 2048
  · exact (RefFrame_calls w A n c l hx hn (by omega)).mono fun e w' hp => any_of_short h hp
  · refine (RefFrame_long w A c n (by omega)).mono ?_
    rintro e w' ⟨rfl, rfl⟩
    exact any_of_long w h

set_option maxRecDepth 100000 in
set_option maxHeartbeats 4000000 in
theorem StoreFrames_calls (w : World) (A B : Option Addr) (n c m d : Nat) (r o : List UInt8) (hr : RdB w A r) (ho : RdB w B o) (hn : n = r.length) (hm : m = o.length) (hb : n ≤ 140737488351232) (hb2 : m ≤ 140737488351232) :
    Calls Tryz.prog 3 #[.slice A n c, .slice B m d] w fun e w' => e = .returned (.bool true) ∧ New w w' := by
  subst hn
  subst hm
  have H := Lib.hid (And.intro hr ho)
  clear hr ho
  go_enter Tryz.func3, Tryz.ntmps3
  go_wp2_with fail
  refine (RoomB_calls w A r.length c r H.out.1 rfl (by omega)).mono ?_
  rintro e w1 ⟨A1, n1, c1, rfl, hp⟩
  have H1 := Lib.hid hp
  clear hp
  have hn1 : n1 = r.length + 64 := by have := H1.out.1; rwa [List.length_append, marksB_length] at this
  subst hn1
  have hcap1 := H1.out.2.1.cap.1
  have hs := run_slice_upto (P := Tryz.prog) 22 5 Tryz.underlying22 1 Tryz.size_u8 A1 (r.length + 64) c1 r.length (by omega)
  have h1r : RdB w1 A1 r := by have := H1.out.2.1.rd2.upto r.length; rwa [List.take_left] at this
  have HR1 := Lib.hid (And.intro h1r H1.out.2.2.1)
  clear h1r
  go_wp2_with fail
  refine (FrameAny_calls w1 A1 r.length c1 r HR1.out.1 rfl).mono ?_
  rintro e w2 ⟨A2, n2, c2, rfl, hp, hb_2⟩
  have H2 := Lib.hid hp
  clear hp
  have hnew2 : New w w2 := HR1.out.2.trans H2.out.2.2.1 (fun _ _ h => h) (fun _ _ h => h)
  have HN2 := Lib.hid hnew2
  clear hnew2
  go_wp2_with (at_builtin; refine wpList_append_src _ rfl (.tmp 32) (.tmp 33) 22 22 rfl 5 (.int .u8 0) 1 1 Tryz.underlying22 Tryz.info_u8 rfl _ 0 0 [] rfl (Own.bare _ _ _) _ rfl o.length (bcs o) (Src.ofRdB _ Tryz.underlying22 d ((H.out.2.new HN2.out).new (Kp.alloc _ _ _))) (by omega) (by omega) ?_; intro A3 c3 w3 h1 h2 h3; have H3 := Lib.hid (And.intro h1 (And.intro h2 h3)); clear h1 h2 h3)
  have hnew3 : New w2 w3 := (Kp.alloc (fun _ => False) w2 _).trans H3.out.2.1 (fun _ _ h => h) (fun x hx h => by have := Bk.some_.1 h; simp at this; omega)
  have HN3 := Lib.hid (And.intro hnew3 (HN2.out.trans hnew3 (fun _ _ h => h) (fun _ _ h => h)))
  clear hnew3
  refine (FrameAny_calls w3 A3 o.length c3 o (by have := H3.out.1.rd2; simpa using this) rfl).mono ?_
  rintro e w4 ⟨A4, n4, c4, rfl, hp, hb_4⟩
  have H4 := Lib.hid hp
  clear hp
  have HN4 := Lib.hid (HN3.out.1.trans H4.out.2.2.1 (fun _ _ h => h) (fun _ _ h => h))
  go_wp2_with fail
  refine (FrameAny_calls w4 A1 r.length c1 r ((HR1.out.1.new H2.out.2.2.1).new HN4.out) rfl).mono ?_
  rintro e w5 ⟨A5, n5, c5, rfl, hp, hb_5⟩
  have H5 := Lib.hid hp
  clear hp
  have HN5 := Lib.hid ((HN2.out.trans HN4.out (fun _ _ h => h) (fun _ _ h => h)).trans H5.out.2.2.1 (fun _ _ h => h) (fun _ _ h => h))
  go_wp2_with fail
  refine (RefAny_calls w5 A r.length c r (H.out.1.new HN5.out) rfl).mono ?_
  rintro e w6 ⟨A6, n6, c6, rfl, hp, hb_6⟩
  have H6 := Lib.hid hp
  clear hp
  have HN6 := Lib.hid (HN5.out.trans H6.out.2.2.1 (fun _ _ h => h) (fun _ _ h => h))
  go_wp2_with fail
  refine (RefAny_calls w6 B o.length d o (H.out.2.new HN6.out) rfl).mono ?_
  rintro e w7 ⟨A7, n7, c7, rfl, hp, hb_7⟩
  have H7 := Lib.hid hp
  clear hp
  have HN7 := Lib.hid (HN6.out.trans H7.out.2.2.1 (fun _ _ h => h) (fun _ _ h => h))
  -- from w1 to w7
  have h17 : New w1 w7 := ((((H2.out.2.2.1.trans HN4.out (fun _ _ h => h) (fun _ _ h => h)).trans H5.out.2.2.1 (fun _ _ h => h) (fun _ _ h => h)).trans H6.out.2.2.1 (fun _ _ h => h) (fun _ _ h => h)).trans H7.out.2.2.1 (fun _ _ h => h) (fun _ _ h => h))
  have h27 : New w2 w7 := ((HN4.out.trans H5.out.2.2.1 (fun _ _ h => h) (fun _ _ h => h)).trans H6.out.2.2.1 (fun _ _ h => h) (fun _ _ h => h)).trans H7.out.2.2.1 (fun _ _ h => h) (fun _ _ h => h)
  have h47 : New w4 w7 := (H5.out.2.2.1.trans H6.out.2.2.1 (fun _ _ h => h) (fun _ _ h => h)).trans H7.out.2.2.1 (fun _ _ h => h) (fun _ _ h => h)
  have h57 : New w5 w7 := H6.out.2.2.1.trans H7.out.2.2.1 (fun _ _ h => h) (fun _ _ h => h)
  have HO := Lib.hid (And.intro (H1.out.2.1.new h17) (And.intro (H2.out.2.1.new h27) (And.intro (H4.out.2.1.new h47) (And.intro (H5.out.2.1.new h57) (And.intro (H6.out.2.1.new H7.out.2.2.1) H7.out.2.1)))))
  clear h17 h27 h47 h57
  go_wp2_with fail
  refine (KeptB_calls w7 A1 A (r.length + 64) r.length c1 c r HO.out.1.rd2 (H.out.1.new HN7.out) rfl rfl (by omega)).mono ?_
  rintro e w8 ⟨rfl, q8, rfl⟩
  have hv : ∀ (A : Option Addr) (n c : Nat) (l : List UInt8), Own w7 5 1 A c n (bcs l) → n = l.length → ∀ j, (convert 22 9 (.slice A n c)).run Tryz.prog (w7.drewN j) = .ok (.string (bstr l)) (w7.drewN j) := fun A n c l h hn j => hn ▸ run_conv_RdB _ Tryz.underlying22 Tryz.underlying5 Tryz.underlying9 c (h.rd2.new (Kp.drewN _ _ _))
  have v2 := hv A2 n2 c2 (fr r) HO.out.2.1 H2.out.1
  have v4 := hv A4 n4 c4 (fr o) HO.out.2.2.1 H4.out.1
  have v5 := hv A5 n5 c5 (fr r) HO.out.2.2.2.1 H5.out.1
  have v6 := hv A6 n6 c6 (fr r) HO.out.2.2.2.2.1 H6.out.1
  have v7 := hv A7 n7 c7 (fr o) HO.out.2.2.2.2.2 H7.out.1
  clear hv
  go_wp2_with fail
  clear v2 v4 v5 v6 v7
  have n79 : New w7 ((w7.drewN q8).alloc (.cells #[.int .i64 0, .slice none 0 0, .slice none 0 0, .slice none 0 0, .slice none 0 0, .slice none 0 0, .slice none 0 0, .slice none 0 0, .slice none 0 0, .slice none 0 0, .slice none 0 0, .slice none 0 0, .slice none 0 0, .slice none 0 0, .slice none 0 0, .slice none 0 0, .slice none 0 0, .slice none 0 0, .slice none 0 0, .slice none 0 0, .slice none 0 0] 50)) := (Kp.drewN _ _ _).trans (Kp.alloc _ _ _) (fun _ _ h => h) (fun _ _ h => h)
  have hg9 : ((w7.drewN q8).alloc (.cells #[.int .i64 0, .slice none 0 0, .slice none 0 0, .slice none 0 0, .slice none 0 0, .slice none 0 0, .slice none 0 0, .slice none 0 0, .slice none 0 0, .slice none 0 0, .slice none 0 0, .slice none 0 0, .slice none 0 0, .slice none 0 0, .slice none 0 0, .slice none 0 0, .slice none 0 0, .slice none 0 0, .slice none 0 0, .slice none 0 0, .slice none 0 0] 50)).heap[w7.heap.size]? = some (.cells #[.int .i64 0, .slice none 0 0, .slice none 0 0, .slice none 0 0, .slice none 0 0, .slice none 0 0, .slice none 0 0, .slice none 0 0, .slice none 0 0, .slice none 0 0, .slice none 0 0, .slice none 0 0, .slice none 0 0, .slice none 0 0, .slice none 0 0, .slice none 0 0, .slice none 0 0, .slice none 0 0, .slice none 0 0, .slice none 0 0, .slice none 0 0] 50 (0, 0)) := heap_alloc_new (w7.drewN q8) _
  have hz9 : ((w7.drewN q8).alloc (.cells #[.int .i64 0, .slice none 0 0, .slice none 0 0, .slice none 0 0, .slice none 0 0, .slice none 0 0, .slice none 0 0, .slice none 0 0, .slice none 0 0, .slice none 0 0, .slice none 0 0, .slice none 0 0, .slice none 0 0, .slice none 0 0, .slice none 0 0, .slice none 0 0, .slice none 0 0, .slice none 0 0, .slice none 0 0, .slice none 0 0, .slice none 0 0] 50)).heap.size = w7.heap.size + 1 := by simp
  generalize ((w7.drewN q8).alloc (.cells #[.int .i64 0, .slice none 0 0, .slice none 0 0, .slice none 0 0, .slice none 0 0, .slice none 0 0, .slice none 0 0, .slice none 0 0, .slice none 0 0, .slice none 0 0, .slice none 0 0, .slice none 0 0, .slice none 0 0, .slice none 0 0, .slice none 0 0, .slice none 0 0, .slice none 0 0, .slice none 0 0, .slice none 0 0, .slice none 0 0, .slice none 0 0] 50)) = w9 at n79 hg9 hz9
  obtain ⟨cur0, hcur0⟩ : ∃ cur0 : Array Value, cur0 = #[.int .i64 0, .slice none 0 0, .slice none 0 0, .slice none 0 0, .slice none 0 0, .slice none 0 0, .slice none 0 0, .slice none 0 0, .slice none 0 0, .slice none 0 0, .slice none 0 0, .slice none 0 0, .slice none 0 0, .slice none 0 0, .slice none 0 0, .slice none 0 0, .slice none 0 0, .slice none 0 0, .slice none 0 0, .slice none 0 0, .slice none 0 0] := ⟨_, rfl⟩
  rw [← hcur0] at hg9
  have hz0 : ∀ k, 2 ≤ k → k ≤ 20 → cur0[k]? = some (.slice none 0 0) := by
    intro k h1 h2
    rw [hcur0]
    have : k = 2 ∨ k = 3 ∨ k = 4 ∨ k = 5 ∨ k = 6 ∨ k = 7 ∨ k = 8 ∨ k = 9 ∨ k = 10 ∨ k = 11 ∨ k = 12 ∨ k = 13 ∨ k = 14 ∨ k = 15 ∨ k = 16 ∨ k = 17 ∨ k = 18 ∨ k = 19 ∨ k = 20 := by omega
    rcases this with rfl | rfl | rfl | rfl | rfl | rfl | rfl | rfl | rfl | rfl | rfl | rfl | rfl | rfl | rfl | rfl | rfl | rfl | rfl <;> rfl
  have hsz0 : cur0.size = 21 := by rw [hcur0]; rfl
  have hB0 : BookB Look w9 w7.heap.size cur0 none 0 [] := ⟨hg9, by rw [hcur0]; rfl, Own.nil _ _ _, Bk.none_, by simp, by simp⟩
  have hi0 : cur0[0]? = some (.int .i64 ((0 : Nat) : Int)) := by rw [hcur0]; rfl
  have b7 : ∀ (A : Option Addr) (n c : Nat) (xs : List Value), Own w7 5 1 A c n xs → ∀ x, Bk A x → x < w7.heap.size := fun A n c xs h => h.lt
  have b1 := b7 _ _ _ _ HO.out.1
  have b2 := b7 _ _ _ _ HO.out.2.1
  have b4 := b7 _ _ _ _ HO.out.2.2.1
  have b5 := b7 _ _ _ _ HO.out.2.2.2.1
  clear b7
  -- they are apart
  have s2 := H2.out.2.2.1.size
  have s3 := HN3.out.1.size
  have s4 := H4.out.2.2.1.size
  have s5 := H5.out.2.2.1.size
  have l1 := H1.out.2.1.lt
  have l2 := H2.out.2.1.lt
  have l4 := H4.out.2.1.lt
  have l5 := H5.out.2.1.lt
  have a2 := H2.out.2.2.2
  have a4 := H4.out.2.2.2
  have a5 := H5.out.2.2.2
  have HB := Lib.hid (And.intro n79 (And.intro hB0 (And.intro hi0 (And.intro hz0 (And.intro hsz0 hg9)))))
  have HX := Lib.hid (And.intro b1 (And.intro b2 (And.intro b4 b5)))
  have HA := Lib.hid (And.intro (And.intro l1 (And.intro l2 (And.intro l4 l5))) (And.intro a2 (And.intro a4 a5)))
  clear n79 hB0 hi0 hz0 hsz0 hg9 b1 b2 b4 b5 l1 l2 l4 l5 a2 a4 a5 hcur0
  refine (KeepB_calls w9 w7.heap.size 0 cur0 none A2 0 n2 c2 [] (fr r) HB.out.2.1 HB.out.2.2.1 (by omega) (by simp) (HO.out.2.1.new HB.out.1) H2.out.1 (by omega) (fun x hx => ⟨by have := HX.out.2.1 x hx; omega, Bk.none_, by simp⟩)).mono ?_
  rintro e w10 ⟨rfl, P1, p1c, p1, hP1, hk10, hP1n, hp1⟩
  have h10 := Lib.hid (And.intro hP1 (And.intro hk10 (And.intro hP1n hp1)))
  clear hP1 hk10 hP1n hp1
  go_wp2_with fail
  refine (KeepB_calls w10 w7.heap.size 1 _ P1 A4 p1c n4 c4 ([] ++ [p1]) (fr o) h10.out.1 ?_ (by omega) (by simp) ?_ H4.out.1 (by omega) ?_).mono ?_
  · have := HB.out.2.2.2.2.1
    rw [setIf_ne _ (by omega), setIf_get _ (by omega)]
  · exact (HO.out.2.2.1.new HB.out.1).kp h10.out.2.1 (fun x hx h => by
      have := HX.out.2.2.1 x hx
      have := HA.out.2.2.1 x hx
      rcases h with h | h | h
      · omega
      · exact Bk.none_ h
      · have := HA.out.1.2.1 x h
        omega)
  · intro x hx
    have e1 := HX.out.2.2.1 x hx
    have e2 := HA.out.2.2.1 x hx
    refine ⟨by omega, fun h => (h10.out.2.2.1 x h).elim Bk.none_ (fun h => by omega), fun q hq hf => ?_⟩
    simp only [List.nil_append, List.mem_singleton] at hq
    subst hq
    rcases h10.out.2.2.2 x hf with h | h
    · have := HA.out.1.2.1 x h
      omega
    · omega
  rintro e w11 ⟨rfl, P2, p2c, p2, hP2, hk11, hP2n, hp2⟩
  have h11 := Lib.hid (And.intro hP2 (And.intro hk11 (And.intro hP2n hp2)))
  clear hP2 hk11 hP2n hp2
  go_wp2_with fail
  have z10 := h10.out.2.1.size
  have z11 := h11.out.2.1.size
  have hP2 : ∀ x, Bk P2 x → w9.heap.size ≤ x := fun x h => (h11.out.2.2.1 x h).elim (fun h => (h10.out.2.2.1 x h).elim (fun h => absurd h Bk.none_) id) (fun h => by omega)
  have hp12 : ∀ q ∈ [] ++ [p1] ++ [p2], ∀ x, q.Fp x → Bk A2 x ∨ Bk A4 x ∨ w9.heap.size ≤ x := by
    intro q hq x hf
    simp only [List.nil_append, List.mem_append, List.mem_singleton] at hq
    rcases hq with rfl | rfl
    · exact (h10.out.2.2.2 x hf).elim .inl (fun h => .inr (.inr h))
    · exact (h11.out.2.2.2 x hf).elim (fun h => .inr (.inl h)) (fun h => .inr (.inr (by omega)))
  refine (WriteB_calls w11 w7.heap.size 2 _ P2 A5 p2c n5 c5 ([] ++ [p1] ++ [p2]) (bcs (fr r)) h11.out.1 ?_ (by omega) (by simp) ?_ (by omega) ?_).mono ?_
  · have := HB.out.2.2.2.2.1
    rw [setIf_ne _ (by omega), setIf_get _ (by simp; omega)]
  · exact ((HO.out.2.2.2.1.new HB.out.1).kp h10.out.2.1 (fun x hx h => by
      have := HX.out.2.2.2 x hx
      have := HA.out.2.2.2 x hx
      rcases h with h | h | h
      · omega
      · exact Bk.none_ h
      · have := HA.out.1.2.1 x h
        omega)).kp h11.out.2.1 (fun x hx h => by
      have := HX.out.2.2.2 x hx
      have := HA.out.2.2.2 x hx
      rcases h with h | h | h
      · omega
      · exact (h10.out.2.2.1 x h).elim Bk.none_ (fun h => by omega)
      · have := HA.out.1.2.2.1 x h
        omega)
  · intro x hx
    have e1 := HX.out.2.2.2 x hx
    have e2 := HA.out.2.2.2 x hx
    refine ⟨by omega, fun h => by have := hP2 x h; omega, fun q hq hf => ?_⟩
    rcases hp12 q hq x hf with h | h | h
    · have := HA.out.1.2.1 x h
      omega
    · have := HA.out.1.2.2.1 x h
      omega
    · omega
  rintro e w12 ⟨rfl, P3, p3c, p3, hP3, hk12, hP3n, hp3⟩
  have h12 := Lib.hid (And.intro hP3 (And.intro hk12 (And.intro hP3n hp3)))
  clear hP3 hk12 hP3n hp3
  have z12 := h12.out.2.1.size
  have hA1 : Own w12 5 1 A1 c1 (r.length + 64) (bcs (r ++ marksB 700000 64)) := by
    refine (((HO.out.1.new HB.out.1).kp h10.out.2.1 (fun x hx h => ?_)).kp h11.out.2.1 (fun x hx h => ?_)).kp h12.out.2.1 (fun x hx h => ?_)
    all_goals
      have e1 := HX.out.1 x hx
      have e2 := HA.out.1.1 x hx
      rcases h with h | h | h
    · omega
    · exact Bk.none_ h
    · have := HA.out.2.1 x h
      omega
    · omega
    · exact (h10.out.2.2.1 x h).elim Bk.none_ (fun h => by omega)
    · have := HA.out.2.2.1 x h
      omega
    · omega
    · have := hP2 x h
      omega
    · have := HA.out.2.2.2 x h
      omega
  have HA1 := Lib.hid hA1
  have HQ := Lib.hid (And.intro hP2 hp12)
  clear hA1 hP2 hp12
  go_wp2_with fail
  go_loopw [18] (fun i wr => ∃ (k : Nat) (L : List UInt8), k ≤ r.length + 64 ∧ i = .int .i64 (k : Int) ∧ Hid (L.length = r.length + 64 ∧ Own wr 5 1 A1 c1 (r.length + 64) (bcs L) ∧ Kp (Bk A1) w12 wr)) (fun i _ => r.length + 64 - (intOf i).toNat)
  case atStart => exact ⟨0, r ++ marksB 700000 64, Nat.zero_le _, rfl, Lib.hid ⟨by rw [List.length_append, marksB_length], HA1.out, Kp.refl _ _⟩⟩
  case round =>
    obtain ⟨k, L, hk, rfl, HI⟩ := hrel
    by_cases hlt : k < r.length + 64
    · obtain ⟨a, rfl⟩ := HI.out.2.1.some_ (by omega)
      have hkL : k < L.length := by rw [HI.out.1]; exact hlt
      have fc : wr.cell? ⟨a, k, none⟩ = some (.int .u8 ((L[k]'hkL).toNat : Int)) := HI.out.2.1.cell (by simp [bcs, hkL])
      have fz : wr.frozen? ⟨a, k, none⟩ = false := HI.out.2.1.frozen k
      have hki : (k : Int) < (r.length : Int) + 64 := by omega
      have hk0 : (0 : Int) ≤ k := by omega
      generalize L[k]'hkL = y at fc
      go_wp2_with fail
      have hby := bounds_u8 (wf_bits .xor .u8 (y.toNat : Int) ((k : Int) % 2 + 1))
      generalize bits BinOp.xor IntKind.u8 (y.toNat : Int) ((k : Int) % 2 + 1) = z at hby
      refine ⟨⟨k + 1, L.set k (UInt8.ofNat z.toNat), by omega, by go_num, Lib.hid ⟨by rw [List.length_set]; exact HI.out.1, ?_, HI.out.2.2.trans (Kp.setCell wr ⟨a, k, none⟩ _ (Bk.some_.2 rfl)) (fun _ _ h => h) (fun _ _ h => h)⟩⟩, by simp [intOf]; omega⟩
      have hset : bcs (L.set k (UInt8.ofNat z.toNat)) = (bcs L).set k (.int .u8 z) := by
        unfold bcs
        rw [List.map_set]
        congr 1
        show Value.int .u8 ((UInt8.ofNat z.toNat).toNat : Int) = _
        rw [UInt8.toNat_ofNat']
        congr 1
        omega
      rw [hset]
      exact HI.out.2.1.set k _
    · obtain rfl : k = r.length + 64 := by omega
      have hl1 : (L.take r.length).length = r.length := by rw [List.length_take, HI.out.1]; omega
      have hrd := HI.out.2.1.rd2.upto r.length
      obtain ⟨l', hl'⟩ : ∃ l', L.take r.length = l' := ⟨_, rfl⟩
      rw [hl'] at hl1 hrd
      have HL := Lib.hid (And.intro hl1 hrd)
      clear hl1 hrd hl'
      have zr := HI.out.2.2.size
      go_wp2_with fail
      refine (FrameAny_calls wr A1 r.length c1 l' HL.out.2 HL.out.1.symm).mono ?_
      rintro e w13 ⟨A13, n13, c13, rfl, hp, hb_13⟩
      have H13 := Lib.hid hp
      clear hp
      go_wp2_with fail
      refine (RefAny_calls w13 A1 r.length c1 l' (HL.out.2.new H13.out.2.2.1) HL.out.1.symm).mono ?_
      rintro e w14 ⟨A14, n14, c14, rfl, hp, hb_14⟩
      have H14 := Lib.hid hp
      clear hp
      go_wp2_with fail
      have z13 := H13.out.2.2.1.size
      have z14 := H14.out.2.2.1.size
      have zw := HN7.out.size
      have s1 := H1.out.2.2.1.size
      have hP3 : ∀ x, Bk P3 x → w9.heap.size ≤ x := fun x h => (h12.out.2.2.1 x h).elim (HQ.out.1 x) (fun h => by omega)
      have hps : ∀ q ∈ [] ++ [p1] ++ [p2] ++ [p3], ∀ x, q.Fp x → Bk A2 x ∨ Bk A4 x ∨ Bk A5 x ∨ w9.heap.size ≤ x := by
        intro q hq x hf
        rcases List.mem_append.1 hq with hq | hq
        · exact (HQ.out.2 q hq x hf).imp id (Or.imp id Or.inr)
        · rw [List.mem_singleton] at hq
          subst hq
          exact (h12.out.2.2.2 x hf).elim (fun h => .inr (.inr (.inl h))) (fun h => .inr (.inr (.inr (by omega))))
      have n9 : New w w9 := HN7.out.trans HB.out.1 (fun _ _ h => h) (fun _ _ h => h)
      have a2w : ∀ x, Bk A2 x → w.heap.size ≤ x := fun x h => by have := HA.out.2.1 x h; omega
      have a4w : ∀ x, Bk A4 x → w.heap.size ≤ x := fun x h => by have := HA.out.2.2.1 x h; omega
      have a5w : ∀ x, Bk A5 x → w.heap.size ≤ x := fun x h => by have := HA.out.2.2.2 x h; omega
      have n10 : New w w10 := n9.trans h10.out.2.1 (fun _ _ h => h) (fun x hx h => by
        rcases h with h | h | h
        · omega
        · exact Bk.none_ h
        · have := a2w x h
          omega)
      have n11 : New w w11 := n10.trans h11.out.2.1 (fun _ _ h => h) (fun x hx h => by
        rcases h with h | h | h
        · omega
        · exact (h10.out.2.2.1 x h).elim Bk.none_ (fun h => by omega)
        · have := a4w x h
          omega)
      have n12 : New w w12 := n11.trans h12.out.2.1 (fun _ _ h => h) (fun x hx h => by
        rcases h with h | h | h
        · omega
        · have := HQ.out.1 x h
          omega
        · have := a5w x h
          omega)
      have nr : New w wr := n12.trans HI.out.2.2 (fun _ _ h => h) (fun x hx h => by have := H1.out.2.2.2 x h; omega)
      have n1314 : New wr w14 := H13.out.2.2.1.trans H14.out.2.2.1 (fun _ _ h => h) (fun _ _ h => h)
      have n14 : New w w14 := nr.trans n1314 (fun _ _ h => h) (fun _ _ h => h)
      obtain ⟨cur3, hB3, hz3⟩ : ∃ cur3, BookB Look w12 w7.heap.size cur3 P3 p3c ([] ++ [p1] ++ [p2] ++ [p3]) ∧ ∀ k, 2 ≤ k → k ≤ 20 → cur3[k]? = some (.slice none 0 0) := by
        refine ⟨_, h12.out.1, fun k hk1 hk2 => ?_⟩
        rw [setIf_ne _ (by omega), setIf_ne _ (by omega), setIf_ne _ (by omega), setIf_ne _ (by omega), setIf_ne _ (by omega), setIf_ne _ (by omega)]
        exact HB.out.2.2.2.1 k hk1 hk2
      have hBr : BookB Look wr w7.heap.size cur3 P3 p3c ([] ++ [p1] ++ [p2] ++ [p3]) := by
        refine ⟨(HI.out.2.2.block w7.heap.size (by omega) (fun h => by have := HX.out.1 _ h; omega)).trans hB3.1, hB3.2.1, hB3.2.2.kp Look.stable HI.out.2.2 (fun x hx h => ?_) (fun q hq x hf h => ?_)⟩
        · have := hP3 x hx
          have := HX.out.1 x h
          omega
        · have e1 := HA.out.1.1 x h
          have e2 := HX.out.1 x h
          rcases hps q hq x hf with h | h | h | h
          · have := HA.out.2.1 x h
            omega
          · have := HA.out.2.2.1 x h
            omega
          · have := HA.out.2.2.2 x h
            omega
          · omega
      have hfpl := hBr.lt
      have hbb : BB Look w7.heap.size w [(A13, fr l'), (A14, fr l')] w14 := by
        refine ⟨cur3, P3, p3c, [] ++ [p1] ++ [p2] ++ [p3], ⟨(n1314.block w7.heap.size (by omega) id).trans hBr.1, hBr.2.1, hBr.2.2.new Look.stable n1314⟩, by simp, hz3, n14, by omega, fun x hx => ?_, fun q hq => ?_⟩
        · rcases hx with hx | ⟨q, hq, hf⟩
          · have := hP3 x hx
            omega
          · rcases hps q hq x hf with h | h | h | h
            · exact a2w x h
            · exact a4w x h
            · exact a5w x h
            · omega
        · simp only [List.mem_cons, List.not_mem_nil, or_false] at hq
          rcases hq with rfl | rfl
          · refine ⟨H13.out.2.1.rd2.new H14.out.2.2.1, fun x hx => ?_⟩
            have e1 := H13.out.2.1.lt x hx
            have e2 := H13.out.2.2.2 x hx
            exact ⟨by omega, by omega, fun hf => by have := hfpl x hf; omega⟩
          · refine ⟨H14.out.2.1.rd2, fun x hx => ?_⟩
            have e1 := H14.out.2.1.lt x hx
            have e2 := H14.out.2.2.2 x hx
            exact ⟨by omega, by omega, fun hf => by have := hfpl x hf; omega⟩
      refine (settleBB w7.heap.size w _ w14 hbb).mono ?_
      clear hbb hfpl hBr hB3 hz3 n1314 n14 nr n12 n11 n10 a5w a4w a2w n9 hps hP3
      rintro e w15 ⟨rfl, curE, AE, cE, psE, hBE, _, _, hnE, _, _, hrE⟩
      have hx1 := (hrE (A13, fr l') (by simp)).1
      have hx2 := (hrE (A14, fr l') (by simp)).1
      have hv : ∀ (A : Option Addr) (n c : Nat) (l : List UInt8), RdB w15 A l → n = l.length → (convert 22 9 (.slice A n c)).run Tryz.prog w15 = .ok (.string (bstr l)) w15 := fun A n c l h hn => hn ▸ run_conv_RdB _ Tryz.underlying22 Tryz.underlying5 Tryz.underlying9 c h
      have v13 := hv A13 n13 c13 (fr l') hx1 H13.out.1
      have v14 := hv A14 n14 c14 (fr l') hx2 H14.out.1
      have HE := Lib.hid hnE
      clear hv hx1 hx2 hrE hBE hnE
      go_wp2_with fail
      go_ret
      exact ⟨rfl, HE.out⟩
end Go.Proofs.YtdgpnpagbhikoaaGreatDoor.Kit
