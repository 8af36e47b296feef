/- A daily view asked: At, Between, State. -/
import Derived.Test.YtejmndfdmikfaaaDoorView9
namespace Go.Proofs.YtejmndfdmikfaaaDoor.Kit
open Go Go.RowKit

theorem upto_count (xs : List (Int × Int × Int)) (d : Int) : (xs.countP fun x => !decide (d < x.1)) = upto xs d := by
  unfold upto
  refine List.countP_congr fun x _ => ?_
  simp only [Bool.not_eq_true', decide_eq_true_eq, decide_eq_false_iff_not]
  omega
set_option maxRecDepth 100000 in
set_option maxHeartbeats 2000000 in
theorem At_calls (w : World) (v : Nat) (O : DO) (F : Nat → Prop) (M : Nat) (n : List UInt8) (d : Int) (h : ViewD w v O F M) (hM : M ≤ 1099511627776) :
    Calls Tryd.prog 26 #[.pointer (some ⟨v, 0, none⟩), .string (bstr n), .int .i64 d] w fun e w' => e = .returned (.int .i64 (bal (O n) d)) ∧ New w w' := by
  obtain ⟨m, ms, hB⟩ := h
  obtain ⟨xs, hxs⟩ : ∃ xs, days (O n) = xs := ⟨_, rfl⟩
  obtain ⟨A, hA⟩ : ∃ A, (ms.at_ n).A = A := ⟨_, rfl⟩
  obtain ⟨c, hc⟩ : ∃ c, (ms.at_ n).c = c := ⟨_, rfl⟩
  have hlm := hB.len_at n
  have hrise := days_rise (O n)
  have hown := hB.rd n
  rw [hxs] at hlm hrise hown
  rw [hA, hc] at hown
  obtain ⟨W0, hW0⟩ : ∃ W0, (w.alloc (.cells #[.int .i64 d] 3)).alloc (.cells #[.slice A xs.length c] 98) = W0 := ⟨_, rfl⟩
  have n1 : New w (w.alloc (.cells #[.int .i64 d] 3)) := Kp.alloc _ _ _
  have n0 : New w W0 := hW0 ▸ n1.trans (Kp.alloc _ _ _) (fun _ _ h => h) (fun _ _ h => h)
  have hB1 := hB.new n1
  have c0 : (w.alloc (.cells #[.int .i64 d] 3)).cell? ⟨v, 0, none⟩ = some (.map (some m)) := (cell_of_block hB1.blk).trans rfl
  have hlook := hB1.look n
  rw [hxs, hA, hc] at hlook
  have b2 : W0.cell? ⟨w.heap.size, 0, none⟩ = some (.int .i64 d) := by
    rw [← hW0]
    exact New.cell (Kp.alloc _ _ _) ((cell_of_block (heap_alloc_new w _)).trans rfl)
  have b1 : W0.cell? ⟨w.heap.size + 1, 0, none⟩ = some (.slice A xs.length c) := by rw [← hW0]; exact (cell_of_block (alloc2_new w _ _)).trans rfl
  have hS := searchA_calls W0 (w.heap.size + 1) w.heap.size xs.length c A xs d b1 b2 (hown.rdc.new n0) rfl hrise (by omega)
  rw [upto_count] at hS
  obtain ⟨i, hi⟩ : ∃ i, upto xs d = i := ⟨_, rfl⟩
  rw [hi] at hS
  have hil : i ≤ xs.length := hi ▸ upto_le xs d
  have HX := Lib.hid (And.intro hxs (And.intro hi (And.intro n0 (And.intro (hown.new n0) hW0))))
  have HB1 := Lib.hid b1
  have hxb : xs.length ≤ 1099511627776 := by omega
  clear hB hB1 hlm hrise hown hW0 n0 n1 hi b2 b1 hA hc
  go_enter Tryd.func26, Tryd.ntmps26
  go_wp2_with fail
  rw [HX.out.2.2.2.2]
  refine hS.mono ?_
  rintro e w1 ⟨rfl, hn1⟩
  have b1 := New.cell hn1 HB1.out
  have HN := Lib.hid hn1
  clear hn1 hS hlook c0
  by_cases h0 : i = 0
  · subst h0
    go_wp2_with fail
    go_ret
    exact ⟨by rw [at_none (by rw [HX.out.1, HX.out.2.1])]; rfl, HX.out.2.2.1.trans HN.out (fun _ _ h => h) (fun _ _ h => h)⟩
  · obtain ⟨j, rfl⟩ : ∃ j, i = j + 1 := ⟨i - 1, by omega⟩
    obtain ⟨x, hx⟩ : ∃ x, xs[j]? = some x := ⟨_, List.getElem?_eq_getElem (by omega)⟩
    obtain ⟨g, rfl⟩ := HX.out.2.2.2.1.some_ (by omega)
    have hcell := HX.out.2.2.2.1.rdc
    obtain ⟨g', off, hg, hc⟩ := RdC.elem dcells_len hcell (by decide) hx
    cases hg
    have q2 := New.cell HN.out (hc 2 _ rfl)
    rw [Nat.zero_add] at q2
    have hbal := at_some (l := O n) (d := d) (by rw [HX.out.1, HX.out.2.1]) (by rw [HX.out.1]; exact hx)
    have HH := Lib.hid hbal
    have hji : (j : Int) < (xs.length : Int) := by omega
    have hj0 : (0 : Int) ≤ j := by omega
    have hjb : (j : Int) ≤ 1099511627776 := by omega
    have hjs : ((j + 1 : Nat) : Int) - 1 = (j : Int) := by omega
    have hjn : ¬ ((j + 1 : Nat) : Int) = 0 := by omega
    simp only [Int.natCast_add, Int.cast_ofNat_Int] at hjs hjn
    clear hx hc hcell hbal h0
    go_wp2_with fail
    go_ret
    exact ⟨by rw [HH.out]; rfl, HX.out.2.2.1.trans HN.out (fun _ _ h => h) (fun _ _ h => h)⟩
theorem RdC.part {w : World} {A : Option Addr} {cs : List Value} (h : RdC w A cs) (c lo k sz : Nat) (hc : cs.length ≤ c * sz) : RdC w (adv A c lo sz) ((cs.drop (lo * sz)).take (k * sz)) := by
  intro hne
  have hlen : 0 < ((cs.drop (lo * sz)).take (k * sz)).length := List.length_pos_iff.2 hne
  rw [List.length_take, List.length_drop] at hlen
  obtain ⟨b, off, rfl, hcell⟩ := h (by rintro rfl; simp at hlen)
  refine ⟨b, off + lo * sz, ?_, fun j u hu => ?_⟩
  · unfold adv
    rw [if_neg (by rintro rfl; omega)]
    simp [Addr.add_lit]
  · rw [List.getElem?_take] at hu
    split at hu
    · rw [List.getElem?_drop] at hu
      rw [Nat.add_assoc]
      exact hcell _ u hu
    · cases hu
theorem Tryd.size_sums : (Tryd.prog.info? 107).map (·.size) = some 3 := by kernel_rfl
set_option maxRecDepth 100000 in
set_option maxHeartbeats 4000000 in
theorem Between_calls (w : World) (v : Nat) (O : DO) (F : Nat → Prop) (M : Nat) (n : List UInt8) (fr to : Int) (h : ViewD w v O F M) (hM : M ≤ 1099511627776) :
    Calls Tryd.prog 28 #[.pointer (some ⟨v, 0, none⟩), .string (bstr n), .int .i64 fr, .int .i64 to] w (RowsPost w ((betw (O n) fr to).map (drOf n))) := by
  obtain ⟨m, ms, hB⟩ := h
  obtain ⟨xs, hxs⟩ : ∃ xs, days (O n) = xs := ⟨_, rfl⟩
  obtain ⟨A, hA⟩ : ∃ A, (ms.at_ n).A = A := ⟨_, rfl⟩
  obtain ⟨c, hc⟩ : ∃ c, (ms.at_ n).c = c := ⟨_, rfl⟩
  have hlm := hB.len_at n
  have hrise := days_rise (O n)
  have hown := hB.rd n
  rw [hxs] at hlm hrise hown
  rw [hA, hc] at hown
  obtain ⟨W0, hW0⟩ : ∃ W0, (w.alloc (.cells #[.int .i64 to] 3)).alloc (.cells #[.slice A xs.length c] 98) = W0 := ⟨_, rfl⟩
  have n1 : New w (w.alloc (.cells #[.int .i64 to] 3)) := Kp.alloc _ _ _
  have n0 : New w W0 := hW0 ▸ n1.trans (Kp.alloc _ _ _) (fun _ _ h => h) (fun _ _ h => h)
  have hB1 := hB.new n1
  have c0 : (w.alloc (.cells #[.int .i64 to] 3)).cell? ⟨v, 0, none⟩ = some (.map (some m)) := (cell_of_block hB1.blk).trans rfl
  have hlook := hB1.look n
  rw [hxs, hA, hc] at hlook
  have b2 : W0.cell? ⟨w.heap.size, 0, none⟩ = some (.int .i64 to) := by
    rw [← hW0]
    exact New.cell (Kp.alloc _ _ _) ((cell_of_block (heap_alloc_new w _)).trans rfl)
  have b1 : W0.cell? ⟨w.heap.size + 1, 0, none⟩ = some (.slice A xs.length c) := by rw [← hW0]; exact (cell_of_block (alloc2_new w _ _)).trans rfl
  have hP := placeOfD_calls W0 A xs.length c xs fr (hown.rdc.new n0) rfl hrise (by omega)
  obtain ⟨i, hi⟩ : ∃ i, place xs fr = i := ⟨_, rfl⟩
  rw [hi] at hP
  obtain ⟨j, hj⟩ : ∃ j, upto xs to = j := ⟨_, rfl⟩
  have hil : i ≤ xs.length := hi ▸ place_le xs fr
  have hjl : j ≤ xs.length := hj ▸ upto_le xs to
  have hcap := hown.cap
  have hxb : xs.length ≤ 1099511627776 := by omega
  have HX := Lib.hid (And.intro hxs (And.intro hi (And.intro hj (And.intro n0 (And.intro (hown.new n0) (And.intro hW0 hrise))))))
  have HB1 := Lib.hid (And.intro b1 b2)
  clear hB hB1 hlm hrise hown n0 n1 hi hj b2 hA hc
  go_enter Tryd.func28, Tryd.ntmps28
  go_wp2_with fail
  clear hW0 b1
  refine hP.mono ?_
  rintro e w1 ⟨rfl, hn1⟩
  have b1 := New.cell hn1 HB1.out.1
  have b2 := New.cell hn1 HB1.out.2
  have hS := searchB_calls w1 (w.heap.size + 1) w.heap.size xs.length c A xs to b1 b2 ((HX.out.2.2.2.2.1.rdc).new hn1) rfl HX.out.2.2.2.2.2.2 (by omega)
  rw [upto_count, HX.out.2.2.1] at hS
  have HN := Lib.hid hn1
  clear hn1 hP hlook c0 b2
  go_wp2_with fail
  refine hS.mono ?_
  rintro e w2 ⟨rfl, hn2⟩
  have b1 := New.cell hn2 b1
  have hn02 : New w w2 := (HX.out.2.2.2.1.trans HN.out (fun _ _ h => h) (fun _ _ h => h)).trans hn2 (fun _ _ h => h) (fun _ _ h => h)
  have HN2 := Lib.hid (And.intro hn02 (HN.out.trans hn2 (fun _ _ h => h) (fun _ _ h => h)))
  clear hn2 hn02 hS
  by_cases hij : j ≤ i
  · have hiji : (j : Int) ≤ (i : Int) := by omega
    go_wp2_with fail
    go_ret
    have e := betw_nil (l := O n) (a := fr) (b := to) (by rw [HX.out.1, HX.out.2.1, HX.out.2.2.1]; exact hij)
    rw [e]
    exact ⟨none, 0, rfl, Own.nil _ _ _, HN2.out.1, fun k h => absurd h Bk.none_⟩
  · have hiji : ¬ (j : Int) ≤ (i : Int) := by omega
    have hsl := run_slice_mid (P := Tryd.prog) 98 107 Tryd.underlying98 3 Tryd.size_sums A xs.length c i j (by omega) (by omega)
    obtain ⟨A2, hA2⟩ : ∃ A2, adv A c i 3 = A2 := ⟨_, rfl⟩
    obtain ⟨k, hk⟩ : ∃ k, j - i = k := ⟨_, rfl⟩
    obtain ⟨c2, hc2⟩ : ∃ c2, c - i = c2 := ⟨_, rfl⟩
    have hown2 := (HX.out.2.2.2.2.1.rdc).new HN2.out.2
    have hrd := RdC.part hown2 c i (j - i) 3 (by rw [flat_length dcells_len]; exact Nat.mul_le_mul_right _ hcap.1)
    have hmid := betw_mid (l := O n) (a := fr) (b := to) (by rw [HX.out.1, HX.out.2.1, HX.out.2.2.1]; omega)
    rw [HX.out.1, HX.out.2.1, HX.out.2.2.1] at hmid
    have hR := rows_calls w2 n A2 k c2 ((xs.drop i).take (j - i)) (by
      rw [fl_take dcells_len, fl_drop dcells_len, ← hA2]
      exact hrd) (by rw [List.length_take, List.length_drop]; omega) (by omega)
    rw [hA2, hk, hc2] at hsl
    rw [← hmid] at hR
    have HR := Lib.hid hR
    clear hown2 hrd hmid hA2 hk hc2 hij hR
    go_wp2_with fail
    refine HR.out.mono ?_
    rintro e w3 ⟨A3, c3, rfl, ho, hn3, hA3⟩
    have H3 := Lib.hid (And.intro ho (And.intro (HN2.out.1.trans hn3 (fun _ _ h => h) (fun _ _ h => h)) (fun k hk => Nat.le_trans HN2.out.1.size (hA3 k hk))))
    clear ho hn3 hA3
    go_wp2_with fail
    go_ret
    exact ⟨A3, c3, by rw [List.length_map]; rfl, H3.out.1, H3.out.2.1, H3.out.2.2⟩
end Go.Proofs.YtejmndfdmikfaaaDoor.Kit
