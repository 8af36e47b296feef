/- 1 texts in one: daybookkeep: all pages of Files of a book: looked at, written full, appended to. -/
import Derived.Test.YtekcoeonlfmebaaGreatDoorM7
import Derived.Test.YtekcoeonlfmebaaGreatDoorM6
namespace Go.Proofs.YtekcoeonlfmebaaGreatDoor.Kit
open Go Go.RowKit
theorem showsFiles_look (w : World) (p : Pg) (h : KeptE kFiles w p ∨ GrownE kFiles w p) (hT : Tab w) (v : Value) (hv : v = .agg #[.slice p.L p.n p.c, .slice p.G p.gn p.gc, .slice p.U p.un p.uc, .int .i64 (p.id : Int), .bool p.done]) :
  Calls Tryz.prog 142 #[v] w fun e w' => e = .returned (.bool true) ∧ New w w' := by
 subst hv
 obtain ⟨L, n, c, G, gn, gc, U, un, uc, id, done⟩ := p
 rcases h with h | h
 ·obtain ⟨h1, h2, h3, h4, h5, h6, h7, xs, h8, h9, h10⟩ := h
  simp only at h1 h2 h3 h4 h7
  subst h1 h2 h3 h4 h7
  exact showsFiles_kept w L U un c uc id xs h8.rdC h9 h8.1 h10 h6
 ·obtain ⟨h1, h2, h3, h4, h5, h6⟩ := h
  simp only at h1 h2
  subst h1 h2
  exact showsFiles_done w L G _ n c gc id h5 h6 h3 h4 hT
set_option maxHeartbeats 2000000 in
theorem intactFiles_calls (w : World) (g : Nat) (cur : Array Value) (A : Option Addr) (c : Nat) (ps : List Pg) (hB : BookE kFiles 24 (LookE kFiles) w g cur A c ps) (hps : ps.length ≤ 96) (hT : Tab w) :
  Calls Tryz.prog 37 #[.pointer (some ⟨g, 6, none⟩)] w fun e w' => e = .returned (.bool true) ∧ New w w' := by
 have H := Lib.hid hB
 have HT := Lib.hid hT
 clear hB hT
 go_enter Tryz.func37, Tryz.ntmps37
 go_wp2
 go_loopw [3] (fun i wr => ∃ k : Nat, k ≤ ps.length ∧ i = .int .i64 (k : Int) ∧ Hid (New w wr)) (fun i _ => ps.length - (intOf i).toNat)
 case atStart => exact ⟨0, Nat.zero_le _, rfl, Lib.hid (Kp.refl _ _)⟩
 case round =>
  obtain ⟨k, hk, rfl, HI⟩ := hrel
  have hPg := H.out.2.2.new (LookE.stable kFiles) HI.out
  have hlt0 := (Array.getElem?_eq_some_iff.1 H.out.1).1
  have hb : wr.heap[g]? = some (.cells cur 53 (0, 0)) := (HI.out.block g hlt0 id).trans H.out.1
  have f1 : wr.cell? ⟨g, 24, none⟩ = some (.slice A ps.length c) := (cell_of_block hb).trans H.out.2.1
  clear hb hlt0
  by_cases hlt : k < ps.length
  ·obtain ⟨hA, rfl⟩ := hPg.1.some_ (by omega)
   have hp : ps[k]? = some ps[k] := List.getElem?_eq_getElem hlt
   generalize ps[k] = p at hp
   have hc : ∀ j u, j < 5 → p.vals[j]? = some u → wr.cell? ⟨hA, k * 5 + j, none⟩ = some u := fun j u hj hu => hPg.1.cell ((flat_get ps k j p hp hj).trans hu)
   have e0 := hc 0 _ (by omega) rfl
   have e1 := hc 1 _ (by omega) rfl
   have e2 := hc 2 _ (by omega) rfl
   have e3 := hc 3 _ (by omega) rfl
   have e4 := hc 4 _ (by omega) rfl
   rw [Nat.add_zero] at e0
   have HP := Lib.hid (And.intro hp hPg)
   clear hc hp hPg
   have hki : (k : Int) < (ps.length : Int) := by omega
   have hk0 : (0 : Int) ≤ k := by omega
   go_wp2_with (go_at_call 142; refine (showsFiles_look _ p (HP.out.2.2.2.1 k p HP.out.1).1 (HT.out.new HI.out) _ rfl).mono ?_; rintro e w' ⟨rfl, hn⟩; have HN := Lib.hid hn; clear hn)
   exact ⟨⟨k + 1, by omega, by go_num, Lib.hid (HI.out.trans HN.out fid fid)⟩, by simp [intOf]; omega⟩
  ·obtain rfl : k = ps.length := by omega
   clear hPg
   go_wp2
   go_ret
   exact ⟨rfl, HI.out⟩
set_option maxHeartbeats 2000000 in
theorem fillsFiles_calls (w : World) (g : Nat) (cur : Array Value) (A : Option Addr) (c : Nat) (ps : List Pg) (hB : BookE kFiles 24 (LookE kFiles) w g cur A c ps) (hps : ps.length ≤ 96) (hT : Tab w) (htp : ¬ PsFp A ps 0) :
  Calls Tryz.prog 70 #[.pointer (some ⟨g, 6, none⟩)] w fun e w' => e = .returned (.tuple #[]) ∧ PsSoT kFiles.pt (FillE kFiles ps.length) w g A c ps w' := by
 have H := Lib.hid hB
 have HT := Lib.hid (And.intro hT htp)
 clear hB hT htp
 go_enter Tryz.func70, Tryz.ntmps70
 go_wp2
 go_loopw [2] (fun i wr => ∃ k : Nat, k ≤ ps.length ∧ i = .int .i64 (k : Int) ∧ Hid (PsSoT kFiles.pt (FillE kFiles k) w g A c ps wr)) (fun i _ => ps.length - (intOf i).toNat)
 case atStart => exact ⟨0, Nat.zero_le _, rfl, Lib.hid ⟨ps, rfl, H.out.2.2.imp (fun i p hp h => by unfold FillE; rw [if_neg (by omega)]; exact h), fun q hq x hx => .inl (.inr ⟨q, hq, hx⟩), Kp.refl _ _⟩⟩
 case round =>
  obtain ⟨k, hk, rfl, HI⟩ := hrel
  obtain ⟨ps', hlen, hPg, hfp, hkp⟩ := HI.out
  have hlt0 := (Array.getElem?_eq_some_iff.1 H.out.1).1
  have hgn : ¬ PsFp A ps g := fun h => h.elim H.out.2.2.2.1 (fun ⟨p, hp, hf⟩ => by obtain ⟨i, hi⟩ := List.mem_iff_getElem?.1 hp; exact (H.out.2.2.2.2.1 i p hi).2.1 hf)
  have hb : wr.heap[g]? = some (.cells cur 53 (0, 0)) := (hkp.block g hlt0 hgn).trans H.out.1
  have f1 : wr.cell? ⟨g, 24, none⟩ = some (.slice A ps.length c) := (cell_of_block hb).trans H.out.2.1
  have hgl : g < wr.heap.size := Nat.lt_of_lt_of_le hlt0 hkp.size
  clear hb hlt0 hgn
  by_cases hlt : k < ps.length
  ·obtain ⟨hA, rfl⟩ := hPg.1.some_ (by omega)
   have hp : ps'[k]? = some (ps'[k]'(by omega)) := List.getElem?_eq_getElem (by omega)
   generalize ps'[k]'(by omega) = p at hp
   obtain ⟨curA, hcA, hcv⟩ := hPg.1.block
   have hc : ∀ j u, j < 5 → p.vals[j]? = some u → curA[k * 5 + j]? = some u := fun j u hj hu => hcv _ _ ((flat_get ps' k j p hp hj).trans hu)
   have e4 : wr.cell? ⟨hA, k * 5 + 4, none⟩ = some (.bool p.done) := (cell_of_block hcA).trans (hc 4 _ (by omega) rfl)
   have hpk := (hPg.2.2.1 k p hp).1
   unfold FillE at hpk
   rw [if_neg (by omega)] at hpk
   have hki : (k : Int) < (ps.length : Int) := by omega
   have hk0 : (0 : Int) ≤ k := by omega
   have hLA : ∀ x, p.Fp x → ¬ Bk (some ⟨hA, 0, none⟩) x := fun x hx => ((hPg.2.2.1 k p hp).2.2 x hx).2
   have hLl : ∀ x, p.Fp x → x < wr.heap.size := fun x hx => ((hPg.2.2.1 k p hp).2.2 x hx).1
   have HP := Lib.hid (And.intro hlen (And.intro hPg (And.intro hfp (And.intro hkp (And.intro hp (And.intro hcA (And.intro hc (And.intro hLA (And.intro hLl hpk)))))))))
   clear hlen hPg hfp hkp hp hcA hcv hc hLA hLl HI
   rcases hpk with hpk | hpk
   ·have hd := hpk.1
    have HK := Lib.hid hpk
    clear hpk
    rw [hd] at e4
    have HD := Lib.hid hd
    clear hd
    go_wp2_with fail
    have hcv := HP.out.2.2.2.2.2.2.1
    obtain ⟨_, q2, q3, q4, q5, q6, q7, l, q9, q10, q11⟩ := HK.out
    have hi := hcv 3 (.int .i64 (p.id : Int)) (by omega) rfl
    refine (fillFiles_calls wr hA (k * 5) curA p.L p.c p.n p.id p.done l HP.out.2.2.2.2.2.1 (by have := hcv 0 _ (by omega) (rfl : p.vals[0]? = some (.slice p.L p.n p.c)); rwa [Nat.add_zero] at this) hi (hcv 4 _ (by omega) rfl) q9 (fun hb => HP.out.2.2.2.2.2.2.2.1 hA (.inl hb) (Bk.some_.2 rfl)) (by omega) q6 (HT.out.1.kp HP.out.2.2.2.1 HT.out.2) (fun hb => (HP.out.2.2.1 p (List.mem_of_getElem? HP.out.2.2.2.2.1) _ (.inl hb)).elim HT.out.2 (fun h => by have := HT.out.1.lt; omega))).mono ?_
    rintro e w2 ⟨rfl, r1, r2, r3⟩
    have HW := Lib.hid (And.intro r1 (And.intro r2 r3))
    clear r1 r2 r3 hi hcv
    go_wp2_with fail
    refine ⟨⟨k + 1, by omega, by go_num, Lib.hid ?_⟩, by simp [intOf]; omega⟩
    refine PsSoT.turn (i := k) (j := 4) (p := p) (p' := { p with done := true }) (v := .bool true) (P := FillE kFiles k) HP.out.1 HP.out.2.1 HP.out.2.2.1 HP.out.2.2.2.1 (FillE.stable kFiles k) HP.out.2.2.2.2.1 (by omega) rfl HP.out.2.2.2.2.2.1 HW.out.2.2 HW.out.2.1 (fun i q hik h => ?_) ?_ (fun x hx => .inl hx) (fun x hx => Nat.lt_of_lt_of_le (HP.out.2.2.2.2.2.2.2.2.1 x hx) HW.out.2.1.size) hgl
    ·unfold FillE at h ⊢
     by_cases hik2 : i < k
     ·rw [if_pos hik2] at h
      rw [if_pos (by omega)]
      exact h
     ·rw [if_neg hik2] at h
      rw [if_neg (by omega)]
      exact h
    ·unfold FillE
     rw [if_pos (by omega)]
     exact .inl ⟨rfl, q2, q3, q4, q5, q6, HW.out.1⟩
   ·have hd := hpk.1
    have HK := Lib.hid hpk
    clear hpk
    rw [hd] at e4
    have HD := Lib.hid hd
    clear hd
    go_wp2_with fail
    refine ⟨⟨k + 1, by omega, by go_num, Lib.hid ⟨ps', HP.out.1, HP.out.2.1.imp (fun i q hq h => ?_), HP.out.2.2.1, HP.out.2.2.2.1⟩⟩, by simp [intOf]; omega⟩
    unfold FillE at h ⊢
    by_cases hik2 : i < k
    ·rw [if_pos hik2] at h
     rw [if_pos (by omega)]
     exact h
    ·rw [if_neg hik2] at h
     by_cases hik : i = k
     ·subst hik
      rw [if_pos (by omega)]
      rw [HP.out.2.2.2.2.1] at hq
      cases hq
      exact .inr HK.out
     ·rw [if_neg (by omega)]
      exact h
  ·obtain rfl : k = ps.length := by omega
   clear hPg hlen hfp hkp
   go_wp2
   go_end0
   exact ⟨rfl, HI.out⟩
set_option maxHeartbeats 2000000 in
theorem growsFiles_calls (w : World) (g : Nat) (cur : Array Value) (A : Option Addr) (c : Nat) (ps : List Pg) (hB : BookE kFiles 24 (fun _ w p => FullE kFiles w p ∨ GrownE kFiles w p) w g cur A c ps) (hps : ps.length ≤ 96) (hT : Tab w) (htp : ¬ PsFp A ps 0) :
  Calls Tryz.prog 90 #[.pointer (some ⟨g, 6, none⟩)] w fun e w' => e = .returned (.tuple #[]) ∧ PsSoT kFiles.pt (GrowE kFiles ps.length) w g A c ps w' := by
 have H := Lib.hid hB
 have HT := Lib.hid (And.intro hT htp)
 clear hB hT htp
 go_enter Tryz.func90, Tryz.ntmps90
 go_wp2
 go_loopw [2] (fun i wr => ∃ k : Nat, k ≤ ps.length ∧ i = .int .i64 (k : Int) ∧ Hid (PsSoT kFiles.pt (GrowE kFiles k) w g A c ps wr)) (fun i _ => ps.length - (intOf i).toNat)
 case atStart => exact ⟨0, Nat.zero_le _, rfl, Lib.hid ⟨ps, rfl, H.out.2.2.imp (fun i p hp h => by unfold GrowE; rw [if_neg (by omega)]; exact h), fun q hq x hx => .inl (.inr ⟨q, hq, hx⟩), Kp.refl _ _⟩⟩
 case round =>
  obtain ⟨k, hk, rfl, HI⟩ := hrel
  obtain ⟨ps', hlen, hPg, hfp, hkp⟩ := HI.out
  have hlt0 := (Array.getElem?_eq_some_iff.1 H.out.1).1
  have hgn : ¬ PsFp A ps g := fun h => h.elim H.out.2.2.2.1 (fun ⟨p, hp, hf⟩ => by obtain ⟨i, hi⟩ := List.mem_iff_getElem?.1 hp; exact (H.out.2.2.2.2.1 i p hi).2.1 hf)
  have hb : wr.heap[g]? = some (.cells cur 53 (0, 0)) := (hkp.block g hlt0 hgn).trans H.out.1
  have f1 : wr.cell? ⟨g, 24, none⟩ = some (.slice A ps.length c) := (cell_of_block hb).trans H.out.2.1
  have hgl : g < wr.heap.size := Nat.lt_of_lt_of_le hlt0 hkp.size
  clear hb hlt0 hgn
  by_cases hlt : k < ps.length
  ·obtain ⟨hA, rfl⟩ := hPg.1.some_ (by omega)
   have hp : ps'[k]? = some (ps'[k]'(by omega)) := List.getElem?_eq_getElem (by omega)
   generalize ps'[k]'(by omega) = p at hp
   obtain ⟨curA, hcA, hcv⟩ := hPg.1.block
   have hc : ∀ j u, j < 5 → p.vals[j]? = some u → curA[k * 5 + j]? = some u := fun j u hj hu => hcv _ _ ((flat_get ps' k j p hp hj).trans hu)
   have e4 : wr.cell? ⟨hA, k * 5 + 1, none⟩ = some (.slice p.G p.gn p.gc) := (cell_of_block hcA).trans (hc 1 _ (by omega) rfl)
   have hpk := (hPg.2.2.1 k p hp).1
   unfold GrowE at hpk
   rw [if_neg (by omega)] at hpk
   have hki : (k : Int) < (ps.length : Int) := by omega
   have hk0 : (0 : Int) ≤ k := by omega
   have hLA : ∀ x, p.Fp x → ¬ Bk (some ⟨hA, 0, none⟩) x := fun x hx => ((hPg.2.2.1 k p hp).2.2 x hx).2
   have hLl : ∀ x, p.Fp x → x < wr.heap.size := fun x hx => ((hPg.2.2.1 k p hp).2.2 x hx).1
   have HP := Lib.hid (And.intro hlen (And.intro hPg (And.intro hfp (And.intro hkp (And.intro hp (And.intro hcA (And.intro hc (And.intro hLA (And.intro hLl hpk)))))))))
   clear hlen hPg hfp hkp hp hcA hcv hc hLA hLl HI
   rcases hpk with hpk | hpk
   ·have hd : p.gn = 0 := hpk.2.2.1
    have HK := Lib.hid hpk
    clear hpk
    rw [hd] at e4
    have HD := Lib.hid hd
    clear hd
    go_wp2_with fail
    have hcv := HP.out.2.2.2.2.2.2.1
    obtain ⟨q1, q2, q3, q4, q5, q6, q9⟩ := HK.out
    have hi := hcv 3 (.int .i64 (p.id : Int)) (by omega) rfl
    refine (growFiles_calls wr hA (k * 5) curA p.L p.c p.n p.id (.slice p.G p.gn p.gc) (kFiles.marks p.id p.n) HP.out.2.2.2.2.2.1 (by have := hcv 0 _ (by omega) (rfl : p.vals[0]? = some (.slice p.L p.n p.c)); rwa [Nat.add_zero] at this) (hcv 1 _ (by omega) rfl) hi q9 (fun hb => HP.out.2.2.2.2.2.2.2.1 hA (.inl hb) (Bk.some_.2 rfl)) q5 q6 (HT.out.1.kp HP.out.2.2.2.1 HT.out.2) (fun hb => (HP.out.2.2.1 p (List.mem_of_getElem? HP.out.2.2.2.2.1) _ (.inl hb)).elim HT.out.2 (fun h => by have := HT.out.1.lt; omega)) (fun e => HT.out.2 (.inl (e ▸ Bk.some_.2 rfl)))).mono ?_
    rintro e w2 ⟨rfl, G2, cG2, r1, r2, r3, r4, r5⟩
    have HW := Lib.hid (And.intro r1 (And.intro r2 (And.intro r3 (And.intro r4 r5))))
    clear r1 r2 r3 r4 r5 hi hcv
    go_wp2_with fail
    have hz := HW.out.2.2.1.size
    refine ⟨⟨k + 1, by omega, by go_num, Lib.hid ?_⟩, by simp [intOf]; omega⟩
    refine PsSoT.turn (i := k) (j := 1) (p := p) (p' := { p with G := G2, gn := p.n + 64, gc := cG2 }) (v := .slice G2 (p.n + 64) cG2) (P := GrowE kFiles k) HP.out.1 HP.out.2.1 HP.out.2.2.1 HP.out.2.2.2.1 (GrowE.stable kFiles k) HP.out.2.2.2.2.1 (by omega) rfl HP.out.2.2.2.2.2.1 HW.out.2.2.2.2 HW.out.2.2.1 (fun i q hik h => ?_) ?_ (fun x hx => ?_) (fun x hx => ?_) hgl
    ·unfold GrowE at h ⊢
     by_cases hik2 : i < k
     ·rw [if_pos hik2] at h
      rw [if_pos (by omega)]
      exact h
     ·rw [if_neg hik2] at h
      rw [if_neg (by omega)]
      exact h
    ·unfold GrowE
     rw [if_pos (by omega)]
     refine ⟨q1, rfl, q5, q6, HW.out.2.1.rdC, ?_⟩
     exact HW.out.1.rdC
    ·rcases hx with hx | hx | hx
     ·exact .inl (.inl hx)
     ·exact (HW.out.2.2.2.1 x hx).imp (fun h => .inl h) id
     ·exact .inl (.inr (.inr hx))
    ·rcases hx with hx | hx | hx
     ·exact HW.out.2.1.lt x hx
     ·exact HW.out.1.lt x hx
     ·exact Nat.lt_of_lt_of_le (HP.out.2.2.2.2.2.2.2.2.1 x (.inr (.inr hx))) hz
   ·have hd : p.gn = p.n + 64 := hpk.2.1
    have HK := Lib.hid hpk
    clear hpk
    rw [hd] at e4
    have HD := Lib.hid hd
    clear hd
    have hnz : ((p.n : Int) + 64 == 0) = false := by rw [beq_eq_false_iff_ne]; omega
    go_wp2_with fail
    refine ⟨⟨k + 1, by omega, by go_num, Lib.hid ⟨ps', HP.out.1, HP.out.2.1.imp (fun i q hq h => ?_), HP.out.2.2.1, HP.out.2.2.2.1⟩⟩, by simp [intOf]; omega⟩
    unfold GrowE at h ⊢
    by_cases hik2 : i < k
    ·rw [if_pos hik2] at h
     rw [if_pos (by omega)]
     exact h
    ·rw [if_neg hik2] at h
     by_cases hik : i = k
     ·subst hik
      rw [if_pos (by omega)]
      rw [HP.out.2.2.2.2.1] at hq
      cases hq
      exact HK.out
     ·rw [if_neg (by omega)]
      exact h
  ·obtain rfl : k = ps.length := by omega
   clear hPg hlen hfp hkp
   go_wp2
   go_end0
   exact ⟨rfl, HI.out⟩
end Go.Proofs.YtekcoeonlfmebaaGreatDoor.Kit
