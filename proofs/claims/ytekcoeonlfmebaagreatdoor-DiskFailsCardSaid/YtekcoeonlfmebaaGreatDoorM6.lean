/- 2 texts in one: daybookkeep: all pages of Texts of a book: looked at, written full, appended to.; daybookkeep: a list of Texts put into the book: untouched, or written over at once. -/
import Derived.Test.YtekcoeonlfmebaaGreatDoorM5
import Derived.Test.YtekcoeonlfmebaaGreatDoorM4
namespace Go.Proofs.YtekcoeonlfmebaaGreatDoor.Kit
open Go Go.RowKit
theorem Tab.lt {w : World} (h : Tab w) : 0 < w.heap.size := by
 unfold Tab Lib.TabIs World.var? at *
 have hg : Tryz.prog.globalNamed "internal/strconv.uint64pow10" = some 0 := by kernel_rfl
 rw [hg] at h
 simp only [Option.bind_some] at h
 apply Classical.byContradiction
 intro hn
 rw [Array.getElem?_eq_none (by omega)] at h
 simp at h
theorem showsTexts_look (w : World) (p : Pg) (h : KeptE kTexts w p ∨ GrownE kTexts w p) (hT : Tab w) (v : Value) (hv : v = .agg #[.slice p.L p.n p.c, .slice p.G p.gn p.gc, .slice p.U p.un p.uc, .int .i64 (p.id : Int), .bool p.done]) :
  Calls Tryz.prog 128 #[v] w fun e w' => e = .returned (.bool true) ∧ New w w' := by
 subst hv
 obtain ⟨L, n, c, G, gn, gc, U, un, uc, id, done⟩ := p
 rcases h with h | h
 ·obtain ⟨h1, h2, h3, h4, h5, h6, h7, xs, h8, h9, h10⟩ := h
  simp only at h1 h2 h3 h4 h7
  subst h1 h2 h3 h4 h7
  exact showsTexts_kept w L U un c uc id xs h8.rdC h9 h8.1 h10 h6
 ·obtain ⟨h1, h2, h3, h4, h5, h6⟩ := h
  simp only at h1 h2
  subst h1 h2
  exact showsTexts_done w L G _ n c gc id h5 h6 h3 h4 hT
set_option maxHeartbeats 2000000 in
theorem intactTexts_calls (w : World) (g : Nat) (cur : Array Value) (A : Option Addr) (c : Nat) (ps : List Pg) (hB : BookE kTexts 10 (LookE kTexts) w g cur A c ps) (hps : ps.length ≤ 96) (hT : Tab w) :
  Calls Tryz.prog 23 #[.pointer (some ⟨g, 6, none⟩)] w fun e w' => e = .returned (.bool true) ∧ New w w' := by
 have H := Lib.hid hB
 have HT := Lib.hid hT
 clear hB hT
 go_enter Tryz.func23, Tryz.ntmps23
 go_wp2
 go_loopw [3] (fun i wr => ∃ k : Nat, k ≤ ps.length ∧ i = .int .i64 (k : Int) ∧ Hid (New w wr)) (fun i _ => ps.length - (intOf i).toNat)
 case atStart => exact ⟨0, Nat.zero_le _, rfl, Lib.hid (Kp.refl _ _)⟩
 case round =>
  obtain ⟨k, hk, rfl, HI⟩ := hrel
  have hPg := H.out.2.2.new (LookE.stable kTexts) HI.out
  have hlt0 := (Array.getElem?_eq_some_iff.1 H.out.1).1
  have hb : wr.heap[g]? = some (.cells cur 53 (0, 0)) := (HI.out.block g hlt0 id).trans H.out.1
  have f1 : wr.cell? ⟨g, 10, none⟩ = some (.slice A ps.length c) := (cell_of_block hb).trans H.out.2.1
  clear hb hlt0
  by_cases hlt : k < ps.length
  ·obtain ⟨hA, rfl⟩ := hPg.1.some_ (by omega)
   have hp : ps[k]? = some ps[k] := List.getElem?_eq_getElem hlt
   generalize ps[k] = p at hp
   have hc : ∀ j u, j < 5 → p.vals[j]? = some u → wr.cell? ⟨hA, k * 5 + j, none⟩ = some u := fun j u hj hu => hPg.1.cell ((flat_get ps k j p hp hj).trans hu)
   have e0 := hc 0 _ (by omega) rfl
   have e1 := hc 1 _ (by omega) rfl
   have e2 := hc 2 _ (by omega) rfl
   have e3 := hc 3 _ (by omega) rfl
   have e4 := hc 4 _ (by omega) rfl
   rw [Nat.add_zero] at e0
   have HP := Lib.hid (And.intro hp hPg)
   clear hc hp hPg
   have hki : (k : Int) < (ps.length : Int) := by omega
   have hk0 : (0 : Int) ≤ k := by omega
   go_wp2_with (go_at_call 128; refine (showsTexts_look _ p (HP.out.2.2.2.1 k p HP.out.1).1 (HT.out.new HI.out) _ rfl).mono ?_; rintro e w' ⟨rfl, hn⟩; have HN := Lib.hid hn; clear hn)
   exact ⟨⟨k + 1, by omega, by go_num, Lib.hid (HI.out.trans HN.out fid fid)⟩, by simp [intOf]; omega⟩
  ·obtain rfl : k = ps.length := by omega
   clear hPg
   go_wp2
   go_ret
   exact ⟨rfl, HI.out⟩
set_option maxHeartbeats 2000000 in
theorem fillsTexts_calls (w : World) (g : Nat) (cur : Array Value) (A : Option Addr) (c : Nat) (ps : List Pg) (hB : BookE kTexts 10 (LookE kTexts) w g cur A c ps) (hps : ps.length ≤ 96) (hT : Tab w) (htp : ¬ PsFp A ps 0) :
  Calls Tryz.prog 56 #[.pointer (some ⟨g, 6, none⟩)] w fun e w' => e = .returned (.tuple #[]) ∧ PsSoT kTexts.pt (FillE kTexts ps.length) w g A c ps w' := by
 have H := Lib.hid hB
 have HT := Lib.hid (And.intro hT htp)
 clear hB hT htp
 go_enter Tryz.func56, Tryz.ntmps56
 go_wp2
 go_loopw [2] (fun i wr => ∃ k : Nat, k ≤ ps.length ∧ i = .int .i64 (k : Int) ∧ Hid (PsSoT kTexts.pt (FillE kTexts k) w g A c ps wr)) (fun i _ => ps.length - (intOf i).toNat)
 case atStart => exact ⟨0, Nat.zero_le _, rfl, Lib.hid ⟨ps, rfl, H.out.2.2.imp (fun i p hp h => by unfold FillE; rw [if_neg (by omega)]; exact h), fun q hq x hx => .inl (.inr ⟨q, hq, hx⟩), Kp.refl _ _⟩⟩
 case round =>
  obtain ⟨k, hk, rfl, HI⟩ := hrel
  obtain ⟨ps', hlen, hPg, hfp, hkp⟩ := HI.out
  have hlt0 := (Array.getElem?_eq_some_iff.1 H.out.1).1
  have hgn : ¬ PsFp A ps g := fun h => h.elim H.out.2.2.2.1 (fun ⟨p, hp, hf⟩ => by obtain ⟨i, hi⟩ := List.mem_iff_getElem?.1 hp; exact (H.out.2.2.2.2.1 i p hi).2.1 hf)
  have hb : wr.heap[g]? = some (.cells cur 53 (0, 0)) := (hkp.block g hlt0 hgn).trans H.out.1
  have f1 : wr.cell? ⟨g, 10, none⟩ = some (.slice A ps.length c) := (cell_of_block hb).trans H.out.2.1
  have hgl : g < wr.heap.size := Nat.lt_of_lt_of_le hlt0 hkp.size
  clear hb hlt0 hgn
  by_cases hlt : k < ps.length
  ·obtain ⟨hA, rfl⟩ := hPg.1.some_ (by omega)
   have hp : ps'[k]? = some (ps'[k]'(by omega)) := List.getElem?_eq_getElem (by omega)
   generalize ps'[k]'(by omega) = p at hp
   obtain ⟨curA, hcA, hcv⟩ := hPg.1.block
   have hc : ∀ j u, j < 5 → p.vals[j]? = some u → curA[k * 5 + j]? = some u := fun j u hj hu => hcv _ _ ((flat_get ps' k j p hp hj).trans hu)
   have e4 : wr.cell? ⟨hA, k * 5 + 4, none⟩ = some (.bool p.done) := (cell_of_block hcA).trans (hc 4 _ (by omega) rfl)
   have hpk := (hPg.2.2.1 k p hp).1
   unfold FillE at hpk
   rw [if_neg (by omega)] at hpk
   have hki : (k : Int) < (ps.length : Int) := by omega
   have hk0 : (0 : Int) ≤ k := by omega
   have hLA : ∀ x, p.Fp x → ¬ Bk (some ⟨hA, 0, none⟩) x := fun x hx => ((hPg.2.2.1 k p hp).2.2 x hx).2
   have hLl : ∀ x, p.Fp x → x < wr.heap.size := fun x hx => ((hPg.2.2.1 k p hp).2.2 x hx).1
   have HP := Lib.hid (And.intro hlen (And.intro hPg (And.intro hfp (And.intro hkp (And.intro hp (And.intro hcA (And.intro hc (And.intro hLA (And.intro hLl hpk)))))))))
   clear hlen hPg hfp hkp hp hcA hcv hc hLA hLl HI
   rcases hpk with hpk | hpk
   ·have hd := hpk.1
    have HK := Lib.hid hpk
    clear hpk
    rw [hd] at e4
    have HD := Lib.hid hd
    clear hd
    go_wp2_with fail
    have hcv := HP.out.2.2.2.2.2.2.1
    obtain ⟨_, q2, q3, q4, q5, q6, q7, l, q9, q10, q11⟩ := HK.out
    have hi := hcv 3 (.int .i64 (p.id : Int)) (by omega) rfl
    refine (fillTexts_calls wr hA (k * 5) curA p.L p.c p.n p.id p.done l HP.out.2.2.2.2.2.1 (by have := hcv 0 _ (by omega) (rfl : p.vals[0]? = some (.slice p.L p.n p.c)); rwa [Nat.add_zero] at this) hi (hcv 4 _ (by omega) rfl) q9 (fun hb => HP.out.2.2.2.2.2.2.2.1 hA (.inl hb) (Bk.some_.2 rfl)) (by omega) q6 (HT.out.1.kp HP.out.2.2.2.1 HT.out.2) (fun hb => (HP.out.2.2.1 p (List.mem_of_getElem? HP.out.2.2.2.2.1) _ (.inl hb)).elim HT.out.2 (fun h => by have := HT.out.1.lt; omega))).mono ?_
    rintro e w2 ⟨rfl, r1, r2, r3⟩
    have HW := Lib.hid (And.intro r1 (And.intro r2 r3))
    clear r1 r2 r3 hi hcv
    go_wp2_with fail
    refine ⟨⟨k + 1, by omega, by go_num, Lib.hid ?_⟩, by simp [intOf]; omega⟩
    refine PsSoT.turn (i := k) (j := 4) (p := p) (p' := { p with done := true }) (v := .bool true) (P := FillE kTexts k) HP.out.1 HP.out.2.1 HP.out.2.2.1 HP.out.2.2.2.1 (FillE.stable kTexts k) HP.out.2.2.2.2.1 (by omega) rfl HP.out.2.2.2.2.2.1 HW.out.2.2 HW.out.2.1 (fun i q hik h => ?_) ?_ (fun x hx => .inl hx) (fun x hx => Nat.lt_of_lt_of_le (HP.out.2.2.2.2.2.2.2.2.1 x hx) HW.out.2.1.size) hgl
    ·unfold FillE at h ⊢
     by_cases hik2 : i < k
     ·rw [if_pos hik2] at h
      rw [if_pos (by omega)]
      exact h
     ·rw [if_neg hik2] at h
      rw [if_neg (by omega)]
      exact h
    ·unfold FillE
     rw [if_pos (by omega)]
     exact .inl ⟨rfl, q2, q3, q4, q5, q6, HW.out.1⟩
   ·have hd := hpk.1
    have HK := Lib.hid hpk
    clear hpk
    rw [hd] at e4
    have HD := Lib.hid hd
    clear hd
    go_wp2_with fail
    refine ⟨⟨k + 1, by omega, by go_num, Lib.hid ⟨ps', HP.out.1, HP.out.2.1.imp (fun i q hq h => ?_), HP.out.2.2.1, HP.out.2.2.2.1⟩⟩, by simp [intOf]; omega⟩
    unfold FillE at h ⊢
    by_cases hik2 : i < k
    ·rw [if_pos hik2] at h
     rw [if_pos (by omega)]
     exact h
    ·rw [if_neg hik2] at h
     by_cases hik : i = k
     ·subst hik
      rw [if_pos (by omega)]
      rw [HP.out.2.2.2.2.1] at hq
      cases hq
      exact .inr HK.out
     ·rw [if_neg (by omega)]
      exact h
  ·obtain rfl : k = ps.length := by omega
   clear hPg hlen hfp hkp
   go_wp2
   go_end0
   exact ⟨rfl, HI.out⟩
set_option maxHeartbeats 2000000 in
theorem growsTexts_calls (w : World) (g : Nat) (cur : Array Value) (A : Option Addr) (c : Nat) (ps : List Pg) (hB : BookE kTexts 10 (fun _ w p => FullE kTexts w p ∨ GrownE kTexts w p) w g cur A c ps) (hps : ps.length ≤ 96) (hT : Tab w) (htp : ¬ PsFp A ps 0) :
  Calls Tryz.prog 76 #[.pointer (some ⟨g, 6, none⟩)] w fun e w' => e = .returned (.tuple #[]) ∧ PsSoT kTexts.pt (GrowE kTexts ps.length) w g A c ps w' := by
 have H := Lib.hid hB
 have HT := Lib.hid (And.intro hT htp)
 clear hB hT htp
 go_enter Tryz.func76, Tryz.ntmps76
 go_wp2
 go_loopw [2] (fun i wr => ∃ k : Nat, k ≤ ps.length ∧ i = .int .i64 (k : Int) ∧ Hid (PsSoT kTexts.pt (GrowE kTexts k) w g A c ps wr)) (fun i _ => ps.length - (intOf i).toNat)
 case atStart => exact ⟨0, Nat.zero_le _, rfl, Lib.hid ⟨ps, rfl, H.out.2.2.imp (fun i p hp h => by unfold GrowE; rw [if_neg (by omega)]; exact h), fun q hq x hx => .inl (.inr ⟨q, hq, hx⟩), Kp.refl _ _⟩⟩
 case round =>
  obtain ⟨k, hk, rfl, HI⟩ := hrel
  obtain ⟨ps', hlen, hPg, hfp, hkp⟩ := HI.out
  have hlt0 := (Array.getElem?_eq_some_iff.1 H.out.1).1
  have hgn : ¬ PsFp A ps g := fun h => h.elim H.out.2.2.2.1 (fun ⟨p, hp, hf⟩ => by obtain ⟨i, hi⟩ := List.mem_iff_getElem?.1 hp; exact (H.out.2.2.2.2.1 i p hi).2.1 hf)
  have hb : wr.heap[g]? = some (.cells cur 53 (0, 0)) := (hkp.block g hlt0 hgn).trans H.out.1
  have f1 : wr.cell? ⟨g, 10, none⟩ = some (.slice A ps.length c) := (cell_of_block hb).trans H.out.2.1
  have hgl : g < wr.heap.size := Nat.lt_of_lt_of_le hlt0 hkp.size
  clear hb hlt0 hgn
  by_cases hlt : k < ps.length
  ·obtain ⟨hA, rfl⟩ := hPg.1.some_ (by omega)
   have hp : ps'[k]? = some (ps'[k]'(by omega)) := List.getElem?_eq_getElem (by omega)
   generalize ps'[k]'(by omega) = p at hp
   obtain ⟨curA, hcA, hcv⟩ := hPg.1.block
   have hc : ∀ j u, j < 5 → p.vals[j]? = some u → curA[k * 5 + j]? = some u := fun j u hj hu => hcv _ _ ((flat_get ps' k j p hp hj).trans hu)
   have e4 : wr.cell? ⟨hA, k * 5 + 1, none⟩ = some (.slice p.G p.gn p.gc) := (cell_of_block hcA).trans (hc 1 _ (by omega) rfl)
   have hpk := (hPg.2.2.1 k p hp).1
   unfold GrowE at hpk
   rw [if_neg (by omega)] at hpk
   have hki : (k : Int) < (ps.length : Int) := by omega
   have hk0 : (0 : Int) ≤ k := by omega
   have hLA : ∀ x, p.Fp x → ¬ Bk (some ⟨hA, 0, none⟩) x := fun x hx => ((hPg.2.2.1 k p hp).2.2 x hx).2
   have hLl : ∀ x, p.Fp x → x < wr.heap.size := fun x hx => ((hPg.2.2.1 k p hp).2.2 x hx).1
   have HP := Lib.hid (And.intro hlen (And.intro hPg (And.intro hfp (And.intro hkp (And.intro hp (And.intro hcA (And.intro hc (And.intro hLA (And.intro hLl hpk)))))))))
   clear hlen hPg hfp hkp hp hcA hcv hc hLA hLl HI
   rcases hpk with hpk | hpk
   ·have hd : p.gn = 0 := hpk.2.2.1
    have HK := Lib.hid hpk
    clear hpk
    rw [hd] at e4
    have HD := Lib.hid hd
    clear hd
    go_wp2_with fail
    have hcv := HP.out.2.2.2.2.2.2.1
    obtain ⟨q1, q2, q3, q4, q5, q6, q9⟩ := HK.out
    have hi := hcv 3 (.int .i64 (p.id : Int)) (by omega) rfl
    refine (growTexts_calls wr hA (k * 5) curA p.L p.c p.n p.id (.slice p.G p.gn p.gc) (kTexts.marks p.id p.n) HP.out.2.2.2.2.2.1 (by have := hcv 0 _ (by omega) (rfl : p.vals[0]? = some (.slice p.L p.n p.c)); rwa [Nat.add_zero] at this) (hcv 1 _ (by omega) rfl) hi q9 (fun hb => HP.out.2.2.2.2.2.2.2.1 hA (.inl hb) (Bk.some_.2 rfl)) q5 q6 (HT.out.1.kp HP.out.2.2.2.1 HT.out.2) (fun hb => (HP.out.2.2.1 p (List.mem_of_getElem? HP.out.2.2.2.2.1) _ (.inl hb)).elim HT.out.2 (fun h => by have := HT.out.1.lt; omega)) (fun e => HT.out.2 (.inl (e ▸ Bk.some_.2 rfl)))).mono ?_
    rintro e w2 ⟨rfl, G2, cG2, r1, r2, r3, r4, r5⟩
    have HW := Lib.hid (And.intro r1 (And.intro r2 (And.intro r3 (And.intro r4 r5))))
    clear r1 r2 r3 r4 r5 hi hcv
    go_wp2_with fail
    have hz := HW.out.2.2.1.size
    refine ⟨⟨k + 1, by omega, by go_num, Lib.hid ?_⟩, by simp [intOf]; omega⟩
    refine PsSoT.turn (i := k) (j := 1) (p := p) (p' := { p with G := G2, gn := p.n + 64, gc := cG2 }) (v := .slice G2 (p.n + 64) cG2) (P := GrowE kTexts k) HP.out.1 HP.out.2.1 HP.out.2.2.1 HP.out.2.2.2.1 (GrowE.stable kTexts k) HP.out.2.2.2.2.1 (by omega) rfl HP.out.2.2.2.2.2.1 HW.out.2.2.2.2 HW.out.2.2.1 (fun i q hik h => ?_) ?_ (fun x hx => ?_) (fun x hx => ?_) hgl
    ·unfold GrowE at h ⊢
     by_cases hik2 : i < k
     ·rw [if_pos hik2] at h
      rw [if_pos (by omega)]
      exact h
     ·rw [if_neg hik2] at h
      rw [if_neg (by omega)]
      exact h
    ·unfold GrowE
     rw [if_pos (by omega)]
     refine ⟨q1, rfl, q5, q6, HW.out.2.1.rdC, ?_⟩
     exact HW.out.1.rdC
    ·rcases hx with hx | hx | hx
     ·exact .inl (.inl hx)
     ·exact (HW.out.2.2.2.1 x hx).imp (fun h => .inl h) id
     ·exact .inl (.inr (.inr hx))
    ·rcases hx with hx | hx | hx
     ·exact HW.out.2.1.lt x hx
     ·exact HW.out.1.lt x hx
     ·exact Nat.lt_of_lt_of_le (HP.out.2.2.2.2.2.2.2.2.1 x (.inr (.inr hx))) hz
   ·have hd : p.gn = p.n + 64 := hpk.2.1
    have HK := Lib.hid hpk
    clear hpk
    rw [hd] at e4
    have HD := Lib.hid hd
    clear hd
    have hnz : ((p.n : Int) + 64 == 0) = false := by rw [beq_eq_false_iff_ne]; omega
    go_wp2_with fail
    refine ⟨⟨k + 1, by omega, by go_num, Lib.hid ⟨ps', HP.out.1, HP.out.2.1.imp (fun i q hq h => ?_), HP.out.2.2.1, HP.out.2.2.2.1⟩⟩, by simp [intOf]; omega⟩
    unfold GrowE at h ⊢
    by_cases hik2 : i < k
    ·rw [if_pos hik2] at h
     rw [if_pos (by omega)]
     exact h
    ·rw [if_neg hik2] at h
     by_cases hik : i = k
     ·subst hik
      rw [if_pos (by omega)]
      rw [HP.out.2.2.2.2.1] at hq
      cases hq
      exact HK.out
     ·rw [if_neg (by omega)]
      exact h
  ·obtain rfl : k = ps.length := by omega
   clear hPg hlen hfp hkp
   go_wp2
   go_end0
   exact ⟨rfl, HI.out⟩
theorem Tryz.info_pageTexts : (Tryz.prog.info? 123).map (fun i => (i.zero, i.size, i.bytes)) = some (some (.agg #[.slice none 0 0, .slice none 0 0, .slice none 0 0, .int .i64 0, .bool false]), 5, 88) := by kernel_rfl
set_option maxHeartbeats 2000000 in
theorem KeepTexts_calls (w : World) (g next : Nat) (cur : Array Value) (A L : Option Addr) (c n cL : Nat) (ps : List Pg) (xs : List Value) (hB : BookE kTexts 10 (LookE kTexts) w g cur A c ps) (h0 : cur[6]? = some (.int .i64 (next : Int))) (hn : next ≤ 700000) (hps : ps.length < 96)
  (hL : Own w kTexts.e kTexts.sz L cL n xs) (hwf : ∀ i, i < n → kTexts.wf (elt xs kTexts.sz i)) (hn2' : n ≤ 1099511627776) (hLs : ∀ x, Bk L x → x ≠ g ∧ ¬ Bk A x ∧ ∀ q ∈ ps, ¬ q.Fp x) :
  Calls Tryz.prog 120 #[.pointer (some ⟨g, 6, none⟩), .slice L n cL] w fun e w' => e = .returned (.tuple #[]) ∧ PutE kTexts 10 (LookE kTexts) w g next cur A ps L w' := by
 have HWF := Lib.hid hwf
 clear hwf
 have hlt : (ps.length : Int) < 96 := by omega
 have f1 : w.cell? ⟨g, 10, none⟩ = some (.slice A ps.length c) := (cell_of_block hB.1).trans hB.2.1
 have hgl := (Array.getElem?_eq_some_iff.1 hB.1).1
 have H := Lib.hid (And.intro hB (And.intro h0 (And.intro hL hLs)))
 have hmo : Tryz.prog.follows Departure.mixedOrders = true := by kernel_rfl
 clear hB h0 hL hLs
 go_enter Tryz.func120, Tryz.ntmps120
 go_wp2
 refine wp_region_line (fun w' => w'.cell? ⟨g, 10, none⟩ = some (.slice A ps.length c)) (pl := [(0, true), (1, true), (2, true), (3, true), (4, true), (5, true), (7, true), (9, true), (6, false), (8, false), (10, false), (11, true), (12, false), (13, false), (14, true), (15, true), (16, false)]) hmo (by kernel_rfl) (by simpa using f1) ?_
 iterate 8 (refine line_get rfl rfl (fun K hK => ?_); apply Exists.intro; refine ⟨fun w s => ?_, ?_⟩; (first | (have q := s rfl; go_simp; with_reducible rfl) | (go_simp; with_reducible rfl)); (go_simp; refine hK _ ?_; clear hK K))
 (refine line_do rfl rfl (fun K hK => ?_); go_simp)
 have hn1 : New w (w.alloc (.cells #[] 9)).drew := (Kp.alloc _ _ _).trans (Kp.drew _ _) fid fid
 refine hK _ _ (fun _ => New.cell hn1 f1) ?_
 clear hK K
 refine line_do rfl rfl (fun K hK => ?_)
 refine wp_append_end _ (.tmp 16) (.tmp 17) 77 77 rfl 9 _ 1 16 Tryz.underlying77 Tryz.info_T rfl (some ⟨w.heap.size, 0, none⟩) 0 0 [] rfl ((Own.bare w _ _).new (Kp.drew _ _)) _ rfl n xs (Src.ofRdC Tryz.underlying77 cL (H.out.2.2.1.rdC.new hn1) H.out.2.2.1.1 (by decide) (kTexts_ok.all H.out.2.2.1.1 HWF.out)) (by omega) (by omega) ?_
 intro U cU w2 hU hend
 have hn2 : New w w2 := hn1.trans hend.kp fid (fun x hx h => by have := Bk.some_.1 h; simp at this; omega)
 have hUn : ∀ x, Bk U x → w.heap.size ≤ x := fun x hx => (hend.bk x hx).elim (fun h => by have := Bk.some_.1 h; simp at this; omega) (fun h => by simp at h; omega)
 refine hK _ _ (fun _ => New.cell hn2 f1) ?_
 clear hK K
 have h2g : w2.heap[g]? = some (.cells cur 53 (0, 0)) := (hn2.block g hgl id).trans H.out.1.1
 have h1s := (Array.getElem?_eq_some_iff.1 H.out.1.2.1).1
 have hE := Lib.hid (And.intro hU hend)
 clear hU hend
 (refine line_do rfl rfl (fun K hK => ?_); go_simp)
 refine (id_calls w2 g next cur h2g H.out.2.1 hn).mono ?_
 rintro e w3 ⟨rfl, hw3⟩
 have h3g : w3.heap[g]? = some (.cells (cur.setIfInBounds 6 (.int .i64 ((next + 1 : Nat) : Int))) 53 (0, 0)) := hw3 ▸ heap_setCell_row h2g _
 have k3 : Kp (fun x => x = g) w2 w3 := hw3 ▸ Kp.setCell _ _ _ rfl
 have c3 : w3.cell? ⟨g, 10, none⟩ = some (.slice A ps.length c) := (cell_of_block h3g).trans ((setIf_ne _ (by omega)).trans H.out.1.2.1)
 clear hw3
 refine hK _ _ (fun _ => c3) ?_
 clear hK K
 (refine line_get rfl rfl (fun K hK => ?_); apply Exists.intro; refine ⟨fun w s => ?_, ?_⟩; (first | (have q := s rfl; go_simp; with_reducible rfl) | (go_simp; with_reducible rfl)); (go_simp; refine hK _ ?_; clear hK K))
 (refine line_do rfl rfl (fun K hK => ?_); go_simp)
 have n34 : New w3 (w3.alloc (.cells #[.slice L n cL, .slice none 0 0, .slice U n cU, .int .i64 ((next : Int) + 1), .bool false] 123)) := Kp.alloc _ _ _
 refine hK _ _ (fun _ => New.cell n34 c3) ?_
 clear hK K
 have hAg : ¬ Bk A g := H.out.1.2.2.2.1
 have hO4 := (((H.out.1.2.2.1.new hn2).kp k3 (fun x hx e => hAg (e ▸ hx))).new n34)
 have h34 := heap_alloc_new w3 (.cells #[.slice L n cL, .slice none 0 0, .slice U n cU, .int .i64 ((next : Int) + 1), .bool false] 123)
 have h4g := (n34.block g (Array.getElem?_eq_some_iff.1 h3g).1 id).trans h3g
 have hz2 := hn2.size
 have hz3 := k3.size
 have hz4 : (w3.alloc (.cells #[.slice L n cL, .slice none 0 0, .slice U n cU, .int .i64 ((next : Int) + 1), .bool false] 123)).heap.size = w3.heap.size + 1 := by simp
 generalize (w3.alloc (.cells #[.slice L n cL, .slice none 0 0, .slice U n cU, .int .i64 ((next : Int) + 1), .bool false] 123)) = w4 at n34 hO4 h34 h4g hz4
 refine line_do rfl rfl (fun K hK => ?_)
 refine wp_append_end _ (.tmp 14) (.tmp 22) 33 33 rfl 123 _ 5 88 Tryz.underlying33 Tryz.info_pageTexts rfl A c ps.length _ rfl hO4 _ rfl 1 _ (Src.ofRow (w := w4) Tryz.underlying33 h34 5 1 1 rfl (by simp [Value.oneCell'])) (by omega) (by omega) ?_
 intro A5 c5 w5 hO5 hend5
 have h5g := (hend5.kp.block g (Array.getElem?_eq_some_iff.1 h4g).1 hAg).trans h4g
 have g1 : w5.cell? ⟨g, 10, none⟩ = some (.slice A ps.length c) := (cell_of_block h5g).trans ((setIf_ne _ (by omega)).trans H.out.1.2.1)
 have gz : w5.frozen? ⟨g, 10, none⟩ = false := by simp [World.frozen?, h5g]
 have hz5 := hend5.kp.size
 refine hK _ _ (fun _ => g1) ?_
 clear hK K
 iterate 2 (refine line_get rfl rfl (fun K hK => ?_); apply Exists.intro; refine ⟨fun w s => ?_, ?_⟩; (first | (have q := s rfl; go_simp; with_reducible rfl) | (go_simp; with_reducible rfl)); (go_simp; refine hK _ ?_; clear hK K))
 (refine line_do rfl rfl (fun K hK => ?_); go_simp)
 refine hK _ _ (no_need (by kernel_rfl)) ?_
 clear hK K
 refine line_nil ?_
 go_wp2
 go_end0
 refine ⟨rfl, ?_⟩
 have hAl := H.out.1.2.2.1.lt
 have hUl := hE.out.1.lt
 obtain ⟨w6, hw6⟩ : ∃ w6, w5.setCell ⟨g, 10, none⟩ (.slice A5 (ps.length + 1) c5) = w6 := ⟨_, rfl⟩
 have k6 : Kp (fun x => x = g) w5 w6 := hw6 ▸ Kp.setCell _ _ _ rfl
 have h6g := hw6 ▸ heap_setCell_row h5g (.slice A5 (ps.length + 1) c5)
 rw [hw6]
 clear hw6
 have hz6 := k6.size
 have kall : Kp (fun x => x = g ∨ Bk A x ∨ Bk L x) w w6 :=
  have q3 : Kp (fun x => x = g) w w3 := hn2.trans k3 (fun _ _ h => h.elim) fid
  have q4 : Kp (fun x => x = g) w w4 := q3.trans n34 fid (fun _ _ h => h.elim)
  have q5 : Kp (fun x => x = g ∨ Bk A x ∨ Bk L x) w w5 := q4.trans hend5.kp (fun _ _ h => Or.inl h) (fun _ _ h => Or.inr (Or.inl h))
  q5.trans k6 fid (fun _ _ h => Or.inl h)
 have hOL : Own w6 kTexts.e kTexts.sz L cL n xs :=
  ((((H.out.2.2.1.new hn2).kp k3 (fun x hx e => (H.out.2.2.2 x hx).1 e)).new n34).kp hend5.kp (fun x hx => (H.out.2.2.2 x hx).2.1)).kp k6 (fun x hx e => (H.out.2.2.2 x hx).1 e)
 have hRU : RdC w6 U xs := by
  have h2 : RdC w2 U xs := hE.out.1.rdC
  exact (((h2.kp k3 (fun x hx e => by have := hUn x hx; omega)).new n34).kp hend5.kp (fun x hx hb => by have := hUn x hx; have := hAl x hb; omega)).kp k6 (fun x hx e => by have := hUn x hx; omega)
 refine ⟨A5, c5, ⟨L, n, cL, none, 0, 0, U, n, cU, next + 1, false⟩, ⟨h6g, ?_, ?_⟩, kall, fun x hx => (hend5.bk x hx).imp id (fun e => by omega), fun x hx => ?_⟩
 ·rw [List.length_append]
  exact setIf_get _ (by rw [Array.size_setIfInBounds]; exact h1s)
 ·refine H.out.1.2.2.push (LookE.stable kTexts) (hO5.kp k6 (fun x hx e => (hend5.bk x hx).elim (fun h => hAg (e ▸ h)) (fun h => by omega))) kall (fun x hx => (hend5.bk x hx).imp id (fun e => by omega)) (.inl ⟨rfl, rfl, rfl, rfl, by simp only; omega, hn2', rfl, xs, hOL, hRU, HWF.out⟩) (fun x hx => ⟨H.out.2.2.1.lt x hx, H.out.2.2.2 x hx⟩) (fun x hx => ?_) hgl
  rcases hx with hx | hx | hx
  ·exact .inl hx
  ·exact absurd hx Bk.none_
  ·refine .inr ⟨hUn x hx, Nat.lt_of_lt_of_le (hUl x hx) (by omega), fun hb => ?_⟩
   rcases hend5.bk x hb with hb | e
   ·have := hAl x hb
    have := hUn x hx
    omega
   ·have := hUl x hx
    omega
 ·rcases hx with hx | hx | hx
  ·exact .inl hx
  ·exact absurd hx Bk.none_
  ·exact .inr (hUn x hx)
set_option maxHeartbeats 2000000 in
theorem WriteTexts_calls (w : World) (g next : Nat) (cur : Array Value) (A L : Option Addr) (c n cL : Nat) (ps : List Pg) (xs : List Value) (hB : BookE kTexts 10 (LookE kTexts) w g cur A c ps) (h0 : cur[6]? = some (.int .i64 (next : Int))) (hn : next ≤ 700000) (hps : ps.length < 96)
  (hL : Own w kTexts.e kTexts.sz L cL n xs) (hn2' : n ≤ 1099511627776) (hT : Tab w) (htL : ¬ Bk L 0) (hgt : g ≠ 0) (hLs : ∀ x, Bk L x → x ≠ g ∧ ¬ Bk A x ∧ ∀ q ∈ ps, ¬ q.Fp x) :
  Calls Tryz.prog 121 #[.pointer (some ⟨g, 6, none⟩), .slice L n cL] w fun e w' => e = .returned (.tuple #[]) ∧ PutE kTexts 10 (LookE kTexts) w g next cur A ps L w' := by
 have hlt : (ps.length : Int) < 96 := by omega
 have f1 : w.cell? ⟨g, 10, none⟩ = some (.slice A ps.length c) := (cell_of_block hB.1).trans hB.2.1
 have hgl := (Array.getElem?_eq_some_iff.1 hB.1).1
 have H := Lib.hid (And.intro hB (And.intro h0 (And.intro hL hLs)))
 have HT := Lib.hid (And.intro hT (And.intro htL hgt))
 have htl := hT.lt
 clear hT htL hgt
 have hmo : Tryz.prog.follows Departure.mixedOrders = true := by kernel_rfl
 clear hB h0 hL hLs
 go_enter Tryz.func121, Tryz.ntmps121
 go_wp2_with (go_at_call 216; refine (id_calls w g next cur H.out.1.1 H.out.2.1 hn).mono ?_; rintro e w1 ⟨rfl, hw1⟩; have HW1 := Lib.hid hw1; clear hw1)
 have h1s := (Array.getElem?_eq_some_iff.1 H.out.1.2.1).1
 have h1g : w1.heap[g]? = some (.cells (cur.setIfInBounds 6 (.int .i64 ((next + 1 : Nat) : Int))) 53 (0, 0)) := HW1.out ▸ heap_setCell_row H.out.1.1 _
 have k1 : Kp (fun x => x = g) w w1 := HW1.out ▸ Kp.setCell _ _ _ rfl
 have hz1 := k1.size
 have hAg : ¬ Bk A g := H.out.1.2.2.2.1
 have hAl := H.out.1.2.2.1.lt
 have hLl := H.out.2.2.1.lt
 have k2 : New w1 (w1.alloc (.cells #[.slice L n cL, .slice none 0 0, .slice none 0 0, .int .i64 ((next : Int) + 1), .bool false] 123)) := Kp.alloc _ _ _
 have hh2 := heap_alloc_new w1 (.cells #[.slice L n cL, .slice none 0 0, .slice none 0 0, .int .i64 ((next : Int) + 1), .bool false] 123)
 have hz2 : (w1.alloc (.cells #[.slice L n cL, .slice none 0 0, .slice none 0 0, .int .i64 ((next : Int) + 1), .bool false] 123)).heap.size = w1.heap.size + 1 := by simp
 generalize (w1.alloc (.cells #[.slice L n cL, .slice none 0 0, .slice none 0 0, .int .i64 ((next : Int) + 1), .bool false] 123)) = w2 at k2 hh2 hz2
 have hL2 : Own w2 kTexts.e kTexts.sz L cL n xs := (H.out.2.2.1.kp k1 (fun x hx e => (H.out.2.2.2 x hx).1 e)).new k2
 have hLq : ¬ Bk L w1.heap.size := fun hb => by have := hLl _ hb; omega
 have HS := Lib.hid (And.intro h1g (And.intro k1 (And.intro k2 (And.intro hAg (And.intro hAl (And.intro hLl hLq))))))
 have hT2 : Tab w2 := (HT.out.1.kp k1 (fun e => HT.out.2.2 e.symm)).new k2
 have HT2 := Lib.hid hT2
 clear hT2
 refine (fillTexts_calls w2 w1.heap.size 0 #[.slice L n cL, .slice none 0 0, .slice none 0 0, .int .i64 ((next : Int) + 1), .bool false] L cL n (next + 1) false xs hh2 rfl rfl rfl hL2 hLq (by omega) hn2' HT2.out HT.out.2.1).mono ?_
 clear h1g k1 k2 hAg hAl hLl hL2 hLq hh2
 rintro e w3 ⟨rfl, hL3, k3, hh3⟩
 replace hh3 : w3.heap[w1.heap.size]? = some (.cells #[.slice L n cL, .slice none 0 0, .slice none 0 0, .int .i64 ((next : Int) + 1), .bool true] 123 (0, 0)) := hh3
 have hz3 := k3.size
 have HT3 := Lib.hid (HT2.out.kp k3 (fun e => e.elim (fun e => by omega) HT.out.2.1))
 have HF := Lib.hid (And.intro hL3 (And.intro k3 hh3))
 clear hL3 k3 hh3
 go_wp2_with fail
 refine (growTexts_calls w3 w1.heap.size 0 #[.slice L n cL, .slice none 0 0, .slice none 0 0, .int .i64 ((next : Int) + 1), .bool true] L cL n (next + 1) (.slice none 0 0) _ HF.out.2.2 rfl rfl rfl HF.out.1 HS.out.2.2.2.2.2.2 (by omega) hn2' HT3.out HT.out.2.1 (by omega)).mono ?_
 rintro e w4 ⟨rfl, G, cG, hG4, hL4, k4, hGb, hh4⟩
 replace hh4 : w4.heap[w1.heap.size]? = some (.cells #[.slice L n cL, .slice G (n + 64) cG, .slice none 0 0, .int .i64 ((next : Int) + 1), .bool true] 123 (0, 0)) := hh4
 have hz4 := k4.size
 have h4g : w4.heap[g]? = some (.cells (cur.setIfInBounds 6 (.int .i64 ((next + 1 : Nat) : Int))) 53 (0, 0)) := by
  have hgL : ¬ Bk L g := fun hb => (H.out.2.2.2 g hb).1 rfl
  rw [k4.block g (by omega) (fun h => h.elim (fun e => by omega) hgL), HF.out.2.1.block g (by omega) (fun h => h.elim (fun e => by omega) hgL), HS.out.2.2.1.block g (by omega) id]
  exact HS.out.1
 have c1 : w4.cell? ⟨g, 10, none⟩ = some (.slice A ps.length c) := (cell_of_block h4g).trans ((setIf_ne _ (by omega)).trans H.out.1.2.1)
 have d0 : w4.cell? ⟨w1.heap.size, 0, none⟩ = some (.slice L n cL) := (cell_of_block hh4).trans rfl
 have d1 : w4.cell? ⟨w1.heap.size, 1, none⟩ = some (.slice G (n + 64) cG) := (cell_of_block hh4).trans rfl
 have d2 : w4.cell? ⟨w1.heap.size, 2, none⟩ = some (.slice none 0 0) := (cell_of_block hh4).trans rfl
 have d3 : w4.cell? ⟨w1.heap.size, 3, none⟩ = some (.int .i64 ((next : Int) + 1)) := (cell_of_block hh4).trans rfl
 have d4 : w4.cell? ⟨w1.heap.size, 4, none⟩ = some (.bool true) := (cell_of_block hh4).trans rfl
 have HG := Lib.hid (And.intro hG4 (And.intro hL4 (And.intro k4 (And.intro hGb (And.intro hh4 h4g)))))
 clear hG4 hL4 k4 hGb hh4 h4g
 go_wp2_with fail
 refine wp_region_line (fun w' => w'.cell? ⟨g, 10, none⟩ = some (.slice A ps.length c) ∧ w'.cell? ⟨w1.heap.size, 0, none⟩ = some (.slice L n cL) ∧ w'.cell? ⟨w1.heap.size, 1, none⟩ = some (.slice G (n + 64) cG) ∧ w'.cell? ⟨w1.heap.size, 2, none⟩ = some (.slice none 0 0) ∧ w'.cell? ⟨w1.heap.size, 3, none⟩ = some (.int .i64 ((next : Int) + 1)) ∧ w'.cell? ⟨w1.heap.size, 4, none⟩ = some (.bool true)) (pl := [(0, true), (1, true), (2, true), (3, true), (4, true), (5, true), (6, false), (7, false), (8, true), (9, true), (10, false)]) hmo (by kernel_rfl) ⟨by simpa using c1, by simpa using d0, by simpa using d1, by simpa using d2, by simpa using d3, by simpa using d4⟩ ?_
 iterate 6 (refine line_get rfl rfl (fun K hK => ?_); apply Exists.intro; refine ⟨fun w s => ?_, ?_⟩; (first | (have q := s rfl; go_simp; with_reducible rfl) | (go_simp; with_reducible rfl)); (go_simp; refine hK _ ?_; clear hK K))
 (refine line_do rfl rfl (fun K hK => ?_); go_simp)
 have n45 : New w4 (w4.alloc (.cells #[.slice L n cL, .slice G (n + 64) cG, .slice none 0 0, .int .i64 ((next : Int) + 1), .bool true] 123)).drew := (Kp.alloc _ _ _).trans (Kp.drew _ _) fid fid
 refine hK _ _ (fun _ => ⟨New.cell n45 c1, New.cell n45 d0, New.cell n45 d1, New.cell n45 d2, New.cell n45 d3, New.cell n45 d4⟩) ?_
 clear hK K
 have hAg := HS.out.2.2.2.1
 have q1 : Kp (fun x => x = g) w w2 := HS.out.2.1.trans HS.out.2.2.1 fid (fun _ _ h => h.elim)
 have q2 : Kp (fun x => x = g ∨ Bk L x) w w3 := q1.trans HF.out.2.1 (fun _ _ h => Or.inl h) (fun x hx h => h.elim (fun e => by omega) Or.inr)
 have q3 : Kp (fun x => x = g ∨ Bk L x) w w4 := q2.trans HG.out.2.2.1 fid (fun x hx h => h.elim (fun e => by omega) Or.inr)
 have hO5 := (H.out.1.2.2.1.kp q3 (fun x hx e => e.elim (fun e => hAg (e ▸ hx)) (fun hb => (H.out.2.2.2 x hb).2.1 hx))).new n45
 have h45 : (w4.alloc (.cells #[.slice L n cL, .slice G (n + 64) cG, .slice none 0 0, .int .i64 ((next : Int) + 1), .bool true] 123)).drew.heap[w4.heap.size]? = _ := heap_alloc_new w4 (.cells #[.slice L n cL, .slice G (n + 64) cG, .slice none 0 0, .int .i64 ((next : Int) + 1), .bool true] 123)
 have h5g := (n45.block g (by omega) id).trans HG.out.2.2.2.2.2
 have hz5 : (w4.alloc (.cells #[.slice L n cL, .slice G (n + 64) cG, .slice none 0 0, .int .i64 ((next : Int) + 1), .bool true] 123)).drew.heap.size = w4.heap.size + 1 := by simp
 generalize (w4.alloc (.cells #[.slice L n cL, .slice G (n + 64) cG, .slice none 0 0, .int .i64 ((next : Int) + 1), .bool true] 123)).drew = w5 at n45 hO5 h45 h5g hz5
 refine line_do rfl rfl (fun K hK => ?_)
 refine wp_append_end _ (.tmp 21) (.tmp 23) 33 33 rfl 123 _ 5 88 Tryz.underlying33 Tryz.info_pageTexts rfl A c ps.length _ rfl hO5 _ rfl 1 _ (Src.ofRow (w := w5) Tryz.underlying33 h45 5 1 1 rfl (by simp [Value.oneCell'])) (by omega) (by omega) ?_
 intro A6 c6 w6 hO6 hend6
 have h6g := (hend6.kp.block g (by omega) hAg).trans h5g
 have g1 : w6.cell? ⟨g, 10, none⟩ = some (.slice A ps.length c) := (cell_of_block h6g).trans ((setIf_ne _ (by omega)).trans H.out.1.2.1)
 have gz : w6.frozen? ⟨g, 10, none⟩ = false := by simp [World.frozen?, h6g]
 have hz6 := hend6.kp.size
 refine hK _ _ (no_need (by kernel_rfl)) ?_
 clear hK K
 iterate 2 (refine line_get rfl rfl (fun K hK => ?_); apply Exists.intro; refine ⟨fun w s => ?_, ?_⟩; (first | (have q := s rfl; go_simp; with_reducible rfl) | (go_simp; with_reducible rfl)); (go_simp; refine hK _ ?_; clear hK K))
 (refine line_do rfl rfl (fun K hK => ?_); go_simp)
 refine hK _ _ (no_need (by kernel_rfl)) ?_
 clear hK K
 refine line_nil ?_
 go_wp2
 go_end0
 refine ⟨rfl, ?_⟩
 obtain ⟨w7, hw7⟩ : ∃ w7, w6.setCell ⟨g, 10, none⟩ (.slice A6 (ps.length + 1) c6) = w7 := ⟨_, rfl⟩
 have k7 : Kp (fun x => x = g) w6 w7 := hw7 ▸ Kp.setCell _ _ _ rfl
 have h7g := hw7 ▸ heap_setCell_row h6g (.slice A6 (ps.length + 1) c6)
 rw [hw7]
 clear hw7
 have hz7 := k7.size
 have hAl := HS.out.2.2.2.2.1
 have hLl := HS.out.2.2.2.2.2.1
 have kall : Kp (fun x => x = g ∨ Bk A x ∨ Bk L x) w w7 :=
  have r5 : Kp (fun x => x = g ∨ Bk A x ∨ Bk L x) w w5 := q3.trans n45 (fun _ _ h => h.imp id Or.inr) (fun _ _ h => h.elim)
  have r6 : Kp (fun x => x = g ∨ Bk A x ∨ Bk L x) w w6 := r5.trans hend6.kp fid (fun _ _ h => Or.inr (Or.inl h))
  r6.trans k7 fid (fun _ _ h => Or.inl h)
 have hGn : ∀ x, Bk G x → Bk L x ∨ w.heap.size ≤ x := fun x hx => (HG.out.2.2.2.1 x hx).imp id (fun h => by omega)
 have hGA : ∀ x, Bk G x → ¬ Bk A x ∧ x ≠ g := fun x hx => (hGn x hx).elim (fun hb => ⟨(H.out.2.2.2 x hb).2.1, (H.out.2.2.2 x hb).1⟩) (fun h => ⟨fun hb => by have := hAl x hb; omega, fun e => by omega⟩)
 have hRL : RdC w7 L (kTexts.marks (next + 1) n) := ((HG.out.2.1.rdC.new n45).kp hend6.kp (fun x hx => (H.out.2.2.2 x hx).2.1)).kp k7 (fun x hx => (H.out.2.2.2 x hx).1)
 have hRG : RdC w7 G (kTexts.marks (next + 1) n ++ kTexts.marks (next + 1 + 100000) 64) := by
  have h4 := HG.out.1
  exact ((h4.rdC.new n45).kp hend6.kp (fun x hx => (hGA x hx).1)).kp k7 (fun x hx => (hGA x hx).2)
 have hGl := HG.out.1.lt
 refine ⟨A6, c6, ⟨L, n, cL, G, n + 64, cG, none, 0, 0, next + 1, true⟩, ⟨h7g, ?_, ?_⟩, kall, fun x hx => (hend6.bk x hx).imp id (fun e => by omega), fun x hx => ?_⟩
 ·rw [List.length_append]
  exact setIf_get _ (by rw [Array.size_setIfInBounds]; exact h1s)
 ·refine H.out.1.2.2.push (LookE.stable kTexts) (hO6.kp k7 (fun x hx e => (hend6.bk x hx).elim (fun h => hAg (e ▸ h)) (fun h => by omega))) kall (fun x hx => (hend6.bk x hx).imp id (fun e => by omega)) (.inr ⟨rfl, rfl, by simp only; omega, hn2', hRL, hRG⟩) (fun x hx => ⟨hLl x hx, H.out.2.2.2 x hx⟩) (fun x hx => ?_) hgl
  rcases hx with hx | hx | hx
  ·exact .inl hx
  ·rcases hGn x hx with h | h
   ·exact .inl h
   ·refine .inr ⟨h, Nat.lt_of_lt_of_le (hGl x hx) (by omega), fun hb => ?_⟩
    rcases hend6.bk x hb with hb | e
    ·exact (hGA x hx).1 hb
    ·have := hGl x hx
     omega
  ·exact absurd hx Bk.none_
 ·rcases hx with hx | hx | hx
  ·exact .inl hx
  ·exact hGn x hx
  ·exact absurd hx Bk.none_
end Go.Proofs.YtekcoeonlfmebaaGreatDoor.Kit
