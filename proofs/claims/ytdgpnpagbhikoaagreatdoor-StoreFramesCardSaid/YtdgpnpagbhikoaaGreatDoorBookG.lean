/- daybookkeep: all pages of bytes of a book: looked at, written full, appended to. -/
import Derived.Test.YtdgpnpagbhikoaaGreatDoorBookF
namespace Go.Proofs.YtdgpnpagbhikoaaGreatDoor.Kit
open Go Go.RowKit

/-- A book in its block, its pages of bytes. -/
def BookB (P : Nat → World → Pg → Prop) (w : World) (g : Nat) (cur : Array Value) (A : Option Addr) (c : Nat) (ps : List Pg) : Prop :=
  w.heap[g]? = some (.cells cur 50 (0, 0)) ∧ cur[1]? = some (.slice A ps.length c) ∧ Pages P w g A c ps
def Look : Nat → World → Pg → Prop := fun _ w p => Kept w p ∨ Grown w p
theorem Look.stable (i : Nat) : Stable (Look i) := Stable.or Kept.kp Grown.kp

theorem showsB_look (w : World) (p : Pg) (h : Kept w p ∨ Grown w p) (v : Value) (hv : v = .agg #[.slice p.L p.n p.c, .slice p.G p.gn p.gc, .slice p.U p.un p.uc, .int .i64 (p.id : Int), .bool p.done]) :
    Calls Tryz.prog 256 #[v] w fun e w' => e = .returned (.bool true) ∧ New w w' := by
  subst hv
  obtain ⟨L, n, c, G, gn, gc, U, un, uc, id, done⟩ := p
  rcases h with h | h
  · obtain ⟨h1, h2, h3, h4, h5, h6, l, h7, h8, h9, h10⟩ := h
    simp only at h1 h2 h3 h4 h7
    subst h1 h2 h3 h4 h7
    exact showsB_kept w L U l.length c un uc id l h9.rd h10 rfl h8 h6
  · obtain ⟨h1, h2, h3, h4, h5, h6⟩ := h
    simp only at h1 h2
    subst h1 h2
    exact showsB_done w L G _ n c (n + 64) gc id h5 h6 rfl h3 h4

set_option maxHeartbeats 1000000 in
theorem intactB_calls (w : World) (g : Nat) (cur : Array Value) (A : Option Addr) (c : Nat) (ps : List Pg) (hB : BookB Look w g cur A c ps) (hps : ps.length ≤ 96) :
    Calls Tryz.prog 129 #[.pointer (some ⟨g, 0, none⟩)] w fun e w' => e = .returned (.bool true) ∧ New w w' := by
  have H := Lib.hid hB
  clear hB
  go_enter Tryz.func129, Tryz.ntmps129
  go_wp2
  go_loopw [3] (fun i wr => ∃ k : Nat, k ≤ ps.length ∧ i = .int .i64 (k : Int) ∧ Hid (New w wr)) (fun i _ => ps.length - (intOf i).toNat)
  case atStart => exact ⟨0, Nat.zero_le _, rfl, Lib.hid (Kp.refl _ _)⟩
  case round =>
    obtain ⟨k, hk, rfl, HI⟩ := hrel
    have hPg := H.out.2.2.new Look.stable HI.out
    have hlt0 := (Array.getElem?_eq_some_iff.1 H.out.1).1
    have hb : wr.heap[g]? = some (.cells cur 50 (0, 0)) := (HI.out.block g hlt0 id).trans H.out.1
    have f1 : wr.cell? ⟨g, 1, none⟩ = some (.slice A ps.length c) := (cell_of_block hb).trans H.out.2.1
    clear hb hlt0
    by_cases hlt : k < ps.length
    · obtain ⟨hA, rfl⟩ := hPg.1.some_ (by omega)
      have hp : ps[k]? = some ps[k] := List.getElem?_eq_getElem hlt
      generalize ps[k] = p at hp
      have hc : ∀ j u, j < 5 → p.vals[j]? = some u → wr.cell? ⟨hA, k * 5 + j, none⟩ = some u := fun j u hj hu => hPg.1.cell ((flat_get ps k j p hp hj).trans hu)
      have e0 := hc 0 _ (by omega) rfl
      have e1 := hc 1 _ (by omega) rfl
      have e2 := hc 2 _ (by omega) rfl
      have e3 := hc 3 _ (by omega) rfl
      have e4 := hc 4 _ (by omega) rfl
      rw [Nat.add_zero] at e0
      have HP := Lib.hid (And.intro hp hPg)
      clear hc hp hPg
      have hki : (k : Int) < (ps.length : Int) := by omega
      have hk0 : (0 : Int) ≤ k := by omega
      go_wp2_with (go_at_call 256; refine (showsB_look _ p (HP.out.2.2.2.1 k p HP.out.1).1 _ rfl).mono ?_; rintro e w' ⟨rfl, hn⟩; have HN := Lib.hid hn; clear hn)
      exact ⟨⟨k + 1, by omega, by go_num, Lib.hid (HI.out.trans HN.out (fun _ _ h => h) (fun _ _ h => h))⟩, by simp [intOf]; omega⟩
    · obtain rfl : k = ps.length := by omega
      clear hPg
      go_wp2
      go_ret
      exact ⟨rfl, HI.out⟩

theorem Own.block {w : World} {e : TypeId} {sz n c g : Nat} {xs : List Value} (h : Own w e sz (some ⟨g, 0, none⟩) c n xs) : ∃ cur, w.heap[g]? = some (.cells cur e (0, 0)) ∧ ∀ (j : Nat) (u : Value), xs[j]? = some u → cur[j]? = some u := by
  rcases h.2 with ⟨h, _⟩ | ⟨g', cur, e', hg, h1, h2, h3, h4⟩
  · cases h
  · cases e'
    refine ⟨cur, hg, fun j u hu => ?_⟩
    rw [← h4, List.getElem?_take] at hu
    split at hu
    · simpa using hu
    · cases hu
theorem Pages.imp {P P' : Nat → World → Pg → Prop} {w : World} {g c : Nat} {A : Option Addr} {ps : List Pg} (h : Pages P w g A c ps) (hi : ∀ (i : Nat) (p : Pg), ps[i]? = some p → P i w p → P' i w p) : Pages P' w g A c ps :=
  ⟨h.1, h.2.1, fun i p hp => ⟨hi i p hp (h.2.2.1 i p hp).1, (h.2.2.1 i p hp).2⟩, h.2.2.2⟩

/-- The blocks of a row of pages. -/
def PsFp (A : Option Addr) (ps : List Pg) (x : Nat) : Prop := Bk A x ∨ ∃ p ∈ ps, p.Fp x
def FillI (t : Nat) : Nat → World → Pg → Prop := fun i w p => if i < t then Full w p ∨ Grown w p else Kept w p ∨ Grown w p
theorem FillI.stable (t i : Nat) : Stable (FillI t i) := by
  unfold FillI
  intro w w' S p h hk hS
  split at h
  · rw [if_pos (by assumption)]
    exact Stable.or Full.kp Grown.kp h hk hS
  · rw [if_neg (by assumption)]
    exact Stable.or Kept.kp Grown.kp h hk hS
def GrowI (t : Nat) : Nat → World → Pg → Prop := fun i w p => if i < t then Grown w p else Full w p ∨ Grown w p
theorem GrowI.stable (t i : Nat) : Stable (GrowI t i) := by
  unfold GrowI
  intro w w' S p h hk hS
  split at h
  · rw [if_pos (by assumption)]
    exact Grown.kp h hk hS
  · rw [if_neg (by assumption)]
    exact Stable.or Full.kp Grown.kp h hk hS
/-- What a step over all pages has done so far. -/
def PsSo (P : Nat → World → Pg → Prop) (w : World) (g : Nat) (A : Option Addr) (c : Nat) (ps : List Pg) (w' : World) : Prop :=
  ∃ ps' : List Pg, ps'.length = ps.length ∧ Pages P w' g A c ps' ∧ (∀ q ∈ ps', ∀ x, q.Fp x → PsFp A ps x ∨ w.heap.size ≤ x) ∧ Kp (PsFp A ps) w w'
theorem PsSo.imp {P P' : Nat → World → Pg → Prop} {w w' : World} {g c : Nat} {A : Option Addr} {ps : List Pg} (h : PsSo P w g A c ps w') (hi : ∀ (i : Nat) (p : Pg), i < ps.length → P i w' p → P' i w' p) : PsSo P' w g A c ps w' := by
  obtain ⟨ps', h1, h2, h3, h4⟩ := h
  exact ⟨ps', h1, h2.imp (fun i p hp => hi i p (by rw [← h1]; exact (List.getElem?_eq_some_iff.1 hp).1)), h3, h4⟩
/-- One page turned. -/
theorem PsSo.turn {P P' : Nat → World → Pg → Prop} {w w1 w2 : World} {g c i j hA : Nat} {ps ps' : List Pg} {p p' : Pg} {v : Value} {cur : Array Value} (hlen : ps'.length = ps.length) (h : Pages P w1 g (some ⟨hA, 0, none⟩) c ps') (hfp : ∀ q ∈ ps', ∀ x, q.Fp x → PsFp (some ⟨hA, 0, none⟩) ps x ∨ w.heap.size ≤ x) (hkp : Kp (PsFp (some ⟨hA, 0, none⟩) ps) w w1)
    (hP : ∀ i, Stable (P i)) (hi : ps'[i]? = some p) (hj : j < 5) (hv : p'.vals = p.vals.set j v)
    (hcur : w1.heap[hA]? = some (.cells cur 93 (0, 0))) (hh : w2.heap[hA]? = some (.cells (cur.setIfInBounds (i * 5 + j) v) 93 (0, 0)))
    (hk : Kp (fun k => k = hA ∨ Bk p.L k) w1 w2) (hPP : ∀ k q, k ≠ i → P k w2 q → P' k w2 q) (hp' : P' i w2 p') (hf : ∀ k, p'.Fp k → p.Fp k ∨ w1.heap.size ≤ k) (hlt : ∀ k, p'.Fp k → k < w2.heap.size) (hg : g < w1.heap.size) : PsSo P' w g (some ⟨hA, 0, none⟩) c ps w2 := by
  have hm := List.mem_of_getElem? hi
  refine ⟨ps'.set i p', by rw [List.length_set]; exact hlen, h.turn hP hi hj hv hcur hh hk hPP hp' hf hlt hg, fun q hq x hx => ?_, hkp.trans hk (fun _ _ h => h) (fun x hx hb => ?_)⟩
  · have hws := hkp.size
    rcases List.mem_or_eq_of_mem_set hq with hq | rfl
    · exact hfp q hq x hx
    · rcases hf x hx with h' | h'
      · exact hfp p hm x h'
      · exact .inr (by omega)
  · rcases hb with rfl | hb
    · exact .inl (Bk.some_.2 rfl)
    · rcases hfp p hm x (.inl hb) with h' | h'
      · exact h'
      · omega

set_option maxHeartbeats 1000000 in
theorem fillsB_calls (w : World) (g : Nat) (cur : Array Value) (A : Option Addr) (c : Nat) (ps : List Pg) (hB : BookB Look w g cur A c ps) (hps : ps.length ≤ 96) :
    Calls Tryz.prog 39 #[.pointer (some ⟨g, 0, none⟩)] w fun e w' => e = .returned (.tuple #[]) ∧ PsSo (FillI ps.length) w g A c ps w' := by
  have H := Lib.hid hB
  clear hB
  go_enter Tryz.func39, Tryz.ntmps39
  go_wp2
  go_loopw [2] (fun i wr => ∃ k : Nat, k ≤ ps.length ∧ i = .int .i64 (k : Int) ∧ Hid (PsSo (FillI k) w g A c ps wr)) (fun i _ => ps.length - (intOf i).toNat)
  case atStart => exact ⟨0, Nat.zero_le _, rfl, Lib.hid ⟨ps, rfl, H.out.2.2.imp (fun i p hp h => by unfold FillI; rw [if_neg (by omega)]; exact h), fun q hq x hx => .inl (.inr ⟨q, hq, hx⟩), Kp.refl _ _⟩⟩
  case round =>
    obtain ⟨k, hk, rfl, HI⟩ := hrel
    obtain ⟨ps', hlen, hPg, hfp, hkp⟩ := HI.out
    have hlt0 := (Array.getElem?_eq_some_iff.1 H.out.1).1
    have hgn : ¬ PsFp A ps g := fun h => h.elim H.out.2.2.2.1 (fun ⟨p, hp, hf⟩ => by obtain ⟨i, hi⟩ := List.mem_iff_getElem?.1 hp; exact (H.out.2.2.2.2.1 i p hi).2.1 hf)
    have hb : wr.heap[g]? = some (.cells cur 50 (0, 0)) := (hkp.block g hlt0 hgn).trans H.out.1
    have f1 : wr.cell? ⟨g, 1, none⟩ = some (.slice A ps.length c) := (cell_of_block hb).trans H.out.2.1
    have hgl : g < wr.heap.size := Nat.lt_of_lt_of_le hlt0 hkp.size
    clear hb hlt0 hgn
    by_cases hlt : k < ps.length
    · obtain ⟨hA, rfl⟩ := hPg.1.some_ (by omega)
      have hp : ps'[k]? = some (ps'[k]'(by omega)) := List.getElem?_eq_getElem (by omega)
      generalize ps'[k]'(by omega) = p at hp
      obtain ⟨curA, hcA, hcv⟩ := hPg.1.block
      have hc : ∀ j u, j < 5 → p.vals[j]? = some u → curA[k * 5 + j]? = some u := fun j u hj hu => hcv _ _ ((flat_get ps' k j p hp hj).trans hu)
      have e4 : wr.cell? ⟨hA, k * 5 + 4, none⟩ = some (.bool p.done) := (cell_of_block hcA).trans (hc 4 _ (by omega) rfl)
      have hpk := (hPg.2.2.1 k p hp).1
      unfold FillI at hpk
      rw [if_neg (by omega)] at hpk
      have hki : (k : Int) < (ps.length : Int) := by omega
      have hk0 : (0 : Int) ≤ k := by omega
      have hLA : ∀ x, p.Fp x → ¬ Bk (some ⟨hA, 0, none⟩) x := fun x hx => ((hPg.2.2.1 k p hp).2.2 x hx).2
      have hLl : ∀ x, p.Fp x → x < wr.heap.size := fun x hx => ((hPg.2.2.1 k p hp).2.2 x hx).1
      have HP := Lib.hid (And.intro hlen (And.intro hPg (And.intro hfp (And.intro hkp (And.intro hp (And.intro hcA (And.intro hc (And.intro hLA (And.intro hLl hpk)))))))))
      clear hlen hPg hfp hkp hp hcA hcv hc hLA hLl HI
      rcases hpk with hpk | hpk
      · have hd := hpk.1
        have HK := Lib.hid hpk
        clear hpk
        rw [hd] at e4
        have HD := Lib.hid hd
        clear hd
        go_wp2_with fail
        have hcv := HP.out.2.2.2.2.2.2.1
        obtain ⟨_, q2, q3, q4, q5, q6, l, q7, q8, q9, q10⟩ := HK.out
        have hi := hcv 3 (.int .i64 (p.id : Int)) (by omega) rfl
        refine (fillB_calls wr hA (k * 5) curA p.L p.c p.n p.id p.done (bcs l) HP.out.2.2.2.2.2.1 (by have := hcv 0 _ (by omega) (rfl : p.vals[0]? = some (.slice p.L p.n p.c)); rwa [Nat.add_zero] at this) hi (hcv 4 _ (by omega) rfl) q9 (fun hb => HP.out.2.2.2.2.2.2.2.1 hA (.inl hb) (Bk.some_.2 rfl)) (by omega) q6).mono ?_
        rintro e w2 ⟨rfl, r1, r2, r3⟩
        have HW := Lib.hid (And.intro r1 (And.intro r2 r3))
        clear r1 r2 r3 hi hcv
        go_wp2_with fail
        refine ⟨⟨k + 1, by omega, by go_num, Lib.hid ?_⟩, by simp [intOf]; omega⟩
        refine PsSo.turn (i := k) (j := 4) (p := p) (p' := { p with done := true }) (v := .bool true) (P := FillI k) HP.out.1 HP.out.2.1 HP.out.2.2.1 HP.out.2.2.2.1 (FillI.stable k) HP.out.2.2.2.2.1 (by omega) rfl HP.out.2.2.2.2.2.1 HW.out.2.2 HW.out.2.1 (fun i q hik h => ?_) ?_ (fun x hx => .inl hx) (fun x hx => Nat.lt_of_lt_of_le (HP.out.2.2.2.2.2.2.2.2.1 x hx) HW.out.2.1.size) hgl
        · unfold FillI at h ⊢
          by_cases hik2 : i < k
          · rw [if_pos hik2] at h
            rw [if_pos (by omega)]
            exact h
          · rw [if_neg hik2] at h
            rw [if_neg (by omega)]
            exact h
        · unfold FillI
          rw [if_pos (by omega)]
          exact .inl ⟨rfl, q2, q3, q4, q5, q6, HW.out.1⟩
      · have hd := hpk.1
        have HK := Lib.hid hpk
        clear hpk
        rw [hd] at e4
        have HD := Lib.hid hd
        clear hd
        go_wp2_with fail
        refine ⟨⟨k + 1, by omega, by go_num, Lib.hid ⟨ps', HP.out.1, HP.out.2.1.imp (fun i q hq h => ?_), HP.out.2.2.1, HP.out.2.2.2.1⟩⟩, by simp [intOf]; omega⟩
        unfold FillI at h ⊢
        by_cases hik2 : i < k
        · rw [if_pos hik2] at h
          rw [if_pos (by omega)]
          exact h
        · rw [if_neg hik2] at h
          by_cases hik : i = k
          · subst hik
            rw [if_pos (by omega)]
            rw [HP.out.2.2.2.2.1] at hq
            cases hq
            exact .inr HK.out
          · rw [if_neg (by omega)]
            exact h
    · obtain rfl : k = ps.length := by omega
      clear hPg hlen hfp hkp
      go_wp2
      go_end0
      exact ⟨rfl, HI.out⟩


set_option maxHeartbeats 1000000 in
theorem growsB_calls (w : World) (g : Nat) (cur : Array Value) (A : Option Addr) (c : Nat) (ps : List Pg) (hB : BookB (fun _ w p => Full w p ∨ Grown w p) w g cur A c ps) (hps : ps.length ≤ 96) :
    Calls Tryz.prog 59 #[.pointer (some ⟨g, 0, none⟩)] w fun e w' => e = .returned (.tuple #[]) ∧ PsSo (GrowI ps.length) w g A c ps w' := by
  have H := Lib.hid hB
  clear hB
  go_enter Tryz.func59, Tryz.ntmps59
  go_wp2
  go_loopw [2] (fun i wr => ∃ k : Nat, k ≤ ps.length ∧ i = .int .i64 (k : Int) ∧ Hid (PsSo (GrowI k) w g A c ps wr)) (fun i _ => ps.length - (intOf i).toNat)
  case atStart => exact ⟨0, Nat.zero_le _, rfl, Lib.hid ⟨ps, rfl, H.out.2.2.imp (fun i p hp h => by unfold GrowI; rw [if_neg (by omega)]; exact h), fun q hq x hx => .inl (.inr ⟨q, hq, hx⟩), Kp.refl _ _⟩⟩
  case round =>
    obtain ⟨k, hk, rfl, HI⟩ := hrel
    obtain ⟨ps', hlen, hPg, hfp, hkp⟩ := HI.out
    have hlt0 := (Array.getElem?_eq_some_iff.1 H.out.1).1
    have hgn : ¬ PsFp A ps g := fun h => h.elim H.out.2.2.2.1 (fun ⟨p, hp, hf⟩ => by obtain ⟨i, hi⟩ := List.mem_iff_getElem?.1 hp; exact (H.out.2.2.2.2.1 i p hi).2.1 hf)
    have hb : wr.heap[g]? = some (.cells cur 50 (0, 0)) := (hkp.block g hlt0 hgn).trans H.out.1
    have f1 : wr.cell? ⟨g, 1, none⟩ = some (.slice A ps.length c) := (cell_of_block hb).trans H.out.2.1
    have hgl : g < wr.heap.size := Nat.lt_of_lt_of_le hlt0 hkp.size
    clear hb hlt0 hgn
    by_cases hlt : k < ps.length
    · obtain ⟨hA, rfl⟩ := hPg.1.some_ (by omega)
      have hp : ps'[k]? = some (ps'[k]'(by omega)) := List.getElem?_eq_getElem (by omega)
      generalize ps'[k]'(by omega) = p at hp
      obtain ⟨curA, hcA, hcv⟩ := hPg.1.block
      have hc : ∀ j u, j < 5 → p.vals[j]? = some u → curA[k * 5 + j]? = some u := fun j u hj hu => hcv _ _ ((flat_get ps' k j p hp hj).trans hu)
      have e4 : wr.cell? ⟨hA, k * 5 + 1, none⟩ = some (.slice p.G p.gn p.gc) := (cell_of_block hcA).trans (hc 1 _ (by omega) rfl)
      have hpk := (hPg.2.2.1 k p hp).1
      unfold GrowI at hpk
      rw [if_neg (by omega)] at hpk
      have hki : (k : Int) < (ps.length : Int) := by omega
      have hk0 : (0 : Int) ≤ k := by omega
      have hLA : ∀ x, p.Fp x → ¬ Bk (some ⟨hA, 0, none⟩) x := fun x hx => ((hPg.2.2.1 k p hp).2.2 x hx).2
      have hLl : ∀ x, p.Fp x → x < wr.heap.size := fun x hx => ((hPg.2.2.1 k p hp).2.2 x hx).1
      have HP := Lib.hid (And.intro hlen (And.intro hPg (And.intro hfp (And.intro hkp (And.intro hp (And.intro hcA (And.intro hc (And.intro hLA (And.intro hLl hpk)))))))))
      clear hlen hPg hfp hkp hp hcA hcv hc hLA hLl HI
      rcases hpk with hpk | hpk
      · have hd : p.gn = 0 := hpk.2.2.1
        have HK := Lib.hid hpk
        clear hpk
        rw [hd] at e4
        have HD := Lib.hid hd
        clear hd
        go_wp2_with fail
        have hcv := HP.out.2.2.2.2.2.2.1
        obtain ⟨q1, q2, q3, q4, q5, q6, q9⟩ := HK.out
        have hi := hcv 3 (.int .i64 (p.id : Int)) (by omega) rfl
        refine (growB_calls wr hA (k * 5) curA p.L p.c p.n p.id (.slice p.G p.gn p.gc) (bcs (marksB p.id p.n)) HP.out.2.2.2.2.2.1 (by have := hcv 0 _ (by omega) (rfl : p.vals[0]? = some (.slice p.L p.n p.c)); rwa [Nat.add_zero] at this) (hcv 1 _ (by omega) rfl) hi q9 (fun hb => HP.out.2.2.2.2.2.2.2.1 hA (.inl hb) (Bk.some_.2 rfl)) q5 q6).mono ?_
        rintro e w2 ⟨rfl, G2, cG2, r1, r2, r3, r4, r5⟩
        have HW := Lib.hid (And.intro r1 (And.intro r2 (And.intro r3 (And.intro r4 r5))))
        clear r1 r2 r3 r4 r5 hi hcv
        go_wp2_with fail
        have hz := HW.out.2.2.1.size
        refine ⟨⟨k + 1, by omega, by go_num, Lib.hid ?_⟩, by simp [intOf]; omega⟩
        refine PsSo.turn (i := k) (j := 1) (p := p) (p' := { p with G := G2, gn := p.n + 64, gc := cG2 }) (v := .slice G2 (p.n + 64) cG2) (P := GrowI k) HP.out.1 HP.out.2.1 HP.out.2.2.1 HP.out.2.2.2.1 (GrowI.stable k) HP.out.2.2.2.2.1 (by omega) rfl HP.out.2.2.2.2.2.1 HW.out.2.2.2.2 HW.out.2.2.1 (fun i q hik h => ?_) ?_ (fun x hx => ?_) (fun x hx => ?_) hgl
        · unfold GrowI at h ⊢
          by_cases hik2 : i < k
          · rw [if_pos hik2] at h
            rw [if_pos (by omega)]
            exact h
          · rw [if_neg hik2] at h
            rw [if_neg (by omega)]
            exact h
        · unfold GrowI
          rw [if_pos (by omega)]
          refine ⟨q1, rfl, q5, q6, HW.out.2.1.rd2, ?_⟩
          have := HW.out.1
          rw [← bcs_append] at this
          exact this.rd2
        · rcases hx with hx | hx | hx
          · exact .inl (.inl hx)
          · exact (HW.out.2.2.2.1 x hx).imp (fun h => .inl h) id
          · exact .inl (.inr (.inr hx))
        · rcases hx with hx | hx | hx
          · exact HW.out.2.1.lt x hx
          · exact HW.out.1.lt x hx
          · exact Nat.lt_of_lt_of_le (HP.out.2.2.2.2.2.2.2.2.1 x (.inr (.inr hx))) hz
      · have hd : p.gn = p.n + 64 := hpk.2.1
        have HK := Lib.hid hpk
        clear hpk
        rw [hd] at e4
        have HD := Lib.hid hd
        clear hd
        have hnz : ((p.n : Int) + 64 == 0) = false := by rw [beq_eq_false_iff_ne]; omega
        go_wp2_with fail
        refine ⟨⟨k + 1, by omega, by go_num, Lib.hid ⟨ps', HP.out.1, HP.out.2.1.imp (fun i q hq h => ?_), HP.out.2.2.1, HP.out.2.2.2.1⟩⟩, by simp [intOf]; omega⟩
        unfold GrowI at h ⊢
        by_cases hik2 : i < k
        · rw [if_pos hik2] at h
          rw [if_pos (by omega)]
          exact h
        · rw [if_neg hik2] at h
          by_cases hik : i = k
          · subst hik
            rw [if_pos (by omega)]
            rw [HP.out.2.2.2.2.1] at hq
            cases hq
            exact HK.out
          · rw [if_neg (by omega)]
            exact h
    · obtain rfl : k = ps.length := by omega
      clear hPg hlen hfp hkp
      go_wp2
      go_end0
      exact ⟨rfl, HI.out⟩

end Go.Proofs.YtdgpnpagbhikoaaGreatDoor.Kit
