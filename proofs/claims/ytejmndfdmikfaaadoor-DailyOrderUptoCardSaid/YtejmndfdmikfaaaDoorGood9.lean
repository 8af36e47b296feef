/- daily.good, daily.isDay: which names and days are let in. -/
import Derived.Test.YtejmndfdmikfaaaDoorChart
import Derived.Test.YtejmndfdmikfaaaDoorDailyN
namespace Go.Proofs.YtejmndfdmikfaaaDoor.Kit
open Go Go.RowKit Go.Shelf

def isDayB (d : Int) : Bool := decide (1 ≤ d) && decide (d ≤ 3652059)
theorem isDay_calls (w : World) (d : Int) : Calls Tryd.prog 41 #[.int .i64 d] w fun e w' => e = .returned (.bool (isDayB d)) ∧ w = w' := by
  obtain ⟨r, hr⟩ : ∃ r, isDayB d = r := ⟨_, rfl⟩
  rw [hr]
  unfold isDayB at hr
  by_cases h1 : (1 : Int) ≤ d
  · by_cases h2 : d ≤ (3652059 : Int)
    · rw [decide_eq_true h1, decide_eq_true h2] at hr
      subst hr
      go_enter Tryd.func41, Tryd.ntmps41
      go_wp2
      go_ret
      exact ⟨rfl, rfl⟩
    · rw [decide_eq_true h1, decide_eq_false h2] at hr
      subst hr
      go_enter Tryd.func41, Tryd.ntmps41
      go_wp2
      go_ret
      exact ⟨rfl, rfl⟩
  · rw [decide_eq_false h1] at hr
    subst hr
    go_enter Tryd.func41, Tryd.ntmps41
    go_wp2
    go_ret
    exact ⟨rfl, rfl⟩
/-- Is it the name of an account? -/
def goodD (s : List UInt8) : Bool := (partsOf s).all partOk && decide ((partsOf s).length ≤ 6)
theorem pk_step {ps : List (List UInt8)} {k : Nat} (hk : k < ps.length) (h : (ps.take k).all partOk = true) (hx : partOk ps[k] = true) : (ps.take (k + 1)).all partOk = true := by
  rw [List.take_succ_eq_append_getElem hk, List.all_append, h, Bool.true_and, List.all_cons, hx]
  rfl
theorem pk_stop {ps : List (List UInt8)} {k : Nat} (hk : k < ps.length) (hx : partOk ps[k] = false) : (ps.all partOk && decide (ps.length ≤ 6)) = false := by
  have : ps.all partOk = false := by
    rw [List.all_eq_false]
    exact ⟨ps[k], List.getElem_mem hk, by simp [hx]⟩
  rw [this]
  rfl
theorem partsOf_le : ∀ (n : Nat) (s : List UInt8), s.length ≤ n → ∀ p ∈ partsOf s, p.length ≤ s.length
  | n, s, hn, p, hp => by
    rcases part1_or s with h | ⟨r, h⟩
    · have hs : 58 ∉ s := h ▸ part1_no s
      rw [partsOf_one hs] at hp
      obtain rfl := List.mem_singleton.1 hp
      exact Nat.le_refl _
    · have hl : s.length = (part1 s).length + (r.length + 1) := by
        have := congrArg List.length h
        simpa using this
      cases n with
      | zero => omega
      | succ n =>
        rw [h, partsOf_cons (part1_no s)] at hp
        rcases List.mem_cons.1 hp with rfl | hp
        · omega
        · have := partsOf_le n r (by omega) p hp
          omega
theorem partsOf_length : ∀ (n : Nat) (s : List UInt8), s.length ≤ n → (partsOf s).length ≤ s.length + 1
  | n, s, hn => by
    rcases part1_or s with h | ⟨r, h⟩
    · have hs : 58 ∉ s := h ▸ part1_no s
      rw [partsOf_one hs]
      simp
    · have hl : s.length = (part1 s).length + (r.length + 1) := by
        have := congrArg List.length h
        simpa using this
      cases n with
      | zero => omega
      | succ n =>
        have := partsOf_length n r (by omega)
        rw [h, partsOf_cons (part1_no s), ← h, List.length_cons]
        omega
set_option maxRecDepth 100000 in
set_option maxHeartbeats 4000000 in
theorem Good9_calls (w : World) (s : List UInt8) (hs : s.length < 4294967281) :
    Calls Tryd.prog 40 #[.string (bstr s)] w fun e w' => e = .returned (.bool (goodD s)) ∧ New w w' := by
  have hsp := Split_calls w s hs
  unfold goodD
  obtain ⟨ps, hps⟩ : ∃ ps, partsOf s = ps := ⟨_, rfl⟩
  have hpl : ∀ p ∈ ps, p.length < 4611686018427387904 := by
    intro p hp
    rw [← hps] at hp
    have := partsOf_le s.length s (Nat.le_refl _) p hp
    omega
  have hpn : ps.length < 4611686018427387904 := by
    rw [← hps]
    have := partsOf_length s.length s (Nat.le_refl _)
    omega
  rw [hps] at hsp ⊢
  clear hps
  obtain ⟨W, hW⟩ : ∃ W, w.alloc (.cells (ps.map sv).toArray 9) = W := ⟨_, rfl⟩
  rw [hW] at hsp
  have hb : W.heap[w.heap.size]? = some (.cells (ps.map sv).toArray 9 (0, 0)) := hW ▸ heap_alloc_new w _
  have nW : New w W := hW ▸ Kp.alloc _ _ _
  have HN := Lib.hid (And.intro nW (And.intro hb hpl))
  clear hW nW hb hpl
  go_enter Tryd.func40, Tryd.ntmps40
  go_wp2_with fail
  refine hsp.mono ?_
  rintro e w1 ⟨rfl, hw1⟩
  rw [hw1]
  clear hsp hw1
  go_wp2_with fail
  go_loopw [12] (fun i wr => ∃ k : Nat, k ≤ ps.length ∧ i = .int .i64 (k : Int) ∧ Hid ((ps.take k).all partOk = true ∧ New W wr)) (fun i _ => ps.length - (intOf i).toNat)
  case atStart => exact ⟨0, Nat.zero_le _, rfl, Lib.hid ⟨by simp, Kp.refl _ _⟩⟩
  case round =>
    obtain ⟨k, hk, rfl, HI⟩ := hrel
    have hk0 : (0 : Int) ≤ k := by omega
    by_cases hlt : k < ps.length
    · have hki : (k : Int) < (ps.length : Int) := by omega
      have hc : wr.cell? ⟨w.heap.size, k, none⟩ = some (.string (bstr ps[k])) := by
        refine New.cell HI.out.2 ?_
        rw [cell_of_block HN.out.2.1]
        simp [hlt]
      have hpk := HN.out.2.2 ps[k] (List.getElem_mem hlt)
      have HX := Lib.hid (And.intro (fun hx => pk_step hlt HI.out.1 hx) (fun hx => pk_stop hlt hx))
      generalize ps[k] = p at hc hpk HX
      have hz : (bstr p).size = p.length := rfl
      have hbad : partOk p = false → ∀ wz, New W wz → ((Ending.returned (.bool false)) = .returned (.bool (ps.all partOk && decide (ps.length ≤ 6))) ∧ New w wz) := fun h wz hn => ⟨by rw [HX.out.2 h], HN.out.1.trans hn (fun _ _ h => h) (fun _ _ h => h)⟩
      have HB := Lib.hid hbad
      clear hbad
      by_cases h0 : 0 < p.length
      · have hne : (bstr p).toList.isEmpty = false := by
          rw [Lib.toList_data, bstr_toList]
          cases p with
          | nil => simp at h0
          | cons _ _ => rfl
        have hpo := partOk_iff h0
        have i0 := run_at0 (P := Tryd.prog) Tryd.underlying9 p h0
        have hx0 := (p[0]'h0).toNat_lt
        generalize p[0]'h0 = x0 at i0 hx0 hpo
        by_cases h1 : p.length ≤ 16
        · have d1 : decide ((16 : Int) < p.length) = false := decide_eq_false (by omega)
          by_cases h2 : (65 : Int) ≤ (x0.toNat : Int)
          · have d2 : decide ((x0.toNat : Int) < 65) = false := decide_eq_false (by omega)
            by_cases h3 : (x0.toNat : Int) ≤ 90
            · have d3 : decide ((90 : Int) < x0.toNat) = false := decide_eq_false (by omega)
              rw [decide_eq_true h1, decide_eq_true (⟨h2, h3⟩ : (65 : Int) ≤ (x0.toNat : Int) ∧ (x0.toNat : Int) ≤ 90), Bool.true_and, Bool.true_and] at hpo
              obtain ⟨c, w1, hr, hrd, hn, hz1, hc1⟩ := run_bytes_of (P := Tryd.prog) wr (src := 9) (dst := 118) (e := 5) Tryd.underlying9 Tryd.underlying118 Tryd.underlying5 p
              have HR := Lib.hid (And.intro hrd (And.intro hn hpo))
              clear hrd hn hz1 hc1 hpo
              go_wp2
              go_loopw [36] (fun i wq => ∃ j : Nat, j ≤ p.length ∧ i = .int .i64 (j : Int) ∧ wq = w1 ∧ Hid ((p.take j).all partByte = true)) (fun i _ => p.length - (intOf i).toNat)
              case atStart => exact ⟨0, Nat.zero_le _, rfl, rfl, Lib.hid (by simp)⟩
              case round =>
                obtain ⟨j, hj, rfl, rfl, HJ⟩ := hrel
                by_cases hjl : j < p.length
                · obtain ⟨b1, o1, he, hc1⟩ := HR.out.1.at_ hjl
                  cases he
                  have e1 := hc1 j hjl
                  rw [Nat.zero_add] at e1
                  clear hc1
                  have HY := Lib.hid (And.intro (fun hx => pall_step hjl HJ.out hx) (fun hx => pall_stop hjl hx))
                  generalize p[j] = x at e1 HY
                  have hxl := x.toNat_lt
                  have hji : (j : Int) < (p.length : Int) := by omega
                  clear i0 hc d1 d2 d3
                  go_wp2
                  all_goals (try simp only [beq_iff_eq, beq_eq_false_iff_ne, ne_eq] at *)
                  all_goals first
                    | exact ⟨⟨j + 1, by omega, by go_num, trivial, Lib.hid (HY.out.1 ((partByte_iff x).2 (by omega)))⟩, by simp [intOf]; omega⟩
                    | (go_ret; exact HB.out (by rw [HR.out.2.2, HY.out.2 (fun h => by have := (partByte_iff x).1 h; omega)]) _ (HI.out.2.trans HR.out.2.1 (fun _ _ h => h) (fun _ _ h => h)))
                · obtain rfl : j = p.length := by omega
                  have hall : partOk p = true := by have h := HJ.out; rw [List.take_length] at h; rw [HR.out.2.2, h]
                  have HA := Lib.hid (HX.out.1 hall)
                  clear hall i0 hc d1 d2 d3
                  go_wp2
                  exact ⟨⟨k + 1, by omega, by go_num, Lib.hid ⟨HA.out, HI.out.2.trans HR.out.2.1 (fun _ _ h => h) (fun _ _ h => h)⟩⟩, by simp [intOf]; omega⟩
            · have d3 : decide ((90 : Int) < x0.toNat) = true := decide_eq_true (by omega)
              have hf : partOk p = false := by rw [hpo]; simp [h3]
              have HF := Lib.hid (HB.out hf)
              clear hf hpo
              go_wp2
              go_ret
              exact HF.out _ HI.out.2
          · have d2 : decide ((x0.toNat : Int) < 65) = true := decide_eq_true (by omega)
            have hf : partOk p = false := by rw [hpo]; simp [h2]
            have HF := Lib.hid (HB.out hf)
            clear hf hpo
            go_wp2
            go_ret
            exact HF.out _ HI.out.2
        · have d1 : decide ((16 : Int) < p.length) = true := decide_eq_true (by omega)
          have hf : partOk p = false := by rw [hpo]; simp [h1]
          have HF := Lib.hid (HB.out hf)
          clear hf hpo
          go_wp2
          go_ret
          exact HF.out _ HI.out.2
      · have h3 : p = [] := List.eq_nil_of_length_eq_zero (by omega)
        subst h3
        have HF := Lib.hid (HB.out rfl)
        clear h0 hz
        have hz : (bstr []).size = 0 := rfl
        have hd : (bstr []).toList.isEmpty = true := by rw [Lib.toList_data, bstr_toList]; rfl
        go_wp2
        go_ret
        exact HF.out _ HI.out.2
    · obtain rfl : k = ps.length := by omega
      have hall := HI.out.1
      rw [List.take_length] at hall
      have HA := Lib.hid hall
      clear hall
      by_cases h6 : ps.length ≤ 6
      · have d6 : decide ((ps.length : Int) ≤ 6) = true := decide_eq_true (by omega)
        have HD := Lib.hid (decide_eq_true h6)
        go_wp2
        go_ret
        exact ⟨by rw [HA.out, HD.out]; rfl, HN.out.1.trans HI.out.2 (fun _ _ h => h) (fun _ _ h => h)⟩
      · have d6 : decide ((ps.length : Int) ≤ 6) = false := decide_eq_false (by omega)
        have HD := Lib.hid (decide_eq_false h6)
        go_wp2
        go_ret
        exact ⟨by rw [HA.out, HD.out]; rfl, HN.out.1.trans HI.out.2 (fun _ _ h => h) (fun _ _ h => h)⟩
end Go.Proofs.YtejmndfdmikfaaaDoor.Kit
