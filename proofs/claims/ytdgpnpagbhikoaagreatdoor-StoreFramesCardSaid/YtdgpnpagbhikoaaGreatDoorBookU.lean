/- PRINTED by gen_bytesbook.py. daybookkeep: a book that holds pages of bytes alone, settled. -/
import Derived.Test.YtdgpnpagbhikoaaGreatDoorBookI
import Derived.Test.YtdgpnpagbhikoaaGreatDoorBookT
namespace Go.Proofs.YtdgpnpagbhikoaaGreatDoor.Kit
open Go Go.RowKit

/-- What stands beside the book, and is only read. -/
def Beside (W0 : World) (rds : List (Option Addr × List UInt8)) (g : Nat) (A : Option Addr) (ps : List Pg) (w : World) : Prop :=
  New W0 w ∧ W0.heap.size ≤ g ∧ (∀ x, PsFp A ps x → W0.heap.size ≤ x) ∧ ∀ r ∈ rds, RdB w r.1 r.2 ∧ ∀ x, Bk r.1 x → x < w.heap.size ∧ x ≠ g ∧ ¬ PsFp A ps x
/-- A book of bytes. -/
def BB (P : Nat → World → Pg → Prop) (g : Nat) (W0 : World) (rds : List (Option Addr × List UInt8)) (w : World) : Prop :=
  ∃ cur A c ps, BookB P w g cur A c ps ∧ ps.length ≤ 96 ∧ (∀ k, 2 ≤ k → k ≤ 20 → cur[k]? = some (.slice none 0 0)) ∧ Beside W0 rds g A ps w
def FG : Nat → World → Pg → Prop := fun _ w p => Full w p ∨ Grown w p
def Gr : Nat → World → Pg → Prop := fun _ w p => Grown w p
theorem BookB.out {P : Nat → World → Pg → Prop} {w : World} {g c : Nat} {cur : Array Value} {A : Option Addr} {ps : List Pg} (h : BookB P w g cur A c ps) : ¬ PsFp A ps g :=
  fun hf => hf.elim h.2.2.2.1 (fun ⟨p, hp, hf⟩ => by obtain ⟨i, hi⟩ := List.mem_iff_getElem?.1 hp; exact (h.2.2.2.2.1 i p hi).2.1 hf)
theorem BookB.lt {P : Nat → World → Pg → Prop} {w : World} {g c : Nat} {cur : Array Value} {A : Option Addr} {ps : List Pg} (h : BookB P w g cur A c ps) : ∀ x, PsFp A ps x → x < w.heap.size := by
  rintro x (hx | ⟨p, hp, hf⟩)
  · exact h.2.2.1.lt x hx
  · obtain ⟨i, hi⟩ := List.mem_iff_getElem?.1 hp
    exact ((h.2.2.2.2.1 i p hi).2.2 x hf).1
theorem BB.new {P : Nat → World → Pg → Prop} (hP : ∀ i, Stable (P i)) {g : Nat} {W0 w w' : World} {rds : List (Option Addr × List UInt8)} (h : BB P g W0 rds w) (hn : New w w') : BB P g W0 rds w' := by
  obtain ⟨cur, A, c, ps, hB, h1, h2, h3, h4, h5, h6⟩ := h
  refine ⟨cur, A, c, ps, ⟨(hn.block g (Array.getElem?_eq_some_iff.1 hB.1).1 id).trans hB.1, hB.2.1, hB.2.2.new hP hn⟩, h1, h2, h3.trans hn (fun _ _ h => h) (fun _ _ h => h), h4, h5, fun r hr => ⟨(h6 r hr).1.new hn, fun x hx => ?_⟩⟩
  obtain ⟨k1, k2, k3⟩ := (h6 r hr).2 x hx
  exact ⟨Nat.lt_of_lt_of_le k1 hn.size, k2, k3⟩
theorem BB.cell {P : Nat → World → Pg → Prop} {g : Nat} {W0 w : World} {rds : List (Option Addr × List UInt8)} (h : BB P g W0 rds w) (k : Nat) (h1 : 2 ≤ k) (h2 : k ≤ 20) : w.cell? ⟨g, k, none⟩ = some (.slice none 0 0) := by
  obtain ⟨cur, A, c, ps, hB, _, hz, _⟩ := h
  exact (cell_of_block hB.1).trans (hz k h1 h2)
theorem BB.step {P P' : Nat → World → Pg → Prop} {g : Nat} {W0 w w' : World} {rds : List (Option Addr × List UInt8)} {cur : Array Value} {A : Option Addr} {c : Nat} {ps : List Pg} (hB : BookB P w g cur A c ps) (h1 : ps.length ≤ 96) (h2 : ∀ k, 2 ≤ k → k ≤ 20 → cur[k]? = some (.slice none 0 0)) (hb : Beside W0 rds g A ps w) (hs : PsSo P' w g A c ps w') : BB P' g W0 rds w' := by
  obtain ⟨ps', hl, hPg, hfp, hk⟩ := hs
  obtain ⟨h3, h4, h5, h6⟩ := hb
  have hgl := (Array.getElem?_eq_some_iff.1 hB.1).1
  have hz := hk.size
  have hz3 := h3.size
  have hfp' : ∀ x, PsFp A ps' x → PsFp A ps x ∨ w.heap.size ≤ x := by
    rintro x (hx | ⟨q, hq, hf⟩)
    · exact .inl (.inl hx)
    · exact hfp q hq x hf
  refine ⟨cur, A, c, ps', ⟨(hk.block g hgl hB.out).trans hB.1, by rw [hl]; exact hB.2.1, hPg⟩, by omega, h2, h3.trans hk (fun _ _ h => h) (fun x hx hf => by have := h5 x hf; omega), h4, fun x hx => (hfp' x hx).elim (h5 x) (fun h => by omega), fun r hr => ?_⟩
  obtain ⟨k1, k2⟩ := h6 r hr
  refine ⟨k1.kp hk (fun x hx => (k2 x hx).2.2), fun x hx => ?_⟩
  obtain ⟨m1, m2, m3⟩ := k2 x hx
  exact ⟨Nat.lt_of_lt_of_le m1 hz, m2, fun hf => (hfp' x hf).elim m3 (fun h => by omega)⟩
theorem FG.stable (i : Nat) : Stable (FG i) := Stable.or Full.kp Grown.kp
theorem Gr.stable (i : Nat) : Stable (Gr i) := Grown.kp

theorem looksBB (P : Nat → World → Pg → Prop) (hP : ∀ i, Stable (P i)) (hL : ∀ i w p, P i w p → Look i w p) (g : Nat) (W0 : World) (rds : List (Option Addr × List UInt8)) : LooksB g (BB P g W0 rds) := by
  refine ⟨fun w h => ?_, fun w h => ?_, fun w h => ?_, fun w h => ?_, fun w h => ?_, fun w h => ?_, fun w h => ?_, fun w h => ?_, fun w h => ?_, fun w h => ?_, fun w h => ?_, fun w h => ?_, fun w h => ?_, fun w h => ?_, fun w h => ?_, fun w h => ?_, fun w h => ?_, fun w h => ?_, fun w h => ?_, fun w h => ?_⟩
  · obtain ⟨cur, A, c, ps, hB, h1, h2, h3⟩ := h
    refine (intactB_calls w g cur A c ps ⟨hB.1, hB.2.1, hB.2.2.imp (fun i p _ h => hL i w p h)⟩ h1).mono ?_
    rintro e w' ⟨rfl, hn⟩
    exact ⟨rfl, BB.new hP ⟨cur, A, c, ps, hB, h1, h2, h3⟩ hn⟩
  · refine (intactInts_none w g (h.cell 2 (by omega) (by omega))).mono ?_
    rintro e w' ⟨rfl, rfl⟩
    exact ⟨rfl, h⟩
  · refine (intactNums_none w g (h.cell 3 (by omega) (by omega))).mono ?_
    rintro e w' ⟨rfl, rfl⟩
    exact ⟨rfl, h⟩
  · refine (intactTexts_none w g (h.cell 4 (by omega) (by omega))).mono ?_
    rintro e w' ⟨rfl, rfl⟩
    exact ⟨rfl, h⟩
  · refine (intactPostings_none w g (h.cell 5 (by omega) (by omega))).mono ?_
    rintro e w' ⟨rfl, rfl⟩
    exact ⟨rfl, h⟩
  · refine (intactClaims_none w g (h.cell 6 (by omega) (by omega))).mono ?_
    rintro e w' ⟨rfl, rfl⟩
    exact ⟨rfl, h⟩
  · refine (intactAllots_none w g (h.cell 7 (by omega) (by omega))).mono ?_
    rintro e w' ⟨rfl, rfl⟩
    exact ⟨rfl, h⟩
  · refine (intactAccounts_none w g (h.cell 8 (by omega) (by omega))).mono ?_
    rintro e w' ⟨rfl, rfl⟩
    exact ⟨rfl, h⟩
  · refine (intactBalances_none w g (h.cell 9 (by omega) (by omega))).mono ?_
    rintro e w' ⟨rfl, rfl⟩
    exact ⟨rfl, h⟩
  · refine (intactColumns_none w g (h.cell 10 (by omega) (by omega))).mono ?_
    rintro e w' ⟨rfl, rfl⟩
    exact ⟨rfl, h⟩
  · refine (intactDays_none w g (h.cell 11 (by omega) (by omega))).mono ?_
    rintro e w' ⟨rfl, rfl⟩
    exact ⟨rfl, h⟩
  · refine (intactLines_none w g (h.cell 12 (by omega) (by omega))).mono ?_
    rintro e w' ⟨rfl, rfl⟩
    exact ⟨rfl, h⟩
  · refine (intactCells_none w g (h.cell 13 (by omega) (by omega))).mono ?_
    rintro e w' ⟨rfl, rfl⟩
    exact ⟨rfl, h⟩
  · refine (intactSegments_none w g (h.cell 14 (by omega) (by omega))).mono ?_
    rintro e w' ⟨rfl, rfl⟩
    exact ⟨rfl, h⟩
  · refine (intactNodes_none w g (h.cell 15 (by omega) (by omega))).mono ?_
    rintro e w' ⟨rfl, rfl⟩
    exact ⟨rfl, h⟩
  · refine (intactEvents_none w g (h.cell 16 (by omega) (by omega))).mono ?_
    rintro e w' ⟨rfl, rfl⟩
    exact ⟨rfl, h⟩
  · refine (intactEntries_none w g (h.cell 17 (by omega) (by omega))).mono ?_
    rintro e w' ⟨rfl, rfl⟩
    exact ⟨rfl, h⟩
  · refine (intactFiles_none w g (h.cell 18 (by omega) (by omega))).mono ?_
    rintro e w' ⟨rfl, rfl⟩
    exact ⟨rfl, h⟩
  · refine (intactLists_none w g (h.cell 19 (by omega) (by omega))).mono ?_
    rintro e w' ⟨rfl, rfl⟩
    exact ⟨rfl, h⟩
  · refine (intactRows_none w g (h.cell 20 (by omega) (by omega))).mono ?_
    rintro e w' ⟨rfl, rfl⟩
    exact ⟨rfl, h⟩
theorem fillIntsBB (P : Nat → World → Pg → Prop) (g : Nat) (W0 : World) (rds : List (Option Addr × List UInt8)) : StepB 40 g (BB P g W0 rds) (BB P g W0 rds) := by
  intro w h
  refine (fillInts_none w g (h.cell 2 (by omega) (by omega))).mono ?_
  rintro e w' ⟨rfl, rfl⟩
  exact ⟨rfl, h⟩
theorem fillNumsBB (P : Nat → World → Pg → Prop) (g : Nat) (W0 : World) (rds : List (Option Addr × List UInt8)) : StepB 41 g (BB P g W0 rds) (BB P g W0 rds) := by
  intro w h
  refine (fillNums_none w g (h.cell 3 (by omega) (by omega))).mono ?_
  rintro e w' ⟨rfl, rfl⟩
  exact ⟨rfl, h⟩
theorem fillTextsBB (P : Nat → World → Pg → Prop) (g : Nat) (W0 : World) (rds : List (Option Addr × List UInt8)) : StepB 42 g (BB P g W0 rds) (BB P g W0 rds) := by
  intro w h
  refine (fillTexts_none w g (h.cell 4 (by omega) (by omega))).mono ?_
  rintro e w' ⟨rfl, rfl⟩
  exact ⟨rfl, h⟩
theorem fillPostingsBB (P : Nat → World → Pg → Prop) (g : Nat) (W0 : World) (rds : List (Option Addr × List UInt8)) : StepB 43 g (BB P g W0 rds) (BB P g W0 rds) := by
  intro w h
  refine (fillPostings_none w g (h.cell 5 (by omega) (by omega))).mono ?_
  rintro e w' ⟨rfl, rfl⟩
  exact ⟨rfl, h⟩
theorem fillClaimsBB (P : Nat → World → Pg → Prop) (g : Nat) (W0 : World) (rds : List (Option Addr × List UInt8)) : StepB 44 g (BB P g W0 rds) (BB P g W0 rds) := by
  intro w h
  refine (fillClaims_none w g (h.cell 6 (by omega) (by omega))).mono ?_
  rintro e w' ⟨rfl, rfl⟩
  exact ⟨rfl, h⟩
theorem fillAllotsBB (P : Nat → World → Pg → Prop) (g : Nat) (W0 : World) (rds : List (Option Addr × List UInt8)) : StepB 45 g (BB P g W0 rds) (BB P g W0 rds) := by
  intro w h
  refine (fillAllots_none w g (h.cell 7 (by omega) (by omega))).mono ?_
  rintro e w' ⟨rfl, rfl⟩
  exact ⟨rfl, h⟩
theorem fillAccountsBB (P : Nat → World → Pg → Prop) (g : Nat) (W0 : World) (rds : List (Option Addr × List UInt8)) : StepB 46 g (BB P g W0 rds) (BB P g W0 rds) := by
  intro w h
  refine (fillAccounts_none w g (h.cell 8 (by omega) (by omega))).mono ?_
  rintro e w' ⟨rfl, rfl⟩
  exact ⟨rfl, h⟩
theorem fillBalancesBB (P : Nat → World → Pg → Prop) (g : Nat) (W0 : World) (rds : List (Option Addr × List UInt8)) : StepB 47 g (BB P g W0 rds) (BB P g W0 rds) := by
  intro w h
  refine (fillBalances_none w g (h.cell 9 (by omega) (by omega))).mono ?_
  rintro e w' ⟨rfl, rfl⟩
  exact ⟨rfl, h⟩
theorem fillColumnsBB (P : Nat → World → Pg → Prop) (g : Nat) (W0 : World) (rds : List (Option Addr × List UInt8)) : StepB 48 g (BB P g W0 rds) (BB P g W0 rds) := by
  intro w h
  refine (fillColumns_none w g (h.cell 10 (by omega) (by omega))).mono ?_
  rintro e w' ⟨rfl, rfl⟩
  exact ⟨rfl, h⟩
theorem fillDaysBB (P : Nat → World → Pg → Prop) (g : Nat) (W0 : World) (rds : List (Option Addr × List UInt8)) : StepB 49 g (BB P g W0 rds) (BB P g W0 rds) := by
  intro w h
  refine (fillDays_none w g (h.cell 11 (by omega) (by omega))).mono ?_
  rintro e w' ⟨rfl, rfl⟩
  exact ⟨rfl, h⟩
theorem fillLinesBB (P : Nat → World → Pg → Prop) (g : Nat) (W0 : World) (rds : List (Option Addr × List UInt8)) : StepB 50 g (BB P g W0 rds) (BB P g W0 rds) := by
  intro w h
  refine (fillLines_none w g (h.cell 12 (by omega) (by omega))).mono ?_
  rintro e w' ⟨rfl, rfl⟩
  exact ⟨rfl, h⟩
theorem fillCellsBB (P : Nat → World → Pg → Prop) (g : Nat) (W0 : World) (rds : List (Option Addr × List UInt8)) : StepB 51 g (BB P g W0 rds) (BB P g W0 rds) := by
  intro w h
  refine (fillCells_none w g (h.cell 13 (by omega) (by omega))).mono ?_
  rintro e w' ⟨rfl, rfl⟩
  exact ⟨rfl, h⟩
theorem fillSegmentsBB (P : Nat → World → Pg → Prop) (g : Nat) (W0 : World) (rds : List (Option Addr × List UInt8)) : StepB 52 g (BB P g W0 rds) (BB P g W0 rds) := by
  intro w h
  refine (fillSegments_none w g (h.cell 14 (by omega) (by omega))).mono ?_
  rintro e w' ⟨rfl, rfl⟩
  exact ⟨rfl, h⟩
theorem fillNodesBB (P : Nat → World → Pg → Prop) (g : Nat) (W0 : World) (rds : List (Option Addr × List UInt8)) : StepB 53 g (BB P g W0 rds) (BB P g W0 rds) := by
  intro w h
  refine (fillNodes_none w g (h.cell 15 (by omega) (by omega))).mono ?_
  rintro e w' ⟨rfl, rfl⟩
  exact ⟨rfl, h⟩
theorem fillEventsBB (P : Nat → World → Pg → Prop) (g : Nat) (W0 : World) (rds : List (Option Addr × List UInt8)) : StepB 54 g (BB P g W0 rds) (BB P g W0 rds) := by
  intro w h
  refine (fillEvents_none w g (h.cell 16 (by omega) (by omega))).mono ?_
  rintro e w' ⟨rfl, rfl⟩
  exact ⟨rfl, h⟩
theorem fillEntriesBB (P : Nat → World → Pg → Prop) (g : Nat) (W0 : World) (rds : List (Option Addr × List UInt8)) : StepB 55 g (BB P g W0 rds) (BB P g W0 rds) := by
  intro w h
  refine (fillEntries_none w g (h.cell 17 (by omega) (by omega))).mono ?_
  rintro e w' ⟨rfl, rfl⟩
  exact ⟨rfl, h⟩
theorem fillFilesBB (P : Nat → World → Pg → Prop) (g : Nat) (W0 : World) (rds : List (Option Addr × List UInt8)) : StepB 56 g (BB P g W0 rds) (BB P g W0 rds) := by
  intro w h
  refine (fillFiles_none w g (h.cell 18 (by omega) (by omega))).mono ?_
  rintro e w' ⟨rfl, rfl⟩
  exact ⟨rfl, h⟩
theorem fillListsBB (P : Nat → World → Pg → Prop) (g : Nat) (W0 : World) (rds : List (Option Addr × List UInt8)) : StepB 57 g (BB P g W0 rds) (BB P g W0 rds) := by
  intro w h
  refine (fillLists_none w g (h.cell 19 (by omega) (by omega))).mono ?_
  rintro e w' ⟨rfl, rfl⟩
  exact ⟨rfl, h⟩
theorem fillRowsBB (P : Nat → World → Pg → Prop) (g : Nat) (W0 : World) (rds : List (Option Addr × List UInt8)) : StepB 58 g (BB P g W0 rds) (BB P g W0 rds) := by
  intro w h
  refine (fillRows_none w g (h.cell 20 (by omega) (by omega))).mono ?_
  rintro e w' ⟨rfl, rfl⟩
  exact ⟨rfl, h⟩
theorem growIntsBB (P : Nat → World → Pg → Prop) (g : Nat) (W0 : World) (rds : List (Option Addr × List UInt8)) : StepB 60 g (BB P g W0 rds) (BB P g W0 rds) := by
  intro w h
  refine (growInts_none w g (h.cell 2 (by omega) (by omega))).mono ?_
  rintro e w' ⟨rfl, rfl⟩
  exact ⟨rfl, h⟩
theorem growNumsBB (P : Nat → World → Pg → Prop) (g : Nat) (W0 : World) (rds : List (Option Addr × List UInt8)) : StepB 61 g (BB P g W0 rds) (BB P g W0 rds) := by
  intro w h
  refine (growNums_none w g (h.cell 3 (by omega) (by omega))).mono ?_
  rintro e w' ⟨rfl, rfl⟩
  exact ⟨rfl, h⟩
theorem growTextsBB (P : Nat → World → Pg → Prop) (g : Nat) (W0 : World) (rds : List (Option Addr × List UInt8)) : StepB 62 g (BB P g W0 rds) (BB P g W0 rds) := by
  intro w h
  refine (growTexts_none w g (h.cell 4 (by omega) (by omega))).mono ?_
  rintro e w' ⟨rfl, rfl⟩
  exact ⟨rfl, h⟩
theorem growPostingsBB (P : Nat → World → Pg → Prop) (g : Nat) (W0 : World) (rds : List (Option Addr × List UInt8)) : StepB 63 g (BB P g W0 rds) (BB P g W0 rds) := by
  intro w h
  refine (growPostings_none w g (h.cell 5 (by omega) (by omega))).mono ?_
  rintro e w' ⟨rfl, rfl⟩
  exact ⟨rfl, h⟩
theorem growClaimsBB (P : Nat → World → Pg → Prop) (g : Nat) (W0 : World) (rds : List (Option Addr × List UInt8)) : StepB 64 g (BB P g W0 rds) (BB P g W0 rds) := by
  intro w h
  refine (growClaims_none w g (h.cell 6 (by omega) (by omega))).mono ?_
  rintro e w' ⟨rfl, rfl⟩
  exact ⟨rfl, h⟩
theorem growAllotsBB (P : Nat → World → Pg → Prop) (g : Nat) (W0 : World) (rds : List (Option Addr × List UInt8)) : StepB 65 g (BB P g W0 rds) (BB P g W0 rds) := by
  intro w h
  refine (growAllots_none w g (h.cell 7 (by omega) (by omega))).mono ?_
  rintro e w' ⟨rfl, rfl⟩
  exact ⟨rfl, h⟩
theorem growAccountsBB (P : Nat → World → Pg → Prop) (g : Nat) (W0 : World) (rds : List (Option Addr × List UInt8)) : StepB 66 g (BB P g W0 rds) (BB P g W0 rds) := by
  intro w h
  refine (growAccounts_none w g (h.cell 8 (by omega) (by omega))).mono ?_
  rintro e w' ⟨rfl, rfl⟩
  exact ⟨rfl, h⟩
theorem growBalancesBB (P : Nat → World → Pg → Prop) (g : Nat) (W0 : World) (rds : List (Option Addr × List UInt8)) : StepB 67 g (BB P g W0 rds) (BB P g W0 rds) := by
  intro w h
  refine (growBalances_none w g (h.cell 9 (by omega) (by omega))).mono ?_
  rintro e w' ⟨rfl, rfl⟩
  exact ⟨rfl, h⟩
theorem growColumnsBB (P : Nat → World → Pg → Prop) (g : Nat) (W0 : World) (rds : List (Option Addr × List UInt8)) : StepB 68 g (BB P g W0 rds) (BB P g W0 rds) := by
  intro w h
  refine (growColumns_none w g (h.cell 10 (by omega) (by omega))).mono ?_
  rintro e w' ⟨rfl, rfl⟩
  exact ⟨rfl, h⟩
theorem growDaysBB (P : Nat → World → Pg → Prop) (g : Nat) (W0 : World) (rds : List (Option Addr × List UInt8)) : StepB 69 g (BB P g W0 rds) (BB P g W0 rds) := by
  intro w h
  refine (growDays_none w g (h.cell 11 (by omega) (by omega))).mono ?_
  rintro e w' ⟨rfl, rfl⟩
  exact ⟨rfl, h⟩
theorem growLinesBB (P : Nat → World → Pg → Prop) (g : Nat) (W0 : World) (rds : List (Option Addr × List UInt8)) : StepB 70 g (BB P g W0 rds) (BB P g W0 rds) := by
  intro w h
  refine (growLines_none w g (h.cell 12 (by omega) (by omega))).mono ?_
  rintro e w' ⟨rfl, rfl⟩
  exact ⟨rfl, h⟩
theorem growCellsBB (P : Nat → World → Pg → Prop) (g : Nat) (W0 : World) (rds : List (Option Addr × List UInt8)) : StepB 71 g (BB P g W0 rds) (BB P g W0 rds) := by
  intro w h
  refine (growCells_none w g (h.cell 13 (by omega) (by omega))).mono ?_
  rintro e w' ⟨rfl, rfl⟩
  exact ⟨rfl, h⟩
theorem growSegmentsBB (P : Nat → World → Pg → Prop) (g : Nat) (W0 : World) (rds : List (Option Addr × List UInt8)) : StepB 72 g (BB P g W0 rds) (BB P g W0 rds) := by
  intro w h
  refine (growSegments_none w g (h.cell 14 (by omega) (by omega))).mono ?_
  rintro e w' ⟨rfl, rfl⟩
  exact ⟨rfl, h⟩
theorem growNodesBB (P : Nat → World → Pg → Prop) (g : Nat) (W0 : World) (rds : List (Option Addr × List UInt8)) : StepB 73 g (BB P g W0 rds) (BB P g W0 rds) := by
  intro w h
  refine (growNodes_none w g (h.cell 15 (by omega) (by omega))).mono ?_
  rintro e w' ⟨rfl, rfl⟩
  exact ⟨rfl, h⟩
theorem growEventsBB (P : Nat → World → Pg → Prop) (g : Nat) (W0 : World) (rds : List (Option Addr × List UInt8)) : StepB 74 g (BB P g W0 rds) (BB P g W0 rds) := by
  intro w h
  refine (growEvents_none w g (h.cell 16 (by omega) (by omega))).mono ?_
  rintro e w' ⟨rfl, rfl⟩
  exact ⟨rfl, h⟩
theorem growEntriesBB (P : Nat → World → Pg → Prop) (g : Nat) (W0 : World) (rds : List (Option Addr × List UInt8)) : StepB 75 g (BB P g W0 rds) (BB P g W0 rds) := by
  intro w h
  refine (growEntries_none w g (h.cell 17 (by omega) (by omega))).mono ?_
  rintro e w' ⟨rfl, rfl⟩
  exact ⟨rfl, h⟩
theorem growFilesBB (P : Nat → World → Pg → Prop) (g : Nat) (W0 : World) (rds : List (Option Addr × List UInt8)) : StepB 76 g (BB P g W0 rds) (BB P g W0 rds) := by
  intro w h
  refine (growFiles_none w g (h.cell 18 (by omega) (by omega))).mono ?_
  rintro e w' ⟨rfl, rfl⟩
  exact ⟨rfl, h⟩
theorem growListsBB (P : Nat → World → Pg → Prop) (g : Nat) (W0 : World) (rds : List (Option Addr × List UInt8)) : StepB 77 g (BB P g W0 rds) (BB P g W0 rds) := by
  intro w h
  refine (growLists_none w g (h.cell 19 (by omega) (by omega))).mono ?_
  rintro e w' ⟨rfl, rfl⟩
  exact ⟨rfl, h⟩
theorem growRowsBB (P : Nat → World → Pg → Prop) (g : Nat) (W0 : World) (rds : List (Option Addr × List UInt8)) : StepB 78 g (BB P g W0 rds) (BB P g W0 rds) := by
  intro w h
  refine (growRows_none w g (h.cell 20 (by omega) (by omega))).mono ?_
  rintro e w' ⟨rfl, rfl⟩
  exact ⟨rfl, h⟩
theorem fillBytesBB (g : Nat) (W0 : World) (rds : List (Option Addr × List UInt8)) : StepB 39 g (BB Look g W0 rds) (BB FG g W0 rds) := by
  intro w h
  obtain ⟨cur, A, c, ps, hB, h1, h2, h3⟩ := h
  refine (fillsB_calls w g cur A c ps hB h1).mono ?_
  rintro e w' ⟨rfl, hs⟩
  exact ⟨rfl, BB.step hB h1 h2 h3 (hs.imp (fun i p hi h => by unfold FillI at h; rw [if_pos hi] at h; exact h))⟩
theorem growBytesBB (g : Nat) (W0 : World) (rds : List (Option Addr × List UInt8)) : StepB 59 g (BB FG g W0 rds) (BB Gr g W0 rds) := by
  intro w h
  obtain ⟨cur, A, c, ps, hB, h1, h2, h3⟩ := h
  refine (growsB_calls w g cur A c ps hB h1).mono ?_
  rintro e w' ⟨rfl, hs⟩
  exact ⟨rfl, BB.step hB h1 h2 h3 (hs.imp (fun i p hi h => by unfold GrowI at h; rw [if_pos hi] at h; exact h))⟩
/-- The kinds of the pages behind so many steps. -/
def phase (i : Nat) : Nat → World → Pg → Prop := if i = 0 then Look else if i ≤ 20 then FG else Gr
theorem settleBB (g : Nat) (W0 : World) (rds : List (Option Addr × List UInt8)) (w : World) (h : BB Look g W0 rds w) :
    Calls Tryz.prog 13 #[.pointer (some ⟨g, 0, none⟩)] w fun e w' => e = .returned (.bool true) ∧ BB Gr g W0 rds w' :=
  Settle_calls g (fun i => BB (phase i) g W0 rds) (looksBB _ Look.stable (fun _ _ _ h => h) g W0 rds)
    ⟨fillBytesBB g W0 rds, fillIntsBB _ g W0 rds, fillNumsBB _ g W0 rds, fillTextsBB _ g W0 rds, fillPostingsBB _ g W0 rds, fillClaimsBB _ g W0 rds, fillAllotsBB _ g W0 rds, fillAccountsBB _ g W0 rds, fillBalancesBB _ g W0 rds, fillColumnsBB _ g W0 rds, fillDaysBB _ g W0 rds, fillLinesBB _ g W0 rds, fillCellsBB _ g W0 rds, fillSegmentsBB _ g W0 rds, fillNodesBB _ g W0 rds, fillEventsBB _ g W0 rds, fillEntriesBB _ g W0 rds, fillFilesBB _ g W0 rds, fillListsBB _ g W0 rds, fillRowsBB _ g W0 rds⟩
    ⟨growBytesBB g W0 rds, growIntsBB _ g W0 rds, growNumsBB _ g W0 rds, growTextsBB _ g W0 rds, growPostingsBB _ g W0 rds, growClaimsBB _ g W0 rds, growAllotsBB _ g W0 rds, growAccountsBB _ g W0 rds, growBalancesBB _ g W0 rds, growColumnsBB _ g W0 rds, growDaysBB _ g W0 rds, growLinesBB _ g W0 rds, growCellsBB _ g W0 rds, growSegmentsBB _ g W0 rds, growNodesBB _ g W0 rds, growEventsBB _ g W0 rds, growEntriesBB _ g W0 rds, growFilesBB _ g W0 rds, growListsBB _ g W0 rds, growRowsBB _ g W0 rds⟩
    (looksBB _ Gr.stable (fun _ _ _ h => .inr h) g W0 rds) w h
end Go.Proofs.YtdgpnpagbhikoaaGreatDoor.Kit
