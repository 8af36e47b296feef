/- Lists of days held one against the other. -/
import Derived.Test.YtejmndfdmikfaaaDoorState9
import Derived.Laws.StructEq
namespace Go.Proofs.YtejmndfdmikfaaaDoor.Kit
open Go Go.RowKit

theorem same_step9 {xs ys : List Dr} {k : Nat} (hk : k < xs.length) (hk2 : k < ys.length) (h : xs.take k = ys.take k) (e : xs[k] = ys[k]) : xs.take (k + 1) = ys.take (k + 1) := by
  rw [List.take_succ_eq_append_getElem hk, List.take_succ_eq_append_getElem hk2, h, e]
def SamePost9 (w : World) (xs ys : List Dr) (e : Ending) (w' : World) : Prop := ∃ r : Bool, e = .returned (.bool r) ∧ (r = true ↔ xs = ys) ∧ New w w'
set_option maxRecDepth 100000 in
set_option maxHeartbeats 2000000 in
theorem same9_calls (w : World) (A B : Option Addr) (n m c d : Nat) (xs ys : List Dr) (hx : RdDr w A xs) (hy : RdDr w B ys) (hn : n = xs.length) (hm : m = ys.length) (hb : n ≤ 4611686018427387904) :
    Calls Tryd.prog 27 #[.slice A n c, .slice B m d] w (SamePost9 w xs ys) := by
  have hmo : Tryd.prog.follows Departure.mixedOrders = true := by kernel_rfl
  by_cases hl : n = m
  · subst hl
    have HX := Lib.hid (And.intro hx (And.intro hy (And.intro hn hm)))
    clear hx hy hn hm
    go_enter Tryd.func27, Tryd.ntmps27
    go_wp2
    go_loopw [5] (fun i wr => ∃ k : Nat, i = .int .i64 (k : Int) ∧ k ≤ n ∧ Hid (xs.take k = ys.take k ∧ New w wr)) (fun i _ => n - (intOf i).toNat)
    case atStart => exact ⟨0, rfl, Nat.zero_le _, Lib.hid ⟨rfl, Kp.refl _ _⟩⟩
    case round =>
      obtain ⟨k, rfl, hk, HI⟩ := hrel
      have hk0 : (0 : Int) ≤ k := by omega
      by_cases hlt : k < n
      · have hki : (k : Int) < (n : Int) := by omega
        have h1 : k < xs.length := by have := HX.out.2.2.1; omega
        have h2 : k < ys.length := by have := HX.out.2.2.2; omega
        obtain ⟨b1, o1, rfl, q1⟩ := RdDr.at_ (HX.out.1.new HI.out.2) (List.getElem?_eq_getElem h1)
        obtain ⟨b2, o2, rfl, q2⟩ := RdDr.at_ (HX.out.2.1.new HI.out.2) (List.getElem?_eq_getElem h2)
        obtain ⟨x, hxk⟩ : ∃ x, xs[k] = x := ⟨_, rfl⟩
        obtain ⟨y, hyk⟩ : ∃ y, ys[k] = y := ⟨_, rfl⟩
        rw [hxk] at q1
        rw [hyk] at q2
        obtain ⟨p0, p1, p2, p3⟩ := q1
        obtain ⟨r0, r1, r2, r3⟩ := q2
        have HE := Lib.hid (And.intro hxk hyk)
        clear hxk hyk
        obtain ⟨xa, xo, xr, xb⟩ := x
        obtain ⟨ya, yo, yr, yb⟩ := y
        have hbad : ∀ z z' : Dr, xs[k] = z → ys[k] = z' → z ≠ z' → ∀ wz : World, New w wz → SamePost9 w xs ys (.returned (.bool false)) wz := by
          intro z z' e1 e2 hne wz hn
          refine ⟨false, rfl, ⟨(fun h => by cases h), fun h => ?_⟩, hn⟩
          subst h
          exact absurd (e1.symm.trans e2) hne
        have HB := Lib.hid hbad
        clear hbad
        have hc : (((bstr xa).toList = (bstr ya).toList) = True ∧ (xo = yo) = True ∧ (xr = yr) = True ∧ (xb = yb) = True) ∨ ((bstr xa).toList = (bstr ya).toList) = False ∨ (((bstr xa).toList = (bstr ya).toList) = True ∧ (xo = yo) = False) ∨ (((bstr xa).toList = (bstr ya).toList) = True ∧ (xo = yo) = True ∧ (xr = yr) = False) ∨ (((bstr xa).toList = (bstr ya).toList) = True ∧ (xo = yo) = True ∧ (xr = yr) = True ∧ (xb = yb) = False) := by
          have e : ((bstr xa).toList = (bstr ya).toList) = (xa = ya) := by rw [Lib.toList_data, Lib.toList_data, bstr_toList, bstr_toList]
          rw [e]
          by_cases e1 : xa = ya <;> by_cases e2 : xo = yo <;> by_cases e3 : xr = yr <;> by_cases e4 : xb = yb <;> simp [e1, e2, e3, e4]
        have he : (((bstr xa).toList = (bstr ya).toList) = False ∨ (xo = yo) = False ∨ (xr = yr) = False ∨ (xb = yb) = False) → (⟨xa, xo, xr, xb⟩ : Dr) ≠ ⟨ya, yo, yr, yb⟩ := by
          intro h e
          injection e with e1 e2 e3 e4
          subst e1 e2 e3 e4
          rcases h with h | h | h | h <;> simp at h
        have he2 : (((bstr xa).toList = (bstr ya).toList) = True ∧ (xo = yo) = True ∧ (xr = yr) = True ∧ (xb = yb) = True) → (⟨xa, xo, xr, xb⟩ : Dr) = ⟨ya, yo, yr, yb⟩ := by
          rintro ⟨h1, h2, h3, h4⟩
          have e1 := of_eq_true h1
          rw [Lib.toList_data, Lib.toList_data, bstr_toList, bstr_toList] at e1
          rw [e1, of_eq_true h2, of_eq_true h3, of_eq_true h4]
        have HC := Lib.hid (And.intro he he2)
        clear he he2
        rcases hc with ⟨hc1, hc2, hc3, hc4⟩ | hc1 | ⟨hc1, hc2⟩ | ⟨hc1, hc2, hc3⟩ | ⟨hc1, hc2, hc3, hc4⟩
        case' inl => have HS := Lib.hid (HC.out.2 ⟨hc1, hc2, hc3, hc4⟩)
        case' inr.inl => have HS := Lib.hid (HC.out.1 (.inl hc1))
        case' inr.inr.inl => have HS := Lib.hid (HC.out.1 (.inr (.inl hc2)))
        case' inr.inr.inr.inl => have HS := Lib.hid (HC.out.1 (.inr (.inr (.inl hc3))))
        case' inr.inr.inr.inr => have HS := Lib.hid (HC.out.1 (.inr (.inr (.inr hc4))))
        all_goals
          go_wp2_with fail
          refine wp_region_line (fun w' => w'.cell? ⟨b1, o1 + k * 4, none⟩ = some (.string (bstr xa)) ∧ w'.cell? ⟨b1, o1 + k * 4 + 1, none⟩ = some (.int .i64 xo) ∧ w'.cell? ⟨b1, o1 + k * 4 + 2, none⟩ = some (.int .i64 xr) ∧ w'.cell? ⟨b1, o1 + k * 4 + 3, none⟩ = some (.int .i64 xb) ∧ w'.cell? ⟨b2, o2 + k * 4, none⟩ = some (.string (bstr ya)) ∧ w'.cell? ⟨b2, o2 + k * 4 + 1, none⟩ = some (.int .i64 yo) ∧ w'.cell? ⟨b2, o2 + k * 4 + 2, none⟩ = some (.int .i64 yr) ∧ w'.cell? ⟨b2, o2 + k * 4 + 3, none⟩ = some (.int .i64 yb)) (pl := [(0, true), (1, true), (2, true), (3, true), (4, true), (5, true), (6, true), (7, true), (8, true)]) hmo (by kernel_rfl) ⟨by simpa using p0, by simpa using p1, by simpa using p2, by simpa using p3, by simpa using r0, by simpa using r1, by simpa using r2, by simpa using r3⟩ ?_
          iterate 9 (refine line_get rfl rfl (fun K hK => ?_); apply Exists.intro; refine ⟨fun w hS => ?_, ?_⟩; (first | (have hS' := hS rfl; go_simp; with_reducible rfl) | (go_simp; with_reducible rfl)); (go_simp; refine hK _ ?_; clear hK K))
          refine line_nil ?_
          go_wp2_with fail
        · go_ret
          exact HB.out _ _ HE.out.1 HE.out.2 HS.out _ (HI.out.2.trans (Kp.drew _ _) (fun _ _ h => h) (fun _ _ h => h))
        · go_ret
          exact HB.out _ _ HE.out.1 HE.out.2 HS.out _ (HI.out.2.trans (Kp.drew _ _) (fun _ _ h => h) (fun _ _ h => h))
        · go_ret
          exact HB.out _ _ HE.out.1 HE.out.2 HS.out _ (HI.out.2.trans (Kp.drew _ _) (fun _ _ h => h) (fun _ _ h => h))
        · go_ret
          exact HB.out _ _ HE.out.1 HE.out.2 HS.out _ (HI.out.2.trans (Kp.drew _ _) (fun _ _ h => h) (fun _ _ h => h))
        · refine ⟨⟨k + 1, by go_num, by omega, Lib.hid ⟨same_step9 h1 h2 HI.out.1 (HE.out.1.trans (HS.out.trans HE.out.2.symm)), HI.out.2.trans (Kp.drew _ _) (fun _ _ h => h) (fun _ _ h => h)⟩⟩, by simp [intOf]; omega⟩
      · obtain rfl : k = n := by omega
        go_wp2_with fail
        go_ret
        refine ⟨true, rfl, ⟨fun _ => ?_, fun _ => rfl⟩, HI.out.2⟩
        have h1 := HI.out.1
        rw [List.take_of_length_le (by have := HX.out.2.2.1; omega), List.take_of_length_le (by have := HX.out.2.2.2; omega)] at h1
        exact h1
  · have hne : ((n : Int) == (m : Int)) = false := by simp; omega
    have HX := Lib.hid (And.intro hn hm)
    have HL := Lib.hid hl
    clear hx hy hn hm hl
    go_enter Tryd.func27, Tryd.ntmps27
    go_wp2
    go_ret
    exact ⟨false, rfl, ⟨(fun h => by cases h), fun h => absurd (by rw [HX.out.1, HX.out.2, h]) HL.out⟩, Kp.refl _ _⟩
end Go.Proofs.YtejmndfdmikfaaaDoor.Kit
