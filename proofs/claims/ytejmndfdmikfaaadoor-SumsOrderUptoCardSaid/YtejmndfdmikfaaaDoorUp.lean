/- sums.up: a name and all above it, handed one by one to a loop's body. -/
import Derived.RangeFuncNested
import Derived.RangeFuncBound
import Derived.RangeFuncCalls
import Derived.RangeFuncLeaves
import Derived.RangeFuncBox
import Derived.Shelf.Abstract
import Derived.Shelf.RegionOpen
import Derived.WalkKit
import Derived.OwnWalkIn
import Derived.TacticsInMore
import Derived.LoopNIn
import Derived.LoopIn
import Derived.Test.YtejmndfdmikfaaaDoorChart2
import Derived.Test.YtejmndfdmikfaaaDoorSetM
import Derived.Test.YtejmndfdmikfaaaDoorRange
namespace Go.Proofs.YtejmndfdmikfaaaDoor.Kit
open Go Go.RowKit Go.Shelf
attribute [local go_sem] Oper.semAt_some

theorem up_calls (w : World) (s : List UInt8) :
    Calls Tryd.prog 57 #[.string (bstr s)] w fun e w' => e = .returned (.func (.func 67) #[] #[.pointer (some ⟨w.heap.size, 0, none⟩)]) ∧ w.alloc (.cells #[.string (bstr s)] 9) = w' := by
  go_enter Tryd.func57, Tryd.ntmps57
  go_wp2
  go_ret
  exact ⟨rfl, rfl⟩

/-- How much of the way up is left. -/
def upLeft (B : Nat) : Value → World → Nat
  | .bool true, w => match w.cell? ⟨B, 0, none⟩ with
    | some (.string s) => s.size + 1
    | _ => 1
  | _, _ => 0
theorem upLeft_true {B : Nat} {w : World} {s : List UInt8} (h : w.cell? ⟨B, 0, none⟩ = some (.string (bstr s))) : upLeft B (.bool true) w = s.length + 1 := by
  show (match w.cell? ⟨B, 0, none⟩ with
    | some (.string s) => s.size + 1
    | _ => 1) = _
  rw [h]
  rfl

set_option maxRecDepth 100000 in
set_option maxHeartbeats 2000000 in
theorem up_seq (w : World) (Bb : Nat) (s : List UInt8) (hg : goodA s = true) (hB : Boxed w Bb 9 (.string (bstr s))) (T : Nat → Prop) (hT : ¬ T Bb) :
    ∀ (l : Nat) (J : List (List UInt8) → World → Prop) (W : World), New w W → (∀ s W W', J s W → Kp (fun k => k = Bb) W W' → J s W') →
      (∀ pre x rest W1, pre ++ x :: rest = ups s → J pre W1 → YieldAt Fence.wide (2 - 1 - 1) Tryd.prog l #[.string (bstr x)] W1 fun e W' => e = .returned (.bool true) ∧ J (pre ++ [x]) W' ∧ Kp (fun k => T k ∨ k = w.heap.size + 1) W1 W') →
      J [] W → CallsIn Fence.wide (2 - 1) Tryd.prog 67 (#[.func (.yield l) #[] #[]] ++ #[.pointer (some ⟨Bb, 0, none⟩)]) W fun e W' => (∃ v, e = .returned v) ∧ ∃ xs, xs = ups s ∧ J xs W' := by
  intro L J W hn hJ hY h0
  have hlen : s.length ≤ 102 := by
    unfold goodA at hg
    simp only [Bool.and_eq_true, decide_eq_true_eq] at hg
    exact hg.1.1
  have hBl := hB.lt
  have hTB : ∀ k, (T k ∨ k = w.heap.size + 1) → k ≠ Bb := by
    rintro k (h | h) rfl
    · exact hT h
    · omega
  refine callsIn_of_wp Tryd.func67 rfl trivial ?_ rfl
  simp only [Tryd.ntmps67, List.size_toArray, List.length_cons, List.length_nil, Nat.reduceAdd, Nat.reduceSub, Array.replicate_succ, Array.replicate_zero, List.push_toArray, List.append_toArray, List.nil_append, List.cons_append]
  have HB := Lib.hid (And.intro (Boxed.kp hB hn id) (And.intro hg h0))
  have HH := Lib.hid (And.intro hJ (And.intro hY hTB))
  clear hJ hY h0 hB hg hTB
  gi_wp2
  gi_loopw [3] (fun t wr => ∃ (pre : List (List UInt8)) (nm : List UInt8) (b : Bool), t = .bool b ∧ nm.length ≤ 102 ∧
      Hid (Boxed wr Bb 9 (.string (bstr nm)) ∧ J pre wr ∧ (b = true → pre ++ ups nm = ups s ∧ goodA nm = true) ∧ (b = false → pre = ups s))) (fun t wr => upLeft Bb t wr)
  case atStart => exact ⟨[], s, true, rfl, hlen, Lib.hid ⟨HB.out.1, HB.out.2.2, fun _ => ⟨rfl, HB.out.2.1⟩, (fun h => by cases h)⟩⟩
  case round =>
    obtain ⟨pre, nm, b, rfl, hnl, HI⟩ := hrel
    cases b with
    | false =>
      gi_wp2
      go_end0
      exact ⟨⟨_, rfl⟩, by first | (rw [← HI.out.2.2.2 rfl]; exact HI.out.2.1) | (rw [← HI.out.2.2.2 trivial]; exact HI.out.2.1)⟩
    | true =>
      obtain ⟨hp, hgn⟩ := HI.out.2.2.1 rfl
      have hbox := HI.out.1.cell
      have hmeas := upLeft_true hbox
      obtain ⟨rest, hrest⟩ : ∃ rest, ups nm = nm :: rest := by rw [ups]; exact ⟨_, rfl⟩
      obtain ⟨fn, tmps, assign, body, hy, hR⟩ := HH.out.2.1 pre nm rest wr (by rw [← hrest]; exact hp) HI.out.2.1
      have HP := Lib.hid (And.intro hp (And.intro hgn hrest))
      have HM := Lib.hid hmeas
      clear hp hgn hrest hmeas
      gi_wp2
      refine hR.mono ?_
      rintro e W1 ⟨rfl, hj, hk⟩
      have b1 : Boxed W1 Bb 9 (.string (bstr nm)) := Boxed.kp HI.out.1 hk (fun h => HH.out.2.2 _ h rfl)
      have hbox1 := b1.cell
      have HK := Lib.hid (And.intro hj (And.intro hk b1))
      have hPar := Parent_calls W1 nm (by omega) HP.out.2.1
      clear hj hk b1 hR hy
      unfold parentV at hPar
      cases ha : above nm with
      | none =>
        rw [ha] at hPar
        have HA := Lib.hid ha
        clear ha
        gi_wp2_with (refine ⟨trivial, ?_⟩; gi_at_call 68; refine (callsIn_wide.2 hPar).mono ?_; rintro e W2 ⟨rfl, hn2⟩; have b2 := Boxed.kp HK.out.2.2 hn2 id; have hbox2 := b2.cell; have hfr2 := b2.frozen; have H2 := Lib.hid (And.intro b2 hn2); clear b2 hn2)
        have k2 : Kp (fun k => k = Bb) W2 (W2.setCell ⟨Bb, 0, none⟩ (.string ⟨#[]⟩)) := Kp.setCell _ _ _ rfl
        have hlast : pre ++ [nm] = ups s := by
          have := HP.out.1
          rw [ups_root HA.out] at this
          exact this
        refine ⟨⟨pre ++ [nm], [], false, rfl, by simp, Lib.hid ⟨H2.out.1.set _, HH.out.1 _ _ _ (HH.out.1 _ _ _ HK.out.1 (H2.out.2.mono fun _ _ h => h.elim)) k2, (fun h => by cases h), fun _ => hlast⟩⟩, ?_⟩
        rw [HM.out]
        simp [upLeft]
      | some p =>
        rw [ha] at hPar
        have HA := Lib.hid ha
        clear ha
        gi_wp2_with (refine ⟨trivial, ?_⟩; gi_at_call 68; refine (callsIn_wide.2 hPar).mono ?_; rintro e W2 ⟨rfl, hn2⟩; have b2 := Boxed.kp HK.out.2.2 hn2 id; have hbox2 := b2.cell; have hfr2 := b2.frozen; have H2 := Lib.hid (And.intro b2 hn2); clear b2 hn2)
        have k2 : Kp (fun k => k = Bb) W2 (W2.setCell ⟨Bb, 0, none⟩ (.string (bstr p))) := Kp.setCell _ _ _ rfl
        have hlt := above_lt HA.out
        have b3 := H2.out.1.set (.string (bstr p))
        refine ⟨⟨pre ++ [nm], p, true, rfl, by omega, Lib.hid ⟨b3, HH.out.1 _ _ _ (HH.out.1 _ _ _ HK.out.1 (H2.out.2.mono fun _ _ h => h.elim)) k2, fun _ => ⟨?_, goodA_above HP.out.2.1 HA.out⟩, (fun h => by cases h)⟩⟩, ?_⟩
        · have := HP.out.1
          rw [ups_step HA.out] at this
          rw [List.append_assoc]
          exact this
        · rw [HM.out, upLeft_true b3.cell]
          omega
end Go.Proofs.YtejmndfdmikfaaaDoor.Kit
