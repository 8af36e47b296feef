/- sums.each: the balances of a map, handed one by one to a loop's body, in whatever order. -/
import Derived.RangeFuncNested
import Derived.RangeFuncBound
import Derived.RangeFuncCalls
import Derived.RangeFuncLeaves
import Derived.RangeFuncBox
import Derived.Shelf.Abstract
import Derived.Shelf.RegionOpen
import Derived.WalkKit
import Derived.OwnWalkIn
import Derived.TacticsInMore
import Derived.LoopNIn
import Derived.LoopIn
import Derived.Test.YtejmndfdmikfaaaDoorProg
import Derived.Test.YtejmndfdmikfaaaDoorApplyM
import Derived.Test.YtejmndfdmikfaaaDoorRange
namespace Go.Proofs.YtejmndfdmikfaaaDoor.Kit
open Go Go.RowKit Go.Shelf
attribute [local go_sem] Oper.semAt_some

theorem each_calls (w : World) (b : Nat) :
    Calls Tryd.prog 35 #[.map (some b)] w fun e w' => e = .returned (.func (.func 55) #[] #[.pointer (some ⟨w.heap.size, 0, none⟩)]) ∧ w.alloc (.cells #[.map (some b)] 68) = w' := by
  go_enter Tryd.func35, Tryd.ntmps35
  go_wp2
  go_ret
  exact ⟨rfl, rfl⟩

/-- An amount. -/
abbrev Amt := { x : Int // -9223372036854775807 ≤ x ∧ x ≤ 9223372036854775807 }
abbrev amtV (x : Amt) : Value := .int .i64 x.1
/-- How many entries an iterator has before it. -/
def leftN (b r : Nat) (w : World) : Nat := match w.heap[b]?, w.heap[r]? with
  | some (.map es _), some (.mapIter _ _ seen _) => (Go.leftOf es seen).size
  | _, _ => 0
theorem Rng.left {w : World} {b r : Nat} {todo : Prs} (h : Rng w b r todo) : leftN b r w = todo.length := by
  obtain ⟨es, clock, l, seen, c0, h1, h2, h3, h4, h5⟩ := h
  have := congrArg List.length h5
  simp only [List.length_map, Array.length_toList] at this
  unfold leftN
  rw [h1, h3]
  exact this
theorem grown_of_kp {r : Nat} {w w' : World} (h : Kp (fun k => k = r) w w') : w.grownBy w' (some r) := ⟨h.os, h.tape, h.output, h.size, fun k hk hne => h.block k hk (fun e => hne (by rw [e]))⟩
theorem grown_of_new {w w' : World} (h : New w w') : w.grownBy w' none := ⟨h.os, h.tape, h.output, h.size, fun k hk _ => h.block k hk id⟩

set_option maxRecDepth 100000 in
set_option maxHeartbeats 2000000 in
theorem each_stops (w : World) (Bb b : Nat) (l : Prs) (hB : Boxed w Bb 68 (.map (some b))) (hm : SMap w b l) (hl : ∀ x ∈ l, ∃ y : Amt, x.2 = amtV y) :
    SeqStopsK Fence.wide 1 Tryd.prog 55 #[.pointer (some ⟨Bb, 0, none⟩)] (fun x : Amt => #[amtV x]) KeepsWalks (fun xs => (xs.map amtV).Perm (l.map (·.2))) (fun xs => ∃ rest, (xs.map amtV ++ rest).Perm (l.map (·.2))) l.length w := by
  intro L J Jx W hW hJ hJx hY h0
  refine callsIn_of_wp Tryd.func55 rfl trivial ?_ rfl
  simp only [Tryd.ntmps55, List.size_toArray, List.length_cons, List.length_nil, Nat.reduceAdd, Nat.reduceSub, Array.replicate_succ, Array.replicate_zero, List.push_toArray, List.append_toArray, List.nil_append, List.cons_append]
  have ht := Tryd.underlying68
  have c0 : W.cell? ⟨Bb, 0, none⟩ = some (.map (some b)) := (World.cell?_of_block (w := w) (hW.block Bb hB.lt)).trans hB.cell
  have hmW : SMap W b l := hm.keep (hW.block b hm.lt)
  have hbl := hmW.lt
  obtain ⟨it, hr, hR⟩ := run_range (P := Tryd.prog) ht hmW
  have HH := Lib.hid (And.intro hJ (And.intro hJx (And.intro hY (And.intro hl (And.intro hR h0)))))
  clear hJ hJx hY hl hR h0 ht hm hmW hB
  gi_wp2
  gi_loopw [4] (fun _ wr => ∃ (pre : List Amt) (todo : Prs), Hid (Rng wr b W.heap.size todo ∧ (pre.map amtV ++ todo.map (·.2)).Perm (l.map (·.2)) ∧ (∀ x ∈ todo, x ∈ l) ∧ J pre wr)) (fun _ wr => leftN b W.heap.size wr)
  case atStart =>
    exact ⟨[], l, Lib.hid ⟨HH.out.2.2.2.2.1, List.Perm.refl _, fun _ h => h, HH.out.1 _ _ _ none HH.out.2.2.2.2.2 (grown_of_new (Kp.alloc _ _ _)) (fun r e => by cases e)⟩⟩
  case round =>
    obtain ⟨pre, todo, HI⟩ := hrel
    have hmeas := HI.out.1.left
    rcases run_next (P := Tryd.prog) HI.out.1 (by omega) with ⟨h0, hn⟩ | ⟨t1, x, t2, w', hto, hn, hR', hk', hen⟩
    · have HP := Lib.hid h0
      clear h0 hmeas
      gi_wp2
      go_end0
      refine ⟨⟨_, rfl⟩, .inl ⟨pre, ?_, HI.out.2.2.2⟩⟩
      have := HI.out.2.1
      rw [HP.out] at this
      simpa using this
    · obtain ⟨y, hy2⟩ := HH.out.2.2.2.1 x (HI.out.2.2.1 x (by rw [hto]; simp))
      have hj' : J pre w' := HH.out.1 _ _ _ (some W.heap.size) HI.out.2.2.2 (grown_of_kp hk') (fun r e => by
        cases e
        obtain ⟨es, clock, l', seen, c1, q1, q2, q3, _⟩ := HI.out.1
        exact ⟨Nat.le_refl _, _, q3, rfl⟩)
      have hlen : pre.length < l.length := by
        have := HI.out.2.1.length_eq
        rw [hto] at this
        simp at this
        omega
      obtain ⟨fn, tmps, assign, body, hyy, hRR⟩ := HH.out.2.2.1 pre y w' hj' hlen
      have HM := Lib.hid (And.intro hmeas (And.intro hto (And.intro hR' (And.intro hk' hy2))))
      rw [hy2] at hn hen
      clear hmeas hto hR' hk' hj' hlen hy2
      gi_wp2
      refine hRR.mono ?_
      have hperm : ((pre ++ [y]).map amtV ++ (t1 ++ t2).map (·.2)).Perm (l.map (·.2)) := by
        have e1 : (pre ++ [y]).map amtV ++ (t1 ++ t2).map (·.2) = pre.map amtV ++ (x.2 :: (t1.map (·.2) ++ t2.map (·.2))) := by rw [HM.out.2.2.2.2]; simp
        have e2 : todo.map (·.2) = t1.map (·.2) ++ x.2 :: t2.map (·.2) := by rw [HM.out.2.1]; simp
        have h1 := HI.out.2.1
        rw [e2] at h1
        rw [e1]
        exact (List.Perm.append_left _ List.perm_middle.symm).trans h1
      have HPM := Lib.hid hperm
      clear hperm
      rintro e W1 (⟨rfl, hj, hk⟩ | ⟨rfl, hj⟩)
      · have hrng : Rng W1 b W.heap.size (t1 ++ t2) := by
          obtain ⟨es, clock, l', seen, c1, q1, q2, q3, q4, q5⟩ := HM.out.2.2.1
          exact ⟨es, clock, l', seen, c1, hk.same b _ q1 rfl, q2, hk.same _ _ q3 rfl, q4, q5⟩
        have hm1 := hrng.left
        have HZ := Lib.hid (And.intro hrng (And.intro hj hm1))
        clear hrng hj hm1 hk hyy hRR hn hen
        gi_wp2
        refine ⟨⟨pre ++ [y], t1 ++ t2, Lib.hid ⟨HZ.out.1, HPM.out, fun z hz => HI.out.2.2.1 z ?_, HZ.out.2.1⟩⟩, ?_⟩
        · rw [HM.out.2.1]
          rcases List.mem_append.1 hz with hz | hz
          · exact List.mem_append_left _ hz
          · exact List.mem_append_right _ (List.mem_cons_of_mem _ hz)
        · rw [HZ.out.2.2, HM.out.1, HM.out.2.1]
          simp
      · clear hyy hRR hn hen
        gi_wp2
        refine bodyPost_ret (results_none rfl _ _ _) rfl ?_
        exact ⟨⟨_, rfl⟩, .inr ⟨pre ++ [y], ⟨_, HPM.out⟩, hj⟩⟩
end Go.Proofs.YtejmndfdmikfaaaDoor.Kit
