/- The small functions of StoreBack's own package: a record cut to size, two lists held against one another. -/
import Derived.Test.YtdgpnpagbhikoaaScan
import Derived.BigQuiet
import Derived.Deep.QuietTactic
namespace Go.Proofs.Ytdgpnpagbhikoaa.Kit
open Go Go.RowKit

theorem Own.empty (w : World) (e : TypeId) (sz : Nat) : Own (w.alloc (.cells #[] e)) e sz (some ⟨w.heap.size, 0, none⟩) 0 0 [] :=
  ⟨by simp, .inr ⟨w.heap.size, #[], rfl, heap_alloc_new w _, Nat.le_refl _, by simp [maxLen], by simp, by simp⟩⟩

/-- A copy of bytes, in a new block. -/
def CopyPost (w : World) (l : List UInt8) (e : Ending) (w' : World) : Prop := ∃ A n c, e = .returned (.slice A n c) ∧ NewBytes w l w' A n c

set_option maxHeartbeats 1000000 in
theorem short_calls (w : World) (A : Option Addr) (n c : Nat) (l : List UInt8) (hl : RdB w A l) (hn : n = l.length) (hc : n ≤ c) (hb : n ≤ 1099511627776) :
    Calls Try.prog 8 #[.slice A n c] w (CopyPost w (l.take 2048)) := by
  subst hn
  by_cases hbig : 2048 < l.length
  · have hbig' : (2048 : Int) < l.length := by omega
    have hs : ∀ w, (Instr.slice 26 (.slice A l.length c) none (some (.int .i64 2048)) none).run Try.prog w = .ok (.slice A 2048 c) w := run_slice_upto 26 5 Try.underlying26 1 Try.size_u8 _ _ _ 2048 (by omega)
    have H := Lib.hid (hl.upto 2048)
    have hlen : (l.take 2048).length = 2048 := by rw [List.length_take]; omega
    generalize l.take 2048 = m at H hlen
    have HL := Lib.hid hlen
    clear hl hlen
    go_enter Try.func8, Try.ntmps8
    go_wp2_with (at_builtin; refine wpList_append_src _ rfl (.tmp 8) (.tmp 9) 26 26 rfl 5 (.int .u8 0) 1 1 Try.underlying26 Try.info_u8 rfl _ 0 0 [] rfl (Own.empty _ _ _) (.slice A 2048 c) rfl 2048 (bcs m) (HL.out ▸ Src.ofRdB _ Try.underlying26 c (H.out.new (Kp.alloc _ _ _))) (by omega) (by omega) ?_; intro A2 c2 w2 h1 h2 h3)
    go_ret
    exact ⟨A2, 2048, c2, rfl, HL.out.symm, by simpa using h1, (Kp.alloc _ _ _).trans h2 (fun _ _ h => h) (fun k hk h => by have := Bk.some_.1 h; simp at this; omega), fun k h => (h3 k h).elim (fun h => by have := Bk.some_.1 h; simp at this; omega) (fun h => by simp at h; omega)⟩
  · have hbig' : (l.length : Int) ≤ 2048 := by omega
    have H := Lib.hid hl
    clear hl
    go_enter Try.func8, Try.ntmps8
    go_wp2_with (at_builtin; refine wpList_append_src _ rfl (.tmp 8) (.tmp 9) 26 26 rfl 5 (.int .u8 0) 1 1 Try.underlying26 Try.info_u8 rfl _ 0 0 [] rfl (Own.empty _ _ _) _ rfl l.length (bcs l) (Src.ofRdB _ Try.underlying26 c (H.out.new (Kp.alloc _ _ _))) (by omega) (by omega) ?_; intro A2 c2 w2 h1 h2 h3)
    go_ret
    rw [List.take_of_length_le (by omega)]
    exact ⟨A2, _, c2, rfl, by simp, by simpa using h1, (Kp.alloc _ _ _).trans h2 (fun _ _ h => h) (fun k hk h => by have := Bk.some_.1 h; simp at this; omega), fun k h => (h3 k h).elim (fun h => by have := Bk.some_.1 h; simp at this; omega) (fun h => by simp at h; omega)⟩

/-- Slices of bytes that are read out of a slice. -/
def RdL (w : World) (A : Option Addr) (xs : List BSl) : Prop :=
  (xs ≠ [] → ∃ b off, A = some ⟨b, off, none⟩ ∧ ∀ (j : Nat) (h : j < xs.length), w.cell? ⟨b, off + j, none⟩ = some (xs[j]'h).val) ∧ ∀ x ∈ xs, RdB w x.A x.l ∧ x.l.length ≤ x.c
theorem RdL.kp {w w' : World} {S : Nat → Prop} {A : Option Addr} {xs : List BSl} (h : RdL w A xs) (hk : Kp S w w') (hS : ∀ k, k ∈ bks A ++ blks xs → ¬ S k) : RdL w' A xs := by
  refine ⟨fun hne => ?_, fun x hx => ⟨(h.2 x hx).1.kp hk fun k hb => hS k (List.mem_append_right _ (mem_blks.2 ⟨x, hx, hb⟩)), (h.2 x hx).2⟩⟩
  obtain ⟨b, off, rfl, hc⟩ := h.1 hne
  exact ⟨b, off, rfl, fun j hj => hk.cell_of (hc j hj) (hS b (List.mem_append_left _ (mem_bks.2 (Bk.some_.2 rfl))))⟩
theorem RdL.new {w w' : World} {A : Option Addr} {xs : List BSl} (h : RdL w A xs) (hk : New w w') : RdL w' A xs := h.kp hk (fun _ _ => id)
theorem OwnL.rd {w : World} {eL eB : TypeId} {A : Option Addr} {c : Nat} {xs : List BSl} (h : OwnL w eL eB A c xs) : RdL w A xs := by
  refine ⟨fun hne => ?_, fun x hx => ⟨(h.2.1 x hx).rd, (h.2.1 x hx).cap.1⟩⟩
  rcases h.1.form with ⟨_, _, h0⟩ | ⟨g, rfl⟩
  · exact absurd (List.eq_nil_of_length_eq_zero h0) hne
  · exact ⟨g, 0, rfl, fun j hj => by rw [Nat.zero_add]; exact h.1.cell (by simp [List.getElem?_eq_getElem hj])⟩
theorem RdL.at_ {w : World} {A : Option Addr} {xs : List BSl} (h : RdL w A xs) {k : Nat} (hk : k < xs.length) :
    ∃ b off, A = some ⟨b, off, none⟩ ∧ (w.cell? ⟨b, off + k, none⟩ = some (.slice (xs[k]'hk).A (xs[k]'hk).l.length (xs[k]'hk).c)) ∧ RdB w (xs[k]'hk).A (xs[k]'hk).l := by
  obtain ⟨b, off, rfl, hc⟩ := h.1 (by intro e; subst e; simp at hk)
  exact ⟨b, off, rfl, hc k hk, (h.2 _ (List.getElem_mem hk)).1⟩

set_option maxHeartbeats 1000000 in
theorem sameLists_calls (w : World) (A B : Option Addr) (n m c d : Nat) (xs ys : List BSl) (hx : RdL w A xs) (hy : RdL w B ys) (hn : n = xs.length) (hm : m = ys.length) (hb : n ≤ 1099511627776) (hb2 : m ≤ 1099511627776) :
    Calls Try.prog 11 #[.slice A n c, .slice B m d] w fun e w' => e = .returned (.bool (decide (xs.map BSl.l = ys.map BSl.l))) ∧ ∃ k, w' = w.drewN k := by
  subst hn
  subst hm
  have HX := Lib.hid hx
  have HY := Lib.hid hy
  clear hx hy
  by_cases hlen : xs.length = ys.length
  · have hne : (((xs.length : Nat) : Int) != (ys.length : Int)) = false := by simp [hlen]
    have HL := Lib.hid hlen
    clear hlen
    go_enter Try.func11, Try.ntmps11
    go_wp2
    go_loopw [5] (fun i wr => ∃ k q : Nat, k ≤ xs.length ∧ i = .int .i64 (k : Int) ∧ wr = w.drewN q ∧ Hid ((xs.map BSl.l).take k = (ys.map BSl.l).take k)) (fun i _ => xs.length - (intOf i).toNat)
    case atStart => exact ⟨0, 0, Nat.zero_le _, rfl, rfl, Lib.hid rfl⟩
    case round =>
      obtain ⟨k, q, hk, rfl, rfl, HI⟩ := hrel
      by_cases hlt : k < xs.length
      · have hlt2 : k < ys.length := by have := HL.out; omega
        obtain ⟨b1, o1, rfl, hc1, hr1⟩ := HX.out.at_ hlt
        obtain ⟨b2, o2, rfl, hc2, hr2⟩ := HY.out.at_ hlt2
        have e1 : (xs.map BSl.l)[k]? = some (xs[k]).l := by simp [hlt]
        have e2 : (ys.map BSl.l)[k]? = some (ys[k]).l := by simp [hlt2]
        generalize xs[k] = x at hc1 hr1 e1
        generalize ys[k] = y at hc2 hr2 e2
        have hv1 : ∀ j, (convert 26 9 (.slice x.A x.l.length x.c)).run Try.prog (w.drewN j) = .ok (.string (bstr x.l)) (w.drewN j) := fun j => run_conv_RdB _ Try.underlying26 Try.underlying5 Try.underlying9 x.c (hr1.new (Kp.drewN _ _ _))
        have hv2 : ∀ j, (convert 26 9 (.slice y.A y.l.length y.c)).run Try.prog (w.drewN j) = .ok (.string (bstr y.l)) (w.drewN j) := fun j => run_conv_RdB _ Try.underlying26 Try.underlying5 Try.underlying9 y.c (hr2.new (Kp.drewN _ _ _))
        have hi0 : (0 : Int) ≤ (k : Int) := by omega
        have hi1 : (k : Int) < (xs.length : Int) := by omega
        have hi2 : (k : Int) < (ys.length : Int) := by omega
        have HE := Lib.hid (And.intro e1 e2)
        clear hr1 hr2 e1 e2 HX HY
        by_cases heq : x.l = y.l
        · have hq : ((bstr x.l).toList == (bstr y.l).toList) = true := by rw [bstr_beq, decide_eq_true heq]
          have HQ := Lib.hid heq
          clear heq
          go_wp2
          go_quiet (fail)
          go_wp2
          refine ⟨⟨k + 1, _, by omega, by go_num, rfl, Lib.hid ?_⟩, by simp [intOf]; omega⟩
          rw [List.take_add_one, List.take_add_one, HI.out, HE.out.1, HE.out.2, HQ.out]
        · have hq : ((bstr x.l).toList == (bstr y.l).toList) = false := by rw [bstr_beq, decide_eq_false heq]
          have HF := Lib.hid (show decide (xs.map BSl.l = ys.map BSl.l) = false from decide_eq_false (fun e => heq (by have h1 := HE.out.1; rw [e, HE.out.2] at h1; exact (Option.some.inj h1).symm)))
          clear heq
          go_wp2
          go_quiet (fail)
          go_wp2
          go_ret
          exact ⟨by rw [HF.out]; rfl, _, World.drewN_drewN _ _ _⟩
      · obtain rfl : k = xs.length := by omega
        have HT := Lib.hid (show decide (xs.map BSl.l = ys.map BSl.l) = true from decide_eq_true (by have := HI.out; rw [List.take_of_length_le (by simp), List.take_of_length_le (by rw [List.length_map, HL.out]; exact Nat.le_refl _)] at this; exact this))
        go_wp2
        go_ret
        exact ⟨by rw [HT.out]; rfl, _, rfl⟩
  · have hne : (((xs.length : Nat) : Int) != (ys.length : Int)) = true := by simp; omega
    have HF := Lib.hid (show decide (xs.map BSl.l = ys.map BSl.l) = false from decide_eq_false (fun e => hlen (by have := congrArg List.length e; simpa using this)))
    clear hlen
    go_enter Try.func11, Try.ntmps11
    go_wp2
    go_ret
    exact ⟨by rw [HF.out]; rfl, 0, rfl⟩
end Go.Proofs.Ytdgpnpagbhikoaa.Kit
