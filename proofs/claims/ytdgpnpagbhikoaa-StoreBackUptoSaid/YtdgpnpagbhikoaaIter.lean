/- store.frames: the frames that stand at the beginning of bytes, one behind the other, each handed to a loop's body. -/
import Derived.RangeFuncNested
import Derived.RangeFuncBound
import Derived.RangeFuncCalls
import Derived.RangeFuncLeaves
import Derived.Shelf.Abstract
import Derived.Shelf.RegionOpen
import Derived.WalkKit
import Derived.OwnWalkIn
import Derived.TacticsInMore
import Derived.LoopNIn
import Derived.LoopIn
import Derived.Test.YtdgpnpagbhikoaaLength
import Derived.Test.YtdgpnpagbhikoaaLine
namespace Go.Proofs.Ytdgpnpagbhikoaa.Kit
open Go Go.RowKit Go.Shelf
attribute [local go_sem] Oper.semAt_some

/-- The number of bytes of the record whose frame stands whole at the beginning. -/
def frOne (l : List UInt8) : Option Nat :=
  if 8 ≤ l.length ∧ headOk l = true ∧ 8 + num2 l ≤ l.length ∧ low 4 (crc ((l.drop 8).take (num2 l))) = (l.drop 4).take 4 then some (num2 l) else none
/-- The frames from a place on: each one's place and its record's length. -/
def frs : Nat → List UInt8 → Nat → List (Nat × Nat)
  | 0, _, _ => []
  | f + 1, l, i => match frOne (l.drop i) with
    | some n => (i, n) :: frs f l (i + 8 + n)
    | none => []

/-- What an iterator's loop body must keep: the blocks of K. -/
def KeepsAt (K : Nat → Prop) (W W' : World) : Prop := W.heap.size ≤ W'.heap.size ∧ ∀ k, K k → W'.heap[k]? = W.heap[k]?

/-- What is handed over of a frame: its place, its record. -/
def encFr (A : Option Addr) (c : Nat) (x : Nat × Nat) : Array Value := #[.int .i64 (x.1 : Int), .slice (adv A c (x.1 + 8) 1) x.2 (c - (x.1 + 8))]

theorem KeepsAt.refl (K : Nat → Prop) (W : World) : KeepsAt K W W := ⟨Nat.le_refl _, fun _ _ => rfl⟩
theorem KeepsAt.trans {K : Nat → Prop} {A B C : World} (h : KeepsAt K A B) (k : KeepsAt K B C) : KeepsAt K A C := ⟨Nat.le_trans h.1 k.1, fun i hi => (k.2 i hi).trans (h.2 i hi)⟩
theorem KeepsAt.rdB {K : Nat → Prop} {W W' : World} (h : KeepsAt K W W') {A : Option Addr} {l : List UInt8} (hK : ∀ k, Bk A k → K k) (hl : RdB W A l) : RdB W' A l := by
  intro hne
  obtain ⟨b, off, rfl, hc⟩ := hl hne
  exact ⟨b, off, rfl, fun j hj => (World.cell?_of_block (w := W) (h.2 b (hK b (Bk.some_.2 rfl)))).trans (hc j hj)⟩
/-- How a round ends, its word behind a letter. -/
theorem yield_bool {J' Jx' : World → Prop} {e : Ending} {w : World} (h : (e = .returned (.bool true) ∧ J' w) ∨ (e = .returned (.bool false) ∧ Jx' w)) :
    ∃ r : Bool, e = .returned (.bool r) ∧ Hid ((r = true → J' w) ∧ (r = false → Jx' w)) := by
  rcases h with ⟨rfl, h⟩ | ⟨rfl, h⟩
  · exact ⟨true, rfl, Lib.hid ⟨fun _ => h, fun h => (nomatch h)⟩⟩
  · exact ⟨false, rfl, Lib.hid ⟨fun h => (nomatch h), fun _ => h⟩⟩
theorem frOne_short {l : List UInt8} (h : l.length < 8) : frOne l = none := by
  unfold frOne
  rw [if_neg (fun x => by omega)]
theorem frs_none {l : List UInt8} {i : Nat} (h : frOne (l.drop i) = none) (f : Nat) : frs f l i = [] := by
  cases f with
  | zero => rfl
  | succ f => rw [frs, h]
theorem frs_some {l : List UInt8} {i n : Nat} (h : frOne (l.drop i) = some n) (f : Nat) : frs (f + 1) l i = (i, n) :: frs f l (i + 8 + n) := by rw [frs, h]

/-- How the iterator ends. -/
def IterPost (l : List UInt8) (J Jx : List (Nat × Nat) → World → Prop) (e : Ending) (W' : World) : Prop := (∃ v, e = .returned v) ∧ ((∃ ys, ys = frs l.length l 0 ∧ J ys W') ∨ (∃ pre, True ∧ Jx pre W'))

set_option maxRecDepth 100000 in
set_option maxHeartbeats 2000000 in
theorem frames1_in (L Bb : Nat) (A : Option Addr) (c : Nat) (l : List UInt8) (hc : l.length ≤ c) (hb : c ≤ 9223372036854775807 ∧ l.length ≤ 4611686018427387904) (J Jx : List (Nat × Nat) → World → Prop) (K : Nat → Prop) (hK : K Bb) (hKA : ∀ k, Bk A k → K k) (W : World) (hKs : ∀ k, K k → k < W.heap.size)
    (hJ : ∀ s W W', J s W → New W W' → J s W')
    (hY : ∀ pre x W, J pre W → pre.length < (frs l.length l 0).length → x.1 + 8 + x.2 ≤ l.length → YieldAt Fence.wide 0 Try.prog L (encFr A c x) W fun e W' =>
      (e = .returned (.bool true) ∧ J (pre ++ [x]) W' ∧ KeepsAt K W W') ∨ (e = .returned (.bool false) ∧ Jx (pre ++ [x]) W'))
    (hBb : W.cell? ⟨Bb, 0, none⟩ = some (.slice A l.length c)) (hl : RdB W A l) (h0 : J [] W) :
    CallsIn Fence.wide 1 Try.prog 15 #[.func (.yield L) #[] #[], .pointer (some ⟨Bb, 0, none⟩)] W (IterPost l J Jx) := by
  refine callsIn_of_wp Try.func15 rfl trivial ?_ rfl
  simp only [Try.ntmps15, List.size_toArray, List.length_cons, List.length_nil, Nat.reduceAdd, Nat.reduceSub, Array.replicate_succ, Array.replicate_zero, List.push_toArray, List.append_toArray, List.nil_append, List.cons_append]
  gi_wp2
  gi_loopw [3] (fun t wr => ∃ (pre : List (Nat × Nat)) (i f : Nat), i ≤ l.length ∧ t = .int .i64 (i : Int) ∧
      Hid (pre ++ frs f l i = frs l.length l 0 ∧ l.length ≤ f + i ∧ J pre wr ∧ KeepsAt K W wr)) (fun t _ => l.length - (intOf t).toNat)
  case atStart => exact ⟨[], 0, l.length, Nat.zero_le _, rfl, Lib.hid ⟨rfl, by omega, h0, KeepsAt.refl _ _⟩⟩
  case round =>
    obtain ⟨pre, i, f, hi, rfl, HI⟩ := hrel
    have hbox : wr.cell? ⟨Bb, 0, none⟩ = some (.slice A l.length c) := (World.cell?_of_block (w := W) (HI.out.2.2.2.2 Bb hK)).trans hBb
    have HL := Lib.hid (HI.out.2.2.2.rdB hKA hl)
    by_cases h8 : 8 ≤ l.length - i
    · have hs := run_slice_from (P := Try.prog) 26 5 Try.underlying26 1 Try.size_u8 A l.length c i (by omega)
      have hL := length_calls wr (adv A c i 1) (l.length - i) (c - i) (l.drop i) (HL.out.from_ c i hc) (by simp) (by simp; omega) (by omega) (by omega)
      unfold LengthPost at hL
      have hmlt := num2_lt (l.drop i)
      generalize hm : num2 (l.drop i) = m at hL hmlt
      generalize hq : headOk (l.drop i) = q at hL
      have HM := Lib.hid (And.intro hm hq)
      have HC := Lib.hid hL
      clear hm hq hL
      cases q with
      | false =>
        have hno : frOne (l.drop i) = none := by
          unfold frOne
          rw [if_neg (fun x => by have := x.2.1; rw [HM.out.2] at this; cases this)]
        have HN := Lib.hid (frs_none hno f)
        clear hno
        gi_wp2_with (refine ⟨trivial, ?_⟩; gi_at_call 16; refine (callsIn_wide.2 HC.out).mono ?_; rintro e w1 ⟨rfl, hn1⟩)
        refine bodyPost_ret (results_none rfl _ _ _) rfl ?_
        exact ⟨⟨_, rfl⟩, .inl ⟨pre, by have := HI.out.1; rw [HN.out, List.append_nil] at this; exact this, hJ _ _ _ HI.out.2.2.1 hn1⟩⟩
      | true =>
        by_cases hfit : 8 + m ≤ l.length - i
        · have hs2 : ∀ w, (Instr.slice 26 (.slice A l.length c) (some (.int .i64 ((i : Int) + 8))) (some (.int .i64 ((i : Int) + 8 + m))) none).run Try.prog w = .ok (.slice (adv A c (i + 8) 1) m (c - (i + 8))) w := fun w => by
            have := run_slice_mid (P := Try.prog) 26 5 Try.underlying26 1 Try.size_u8 A l.length c (i + 8) (i + 8 + m) (by omega) (by omega) w
            rwa [show i + 8 + m - (i + 8) = m by omega] at this
          have hs3 : ∀ w, (Instr.slice 26 (.slice A l.length c) (some (.int .i64 ((i : Int) + 4))) (some (.int .i64 ((i : Int) + 8))) none).run Try.prog w = .ok (.slice (adv A c (i + 4) 1) 4 (c - (i + 4))) w := fun w => by
            have := run_slice_mid (P := Try.prog) 26 5 Try.underlying26 1 Try.size_u8 A l.length c (i + 4) (i + 8) (by omega) (by omega) w
            rwa [show i + 8 - (i + 4) = 4 by omega] at this
          gi_wp2_with (refine ⟨trivial, ?_⟩; gi_at_call 16; refine (callsIn_wide.2 HC.out).mono ?_; rintro e w1 ⟨rfl, hn1⟩; have hbox1 := New.cell hn1 hbox)
          have hrec : RdB w1 (adv A c (i + 8) 1) ((l.drop (i + 8)).take m) := by
            have := (HL.out.new hn1).adv c (i + 8) (i + 8 + m) (by omega) hc
            rwa [show i + 8 + m - (i + 8) = m by omega] at this
          have hsum : RdB w1 (adv A c (i + 4) 1) ((l.drop (i + 4)).take 4) := by
            have := (HL.out.new hn1).adv c (i + 4) (i + 8) (by omega) hc
            rwa [show i + 8 - (i + 4) = 4 by omega] at this
          have hlen : m = ((l.drop (i + 8)).take m).length := by simp; omega
          have hlen4 : 4 = ((l.drop (i + 4)).take 4).length := by simp; omega
          generalize hr : (l.drop (i + 8)).take m = rec at hrec hlen
          generalize hr4 : (l.drop (i + 4)).take 4 = four at hsum hlen4
          have HR := Lib.hid (And.intro hrec (And.intro hsum (And.intro hlen hlen4)))
          have HE := Lib.hid (And.intro hr hr4)
          have HJ := Lib.hid (hJ _ _ _ HI.out.2.2.1 hn1)
          have HN1 := Lib.hid hn1
          clear hrec hsum hlen hlen4 hr hr4 hn1 HC
          have hmo : Try.prog.follows Departure.mixedOrders = true := by kernel_rfl
          have k4 : IntKind.i64.wrap ((i : Int) + 4) = (i : Int) + 4 := by rw [IntKind.wrap_i64]; omega
          have k8 : IntKind.i64.wrap ((i : Int) + 8) = (i : Int) + 8 := by rw [IntKind.wrap_i64]; omega
          generalize hcrc : decide (low 4 (crc rec) = four) = q
          have HCR := Lib.hid hcrc
          clear hcrc
          refine wpIn_region_lineW (fun w => w.cell? ⟨Bb, 0, none⟩ = some (.slice A l.length c)) (pl := [(0, true), (3, true), (4, true), (5, true), (6, true), (7, true), (8, true), (1, false), (2, false), (9, false), (10, true), (11, true), (12, true), (13, true), (14, true), (15, false), (16, true), (17, true)]) hmo (by kernel_rfl) (by simpa using hbox1) ?_
          iterate 7 (refine line_get rfl rfl (fun K hK => ?_); apply Exists.intro; refine ⟨fun w hS => ?_, ?_⟩; (first | (have hS' := hS rfl; go_simp; with_reducible rfl) | (go_simp; with_reducible rfl)); (go_simp; refine hK _ ?_; clear hK K))
          (refine line_doIn rfl rfl (fun K hK => ?_); go_simp)
          refine ⟨trivial, ?_⟩
          refine (callsIn_wide.2 (check_calls' _ (adv A c (i + 8) 1) m (c - (i + 8)) rec (HR.out.1.new (Kp.drew _ _)) HR.out.2.2.1 (by omega))).mono ?_
          rintro e w' ⟨rfl, rfl⟩
          refine hK _ _ (fun _ => by simpa using hbox1) ?_
          clear hK K
          (refine line_doIn rfl rfl (fun K hK => ?_); go_simp)
          refine ⟨trivial, ?_⟩
          refine (callsIn_wide.2 (put_calls _ none 0 0 [] _ (crc rec) _ 4 rfl rfl rfl (Own.nil _ _ _) (by omega) (by omega))).mono ?_
          rintro e w2 ⟨A2, c2, rfl, hp⟩
          have H2 := Lib.hid hp
          have hn2 := hp.2.1.mono (U := fun _ => False) (fun _ _ h => absurd h Bk.none_)
          have hn12 := (Kp.drew (fun _ => False) w1).trans hn2 (fun _ _ h => h) (fun _ _ h => h)
          refine hK _ _ (fun _ => New.cell hn12 hbox1) ?_
          clear hK K hp
          (refine line_doIn rfl rfl (fun K hK => ?_); go_simp)
          refine ⟨trivial, ?_⟩
          refine (callsIn_wide.2 (Equal_calls _ _ _ 4 4 _ _ (low 4 (crc rec)) four H2.out.1.rd2 (HR.out.2.1.new hn12) rfl HR.out.2.2.2)).mono ?_
          rw [HCR.out]
          rintro e w' ⟨rfl, rfl⟩
          refine hK _ _ (fun _ => New.cell hn12 hbox1) ?_
          clear hK K
          iterate 2 (refine line_get rfl rfl (fun K hK => ?_); apply Exists.intro; refine ⟨fun w hS => ?_, ?_⟩; (first | (have hS' := hS rfl; go_simp; with_reducible rfl) | (go_simp; with_reducible rfl)); (go_simp; refine hK _ ?_; clear hK K))
          cases q with
          | false =>
            iterate 3 (refine line_past rfl rfl (fun K hK => ?_); go_simp; refine hK _ ?_; clear hK K)
            refine line_missIn (fun _ => trivial) rfl rfl (no_need (by kernel_rfl)) ?_
            (refine line_past rfl rfl (fun K hK => ?_); go_simp; refine hK _ ?_; clear hK K)
            (refine line_get rfl rfl (fun K hK => ?_); apply Exists.intro; refine ⟨fun w hS => ?_, ?_⟩; (first | (have hS' := hS rfl; go_simp; with_reducible rfl) | (go_simp; with_reducible rfl)); (go_simp; refine hK _ ?_; clear hK K))
            refine line_nil ?_
            go_simp
            have hno : frOne (l.drop i) = none := by
              unfold frOne
              rw [if_neg (fun x => by have := x.2.2.2; rw [HM.out.1, List.drop_drop, List.drop_drop, HE.out.1, HE.out.2] at this; exact of_decide_eq_false HCR.out this)]
            have HN := Lib.hid (frs_none hno f)
            clear hno
            gi_wp2
            refine bodyPost_ret (results_none rfl _ _ _) rfl ?_
            exact ⟨⟨_, rfl⟩, .inl ⟨pre, by have := HI.out.1; rw [HN.out, List.append_nil] at this; exact this, hJ _ _ _ HJ.out hn12⟩⟩
          | true =>
            iterate 3 (refine line_get rfl rfl (fun K hK => ?_); apply Exists.intro; refine ⟨fun w hS => ?_, ?_⟩; (first | (have hS' := hS rfl; go_simp; with_reducible rfl) | (go_simp; with_reducible rfl)); (go_simp; refine hK _ ?_; clear hK K))
            have hyes : frOne (l.drop i) = some m := by
              unfold frOne
              rw [if_pos ⟨by rw [List.length_drop]; exact h8, HM.out.2, by rw [HM.out.1, List.length_drop]; exact hfit, by rw [HM.out.1, List.drop_drop, List.drop_drop, HE.out.1, HE.out.2]; exact of_decide_eq_true HCR.out⟩, HM.out.1]
            obtain ⟨f', rfl⟩ : ∃ f', f = f' + 1 := ⟨f - 1, by have := HI.out.2.1; omega⟩
            have HF := Lib.hid (frs_some hyes f')
            clear hyes
            obtain ⟨fn, tmps, assign, body, hy, hR⟩ := (hY pre (i, m) w2 (hJ _ _ _ HJ.out hn12) (by have := HI.out.1; rw [HF.out] at this; rw [← this]; simp) (by show i + 8 + m ≤ l.length; omega)).mono (fun e w3 h => yield_bool (J' := fun W' => J (pre ++ [(i, m)]) W' ∧ KeepsAt K w2 W') (Jx' := Jx (pre ++ [(i, m)])) h)
            simp only [encFr] at hy
            (refine line_doIn rfl rfl (fun K hK => ?_); go_simp)
            refine hR.mono ?_
            rintro e W3 ⟨r, rfl, hr⟩
            refine hK _ _ (no_need (by kernel_rfl)) ?_
            clear hK K hR hy
            cases r with
            | false =>
              iterate 2 (refine line_get rfl rfl (fun K hK => ?_); apply Exists.intro; refine ⟨fun w hS => ?_, ?_⟩; (first | (have hS' := hS rfl; go_simp; with_reducible rfl) | (go_simp; with_reducible rfl)); (go_simp; refine hK _ ?_; clear hK K))
              refine line_nil ?_
              go_simp
              gi_wp2
              refine bodyPost_ret (results_none rfl _ _ _) rfl ?_
              exact ⟨⟨_, rfl⟩, .inr ⟨_, trivial, (by first | exact hr.out.2 rfl | exact hr.out.2 trivial)⟩⟩
            | true =>
              iterate 2 (refine line_get rfl rfl (fun K hK => ?_); apply Exists.intro; refine ⟨fun w hS => ?_, ?_⟩; (first | (have hS' := hS rfl; go_simp; with_reducible rfl) | (go_simp; with_reducible rfl)); (go_simp; refine hK _ ?_; clear hK K))
              refine line_nil ?_
              go_simp
              gi_wp2
              refine ⟨⟨pre ++ [(i, m)], i + 8 + m, f', by omega, by go_num, Lib.hid ⟨?_, ?_, (by first | exact (hr.out.1 rfl).1 | exact (hr.out.1 trivial).1), HI.out.2.2.2.trans (KeepsAt.trans ⟨Nat.le_trans HN1.out.size hn12.size, fun k hk => ?_⟩ (by first | exact (hr.out.1 rfl).2 | exact (hr.out.1 trivial).2))⟩⟩, by simp [intOf]; omega⟩
              · have := HI.out.1
                rw [HF.out] at this
                rw [List.append_assoc]
                exact this
              · have := HI.out.2.1
                omega
              · have hk1 := hKs k hk
                have hz := HI.out.2.2.2.1
                have hz1 := HN1.out.size
                exact (hn12.block k (by omega) id).trans (HN1.out.block k (by omega) id)
        · have hlt : (l.length : Int) - i < 8 + m := by omega
          have hno : frOne (l.drop i) = none := by
            unfold frOne
            rw [if_neg (fun x => by have := x.2.2.1; rw [HM.out.1, List.length_drop] at this; exact hfit this)]
          have HN := Lib.hid (frs_none hno f)
          clear hno
          gi_wp2_with (refine ⟨trivial, ?_⟩; gi_at_call 16; refine (callsIn_wide.2 HC.out).mono ?_; rintro e w1 ⟨rfl, hn1⟩; have hbox1 := New.cell hn1 hbox)
          refine bodyPost_ret (results_none rfl _ _ _) rfl ?_
          exact ⟨⟨_, rfl⟩, .inl ⟨pre, by have := HI.out.1; rw [HN.out, List.append_nil] at this; exact this, hJ _ _ _ HI.out.2.2.1 hn1⟩⟩
    · have hno : frOne (l.drop i) = none := frOne_short (by rw [List.length_drop]; omega)
      have HN := Lib.hid (frs_none hno f)
      clear hno
      gi_wp2
      go_end0
      exact ⟨⟨_, rfl⟩, .inl ⟨pre, by have := HI.out.1; rw [HN.out, List.append_nil] at this; exact this, HI.out.2.2.1⟩⟩
/-- A frame's place and its record's length, within the bytes. -/
abbrev FrIn (l : List UInt8) := { x : Nat × Nat // x.1 + 8 + x.2 ≤ l.length }

/-- **The frames of bytes, handed one by one to a loop's body that keeps the bytes and the box that holds them.** -/
theorem frames_stops (Bb : Nat) (A : Option Addr) (c : Nat) (l : List UInt8) (hc : l.length ≤ c) (hb : c ≤ 9223372036854775807 ∧ l.length ≤ 4611686018427387904) (K : Nat → Prop) (hK : K Bb) (hKA : ∀ k, Bk A k → K k) (w : World) (hKs : ∀ k, K k → k < w.heap.size)
    (hBb : w.cell? ⟨Bb, 0, none⟩ = some (.slice A l.length c)) (hl : RdB w A l) :
    SeqStopsK Fence.wide 1 Try.prog 15 #[.pointer (some ⟨Bb, 0, none⟩)] (fun x : FrIn l => encFr A c x.1) (KeepsAt K) (fun xs => xs.map Subtype.val = frs l.length l 0) (fun _ => True) (frs l.length l 0).length w := by
  intro L J Jx W hW hJ hJx hY h0
  have hkp : KeepsAt K w W := ⟨hW.size, fun k hk => hW.block k (hKs k hk)⟩
  refine (frames1_in L Bb A c l hc hb (fun pre W => ∃ pre' : List (FrIn l), pre'.map Subtype.val = pre ∧ J pre' W) (fun pre W => ∃ pre' : List (FrIn l), pre'.map Subtype.val = pre ∧ Jx pre' W) K hK hKA W (fun k hk => Nat.lt_of_lt_of_le (hKs k hk) hW.size)
    ?_ ?_ ((World.cell?_of_block (w := w) (hkp.2 Bb hK)).trans hBb) (hkp.rdB hKA hl) ⟨[], rfl, h0⟩).mono ?_
  · rintro s W1 W2 ⟨pre', e, hs⟩ hn
    exact ⟨pre', e, hJ _ W1 W2 none hs ⟨hn.os, hn.tape, hn.output, hn.size, fun k hk _ => hn.block k hk id⟩ (fun r e => by cases e)⟩
  · rintro pre x W1 ⟨pre', rfl, hj⟩ hlen hx
    refine (hY pre' ⟨x, hx⟩ W1 hj (by simpa using hlen)).mono ?_
    rintro e W' (⟨rfl, h1, h2⟩ | ⟨rfl, h1⟩)
    · exact .inl ⟨rfl, ⟨_, by simp, h1⟩, h2⟩
    · exact .inr ⟨rfl, ⟨_, by simp, h1⟩⟩
  · rintro e W' ⟨h1, ⟨ys, rfl, pre', e', hj⟩ | ⟨pre, _, pre', e', hj⟩⟩
    · exact ⟨h1, .inl ⟨pre', e', hj⟩⟩
    · exact ⟨h1, .inr ⟨pre', trivial, hj⟩⟩
end Go.Proofs.Ytdgpnpagbhikoaa.Kit
