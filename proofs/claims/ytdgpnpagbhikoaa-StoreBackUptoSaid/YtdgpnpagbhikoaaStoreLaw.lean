/- Frames laid end to end, and what stands at the beginning of any bytes: plain lists. -/
import Derived.Test.YtdgpnpagbhikoaaScan
namespace Go.Proofs.Ytdgpnpagbhikoaa.Kit
open Go Go.RowKit

theorem low_two (x : BitVec 32) : low 2 x = [byteAt x 0, byteAt x 1] := rfl
theorem byteAt0 (n : Nat) (h : n < 65536) : byteAt (BitVec.ofNat 32 n) 0 = UInt8.ofNat (n % 256) := by
  unfold byteAt
  rw [sh8_zero, BitVec.toNat_ofNat, Nat.mod_eq_of_lt (by omega : n < 2 ^ 32)]
theorem byteAt1 (n : Nat) (h : n < 65536) : byteAt (BitVec.ofNat 32 n) 1 = UInt8.ofNat (n / 256) := by
  unfold byteAt sh8
  rw [BitVec.toNat_ushiftRight, BitVec.toNat_ofNat, Nat.mod_eq_of_lt (by omega : n < 2 ^ 32), Nat.shiftRight_eq_div_pow]
  congr 1
  omega
theorem low2_eq (n : Nat) (h : n < 65536) : low 2 (BitVec.ofNat 32 n) = [UInt8.ofNat (n % 256), UInt8.ofNat (n / 256)] := by rw [low_two, byteAt0 n h, byteAt1 n h]
theorem num2_low (n : Nat) (h : n < 65536) (t : List UInt8) : num2 (low 2 (BitVec.ofNat 32 n) ++ t) = n := by
  rw [low2_eq n h]
  unfold num2
  simp only [List.cons_append, List.nil_append, List.getD_cons_zero, List.getD_cons_succ]
  rw [UInt8.toNat_ofNat', UInt8.toNat_ofNat']
  omega
theorem low_num2 (l : List UInt8) (h : 2 ≤ l.length) : low 2 (BitVec.ofNat 32 (num2 l)) = l.take 2 := by
  rw [low2_eq _ (num2_lt l)]
  match l, h with
  | a :: b :: r, _ =>
    unfold num2
    simp only [List.getD_cons_zero, List.getD_cons_succ, List.take_succ_cons, List.take_zero]
    have ha := a.toNat_lt
    have hb := b.toNat_lt
    have e1 : (a.toNat + 256 * b.toNat) % 256 = a.toNat := by omega
    have e2 : (a.toNat + 256 * b.toNat) / 256 = b.toNat := by omega
    rw [e1, e2]
    simp

/-- The parts of a frame with something behind it. -/
theorem frame_parts (r t : List UInt8) (h : r.length ≤ 2048) :
    num2 (frame r ++ t) = r.length ∧ ((frame r ++ t).drop 2).take 2 = low 2 (BitVec.ofNat 32 (65535 - r.length)) ∧ ((frame r ++ t).drop 4).take 4 = low 4 (crc r) ∧ ((frame r ++ t).drop 8).take r.length = r := by
  have l1 := low_length 2 (BitVec.ofNat 32 r.length)
  have l2 := low_length 2 (BitVec.ofNat 32 (65535 - r.length))
  have l3 := low_length 4 (crc r)
  have hn : num2 (frame r ++ t) = r.length := by
    have : frame r ++ t = low 2 (BitVec.ofNat 32 r.length) ++ (low 2 (BitVec.ofNat 32 (65535 - r.length)) ++ (low 4 (crc r) ++ (r ++ t))) := by simp [frame]
    rw [this, num2_low _ (by omega)]
  refine ⟨hn, ?_, ?_, ?_⟩
  · have : frame r ++ t = low 2 (BitVec.ofNat 32 r.length) ++ (low 2 (BitVec.ofNat 32 (65535 - r.length)) ++ (low 4 (crc r) ++ (r ++ t))) := by simp [frame]
    rw [this, List.drop_left' l1, List.take_left' l2]
  · have : frame r ++ t = (low 2 (BitVec.ofNat 32 r.length) ++ low 2 (BitVec.ofNat 32 (65535 - r.length))) ++ (low 4 (crc r) ++ (r ++ t)) := by simp [frame]
    rw [this, List.drop_left' (by rw [List.length_append, l1, l2]), List.take_left' l3]
  · have : frame r ++ t = (low 2 (BitVec.ofNat 32 r.length) ++ low 2 (BitVec.ofNat 32 (65535 - r.length)) ++ low 4 (crc r)) ++ (r ++ t) := by simp [frame]
    rw [this, List.drop_left' (by rw [List.length_append, List.length_append, l1, l2, l3]), List.take_left' rfl]

theorem headOk_of {l : List UInt8} (h1 : num2 l ≤ 2048) (h2 : (l.drop 2).take 2 = low 2 (BitVec.ofNat 32 (65535 - num2 l))) : headOk l = true := by
  unfold headOk
  rw [h2, low_length, decide_eq_true h1, Bool.true_and, decide_eq_true_eq, List.take_of_length_le (by rw [low_length]; exact Nat.le_refl _)]

theorem frOne_frame (r t : List UInt8) (h : r.length ≤ 2048) : frOne (frame r ++ t) = some r.length := by
  obtain ⟨h1, h2, h3, h4⟩ := frame_parts r t h
  have hl := frame_length r
  unfold frOne
  rw [h1]
  rw [if_pos ⟨by rw [List.length_append]; omega, headOk_of (by rw [h1]; exact h) (by rw [h1]; exact h2), by rw [List.length_append]; omega, by rw [h4, h3]⟩]

/-- Where frames laid end to end begin. -/
def posOf : Nat → List (List UInt8) → List (Nat × Nat)
  | _, [] => []
  | i, r :: rs => (i, r.length) :: posOf (i + 8 + r.length) rs

theorem frs_frames (t : List UInt8) (ht : frOne t = none) : ∀ (rs : List (List UInt8)) (pre : List UInt8) (f : Nat), (∀ r ∈ rs, r.length ≤ 2048) → rs.length ≤ f → frs f (pre ++ (rs.flatMap frame ++ t)) pre.length = posOf pre.length rs := by
  intro rs
  induction rs with
  | nil =>
    intro pre f _ _
    exact frs_none (by rw [List.flatMap_nil, List.nil_append, List.drop_left]; exact ht) f
  | cons r rs ih =>
    intro pre f hr hf
    obtain ⟨f, rfl⟩ : ∃ g, f = g + 1 := ⟨f - 1, by simp at hf; omega⟩
    have hlen := hr r List.mem_cons_self
    have e : pre ++ ((r :: rs).flatMap frame ++ t) = (pre ++ frame r) ++ (rs.flatMap frame ++ t) := by simp
    rw [frs_some (n := r.length) (by rw [List.drop_left, List.flatMap_cons, List.append_assoc]; exact frOne_frame _ _ hlen), posOf]
    congr 1
    have hi := ih (pre ++ frame r) f (fun x hx => hr x (List.mem_cons_of_mem _ hx)) (by simp at hf; omega)
    rw [← e, List.length_append, frame_length] at hi
    rw [show pre.length + 8 + r.length = pre.length + (8 + r.length) by omega]
    exact hi
theorem recs_posOf (t : List UInt8) : ∀ (rs : List (List UInt8)) (pre : List UInt8), (∀ r ∈ rs, r.length ≤ 2048) → recsOf (pre ++ (rs.flatMap frame ++ t)) (posOf pre.length rs) = rs := by
  intro rs
  induction rs with
  | nil => intro pre _; rfl
  | cons r rs ih =>
    intro pre hr
    have hlen := hr r List.mem_cons_self
    have e : pre ++ ((r :: rs).flatMap frame ++ t) = (pre ++ frame r) ++ (rs.flatMap frame ++ t) := by simp
    have hi := ih (pre ++ frame r) (fun x hx => hr x (List.mem_cons_of_mem _ hx))
    rw [← e, List.length_append, frame_length] at hi
    rw [posOf]
    show (_ :: recsOf _ _) = _
    rw [show pre.length + 8 + r.length = pre.length + (8 + r.length) by omega, hi]
    congr 1
    show ((pre ++ ((r :: rs).flatMap frame ++ t)).drop (pre.length + 8)).take r.length = r
    rw [← List.drop_drop, List.drop_left, List.flatMap_cons, List.append_assoc]
    exact (frame_parts r _ hlen).2.2.2
theorem endOf_posOf : ∀ (rs : List (List UInt8)) (i : Nat), rs ≠ [] → endOf (posOf i rs) = i + (rs.flatMap frame).length := by
  intro rs
  induction rs with
  | nil => intro i h; exact absurd rfl h
  | cons r rs ih =>
    intro i _
    rw [posOf, List.flatMap_cons, List.length_append, frame_length]
    by_cases h : rs = []
    · subst h
      simp [posOf, endOf]
      omega
    · have := ih (i + 8 + r.length) h
      have hne : posOf (i + 8 + r.length) rs ≠ [] := by
        cases rs with
        | nil => exact absurd rfl h
        | cons _ _ => simp [posOf]
      unfold endOf at *
      rw [List.getLast?_cons, List.getLast?_eq_some_getLast hne] at *
      simp only [Option.getD_some, Option.map_some] at *
      omega

/-- What Scan tells of frames laid end to end, a torn end behind them. -/
theorem scan_frames (rs : List (List UInt8)) (t : List UInt8) (hr : ∀ r ∈ rs, r.length ≤ 2048) (ht : frOne t = none) (l : List UInt8) (hl : l = rs.flatMap frame ++ t) :
    recsOf l (frs l.length l 0) = rs ∧ endOf (frs l.length l 0) = (rs.flatMap frame).length := by
  subst hl
  have hf : rs.length ≤ (rs.flatMap frame ++ t).length := by
    have : ∀ rs : List (List UInt8), rs.length ≤ (rs.flatMap frame).length := by
      intro rs
      induction rs with
      | nil => simp
      | cons r rs ih => rw [List.flatMap_cons, List.length_append, frame_length, List.length_cons]; omega
    have := this rs
    rw [List.length_append]
    omega
  have h := frs_frames t ht rs [] _ hr hf
  rw [List.nil_append, List.length_nil] at h
  have h2 := recs_posOf t rs [] hr
  rw [List.nil_append, List.length_nil] at h2
  rw [h]
  refine ⟨h2, ?_⟩
  by_cases he : rs = []
  · subst he
    rfl
  · rw [endOf_posOf rs 0 he, Nat.zero_add]

/-- A torn end: the beginning of a frame. -/
theorem torn_none (r : List UInt8) (h : r.length ≤ 2048) (k : Nat) (hk : k < (frame r).length) : frOne ((frame r).take k) = none := by
  have hl := frame_length r
  by_cases h8 : k < 8
  · exact frOne_short (by rw [List.length_take]; omega)
  · have hn : num2 ((frame r).take k) = r.length := by
      have h1 := (frame_parts r [] h).1
      rw [List.append_nil] at h1
      rw [← h1]
      unfold num2
      rw [List.getD_eq_getElem?_getD, List.getD_eq_getElem?_getD, List.getD_eq_getElem?_getD, List.getD_eq_getElem?_getD, List.getElem?_take_of_lt (by omega), List.getElem?_take_of_lt (by omega)]
    unfold frOne
    rw [if_neg (fun x => by have := x.2.2.1; rw [hn, List.length_take] at this; omega)]

/-- A frame that stands whole is its record's. -/
theorem frame_of_frOne {l : List UInt8} {n : Nat} (h : frOne l = some n) : frame ((l.drop 8).take n) = l.take (8 + n) ∧ ((l.drop 8).take n).length = n ∧ n ≤ 2048 := by
  unfold frOne at h
  split at h
  · rename_i hc
    cases h
    obtain ⟨h1, h2, h3, h4⟩ := hc
    unfold headOk at h2
    rw [Bool.and_eq_true, decide_eq_true_eq, decide_eq_true_eq] at h2
    have hlen : ((l.drop 8).take (num2 l)).length = num2 l := by rw [List.length_take, List.length_drop]; omega
    refine ⟨?_, hlen, h2.1⟩
    have e1 := low_num2 l (by omega)
    have e2 : low 2 (BitVec.ofNat 32 (65535 - num2 l)) = (l.drop 2).take 2 := by
      have hl2 : ((l.drop 2).take 2).length = 2 := by rw [List.length_take, List.length_drop]; omega
      have := h2.2
      rw [hl2, List.take_of_length_le (by rw [low_length]; exact Nat.le_refl _)] at this
      exact this
    unfold frame
    rw [hlen, e1, e2, h4]
    have a1 : l.take 2 ++ (l.drop 2).take 2 = l.take 4 := by rw [← List.take_add]
    have a2 : l.take 4 ++ (l.drop 4).take 4 = l.take 8 := by rw [← List.take_add]
    have a3 : l.take 8 ++ (l.drop 8).take (num2 l) = l.take (8 + num2 l) := by rw [← List.take_add]
    rw [a1, a2, a3]
  · cases h

def endFrom (i : Nat) (ps : List (Nat × Nat)) : Nat := (ps.getLast?.map fun x => x.1 + 8 + x.2).getD i
theorem endFrom_zero (ps : List (Nat × Nat)) : endFrom 0 ps = endOf ps := rfl
theorem endFrom_cons (i : Nat) (x : Nat × Nat) (ps : List (Nat × Nat)) : endFrom i (x :: ps) = endFrom (x.1 + 8 + x.2) ps := by
  unfold endFrom
  cases ps with
  | nil => rfl
  | cons y ps => rw [List.getLast?_cons_cons, List.getLast?_eq_some_getLast (by simp)]; rfl

/-- The frames of what Scan tells are the beginning of the bytes. -/
theorem frames_back (l : List UInt8) : ∀ (f i : Nat), i ≤ l.length → i ≤ endFrom i (frs f l i) ∧ endFrom i (frs f l i) ≤ l.length ∧
    (recsOf l (frs f l i)).flatMap frame = (l.drop i).take (endFrom i (frs f l i) - i) ∧ ∀ r ∈ recsOf l (frs f l i), r.length ≤ 2048 := by
  intro f
  induction f with
  | zero =>
    intro i hi
    simp [frs, endFrom, recsOf, hi]
  | succ f ih =>
    intro i hi
    cases hone : frOne (l.drop i) with
    | none =>
      rw [frs_none hone]
      simp [endFrom, recsOf, hi]
    | some n =>
      rw [frs_some hone]
      obtain ⟨hfr, hrl, hn⟩ := frame_of_frOne hone
      have hb : i + 8 + n ≤ l.length := by
        rw [List.length_take, List.length_drop, List.length_drop] at hrl
        unfold frOne at hone
        split at hone
        · rename_i hc
          have := hc.1
          rw [List.length_drop] at this
          omega
        · cases hone
      obtain ⟨h1, h2, h3, h4⟩ := ih (i + 8 + n) hb
      rw [endFrom_cons]
      simp only
      refine ⟨by omega, h2, ?_, ?_⟩
      · show ((_ :: recsOf l (frs f l (i + 8 + n))).flatMap frame) = _
        rw [List.flatMap_cons, h3]
        show frame ((l.drop (i + 8)).take n) ++ _ = _
        rw [← List.drop_drop, hfr]
        generalize endFrom (i + 8 + n) (frs f l (i + 8 + n)) = e at *
        have ht : (l.drop i).take ((8 + n) + (e - (i + 8 + n))) = (l.drop i).take (8 + n) ++ ((l.drop i).drop (8 + n)).take (e - (i + 8 + n)) := List.take_add
        rw [show e - i = (8 + n) + (e - (i + 8 + n)) by omega, ht, List.drop_drop, show i + 8 + n = i + (8 + n) by omega]
      · intro r hr
        rcases List.mem_cons.1 hr with rfl | hr
        · show ((l.drop (i + 8)).take n).length ≤ 2048
          rw [List.length_take]
          omega
        · exact h4 r hr
end Go.Proofs.Ytdgpnpagbhikoaa.Kit
