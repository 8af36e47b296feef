/- Sums.Trial: each balance in its column. -/
import Derived.Test.YtejmndfdmikfaaaDoorStateS
namespace Go.Proofs.YtejmndfdmikfaaaDoor.Kit
open Go Go.RowKit

theorem Tryd.info_col : (Tryd.prog.info? 47).map (fun i => (i.zero, i.size, i.bytes)) = some (some (.agg #[.string ⟨#[]⟩, .int .i64 0, .int .i64 0]), 3, 32) := by kernel_rfl
abbrev colOf (O : List UInt8 → Int) (n : List UInt8) : Bal := ⟨n, if 0 < O n then O n else 0, if 0 < O n then 0 else - O n⟩
/-- What Trial answers. -/
def TrialPost (w : World) (O : List UInt8 → Int) (e : Ending) (w' : World) : Prop :=
  ∃ A c T, e = .returned (.slice A (List.length T) c) ∧ Owned T O ∧ Own w' 47 3 A c T.length ((T.map (colOf O)).flatMap Bal.cells) ∧ New w w' ∧ ∀ k, Bk A k → w.heap.size ≤ k

set_option maxRecDepth 100000 in
set_option maxHeartbeats 4000000 in
theorem Trial_calls (w : World) (v : Nat) (M : List (List UInt8)) (O : List UInt8 → Int) (F : List Nat) (h : ViewAt w v M O F) (hlen : M.length ≤ 4294967296) :
    Calls Tryd.prog 17 #[.pointer (some ⟨v, 0, none⟩)] w (TrialPost w O) := by
  obtain ⟨a, b, c, rfl, hV, hF⟩ := h
  obtain ⟨l, m, t⟩ := hV.own
  have c2 : w.cell? ⟨v, 0, none⟩ = some (.map (some a)) := (cell_of_block hV.blk).trans rfl
  have hll : l.length ≤ M.length := by
    have := nodup_len (l := l.map (·.1)) (m := M) t.1 (fun n hn => hV.cov.2 n (t.key.1 hn))
    simpa using this
  have hN := names64_calls w a l _ m t (by omega)
  have HV := Lib.hid (And.intro hV hF)
  clear hV hF m t hll
  go_enter Tryd.func17, Tryd.ntmps17
  go_wp2_with fail
  refine hN.mono ?_
  rintro e W1 ⟨A, cn, N, rfl, hp, hmem, hO, hn, hb⟩
  have hT : Owned N O := ⟨hp, hmem⟩
  have hNl : N.length ≤ M.length := nodup_len (rise_nodup hp) (fun n h => HV.out.1.cov.2 n ((hmem n).1 h))
  have HN := Lib.hid (And.intro hT (And.intro hO (And.intro hn hb)))
  have v1 := HV.out.1.new hn
  have HV1 := Lib.hid v1
  clear hp hmem hO hn hb hT hN c2 v1
  go_wp2_with fail
  go_loopw [3, 14] (fun s i wr => ∃ (k : Nat) (A1 : Option Addr) (c1 : Nat), s = .slice A1 k c1 ∧ i = .int .i64 (k : Int) ∧ k ≤ N.length ∧ Hid (Own wr 47 3 A1 c1 k (((N.take k).map (colOf O)).flatMap Bal.cells) ∧ New W1 wr ∧ ∀ j, Bk A1 j → W1.heap.size ≤ j)) (fun _ i _ => N.length - (intOf i).toNat)
  case atStart => exact ⟨0, none, 0, rfl, rfl, Nat.zero_le _, Lib.hid ⟨Own.nil _ _ _, Kp.refl _ _, fun j h => absurd h Bk.none_⟩⟩
  case round =>
    obtain ⟨k, A1, c1, rfl, rfl, hk, HI⟩ := hrel
    have hk0 : (0 : Int) ≤ k := by omega
    by_cases hlt : k < N.length
    · have hki : (k : Int) < (N.length : Int) := by omega
      obtain ⟨g, rfl⟩ := HN.out.2.1.some_ (by omega)
      have hcell : wr.cell? ⟨g, k, none⟩ = some (.string (bstr N[k])) := HI.out.2.1.cell (HN.out.2.1.cell (by simp [hlt]))
      have vr := HV1.out.new HI.out.2.1
      have d0 : wr.cell? ⟨v, 0, none⟩ = some (.map (some a)) := (cell_of_block vr.blk).trans rfl
      obtain ⟨lo, mo, to⟩ := vr.own
      obtain ⟨n, hn⟩ : ∃ n, N[k] = n := ⟨_, rfl⟩
      rw [hn] at hcell
      have ho := look_num Tryd.underlying69 Tryd.underlying9 Tryd.zero_i64 (mo.keep (Below.heap_alloc wr (.cells #[.string (bstr n), .int .i64 0, .int .i64 0] 47) _ mo.lt)) to n
      have d1 : (wr.alloc (.cells #[.string (bstr n), .int .i64 0, .int .i64 0] 47)).cell? ⟨v, 0, none⟩ = some (.map (some a)) := New.cell (Kp.alloc _ _ _) d0
      obtain ⟨on, hon⟩ : ∃ on, O n = on := ⟨_, rfl⟩
      have hr := HV.out.2.1 n
      rw [hon] at ho hr
      unfold top at hr
      have hneg : IntKind.i64.wrap (-on) = -on := by rw [IntKind.wrap_i64]; omega
      have HE := Lib.hid (And.intro hn (And.intro hon hr))
      clear mo to vr hn hon hr
      have key : ∀ (x y : Int) (A3 : Option Addr) (c3 : Nat) (w2 w3 : World), colOf O n = ⟨n, x, y⟩ → New wr w2 → Own w3 47 3 A3 c3 (k + 1) (((N.take k).map (colOf O)).flatMap Bal.cells ++ [.string (bstr n), .int .i64 x, .int .i64 y]) → Kp (Bk A1) w2 w3 → (∀ j, Bk A3 j → Bk A1 j ∨ j = w2.heap.size) →
          Hid (Own w3 47 3 A3 c3 (k + 1) (((N.take (k + 1)).map (colOf O)).flatMap Bal.cells) ∧ New W1 w3 ∧ ∀ j, Bk A3 j → W1.heap.size ≤ j) := by
        intro x y A3 c3 w2 w3 hxy hn2 h31 h32 h33
        have kA : Kp (Bk A1) wr w3 := hn2.trans h32 (fun _ _ h => h.elim) (fun _ _ h => h)
        refine Lib.hid ⟨?_, HI.out.2.1.trans kA (fun _ _ h => h) (fun j hj hb => by have := HI.out.2.2 j hb; omega), fun j hj => ?_⟩
        · have e : ((N.take (k + 1)).map (colOf O)).flatMap Bal.cells = ((N.take k).map (colOf O)).flatMap Bal.cells ++ [.string (bstr n), .int .i64 x, .int .i64 y] := by
            rw [take_snoc hlt, List.map_append, List.flatMap_append, List.map_singleton, HE.out.1, hxy]
            rfl
          rw [e]
          exact h31
        · rcases h33 j hj with h | h
          · exact HI.out.2.2 j h
          · have := HI.out.2.1.size
            have := hn2.size
            omega
      have KEY := Lib.hid key
      clear key
      by_cases hpos : 0 < on
      · have q0 : decide (0 < on) = true := decide_eq_true hpos
        go_wp2_with (at_builtin; refine wpList_append_src _ rfl (.tmp 33) (.tmp 35) 39 39 rfl 47 _ 3 32 Tryd.underlying39 Tryd.info_col rfl A1 c1 k (((N.take k).map (colOf O)).flatMap Bal.cells) rfl ((HI.out.1.new (Kp.alloc _ _ _)).new (Kp.alloc _ _ _)) (.slice (some ⟨wr.heap.size + 1, 0, none⟩) 1 1) rfl 1 _ (Src.ofRow Tryd.underlying39 (heap_alloc2_new wr _ _) 3 1 1 rfl (by simp [Value.oneCell'])) (by omega) (by omega) ?_; intro A3 c3 w3 h31 h32 h33; have HA := KEY.out (on) (0) A3 c3 _ w3 (by simp [colOf, HE.out.2.1, hpos]) ((Kp.alloc _ _ _).trans (Kp.alloc _ _ _) (fun _ _ h => h) (fun _ _ h => h)) h31 h32 h33; clear h31 h32 h33)
        exact ⟨⟨k + 1, A3, c3, rfl, by go_num, by omega, HA⟩, by simp [intOf]; omega⟩
      · have q0 : decide (0 < on) = false := decide_eq_false hpos
        go_wp2_with (at_builtin; refine wpList_append_src _ rfl (.tmp 33) (.tmp 35) 39 39 rfl 47 _ 3 32 Tryd.underlying39 Tryd.info_col rfl A1 c1 k (((N.take k).map (colOf O)).flatMap Bal.cells) rfl ((HI.out.1.new (Kp.alloc _ _ _)).new (Kp.alloc _ _ _)) (.slice (some ⟨wr.heap.size + 1, 0, none⟩) 1 1) rfl 1 _ (Src.ofRow Tryd.underlying39 (heap_alloc2_new wr _ _) 3 1 1 rfl (by simp [Value.oneCell'])) (by omega) (by omega) ?_; intro A3 c3 w3 h31 h32 h33; have HA := KEY.out (0) (-on) A3 c3 _ w3 (by simp [colOf, HE.out.2.1, hpos]) ((Kp.alloc _ _ _).trans (Kp.alloc _ _ _) (fun _ _ h => h) (fun _ _ h => h)) h31 h32 h33; clear h31 h32 h33)
        exact ⟨⟨k + 1, A3, c3, rfl, by go_num, by omega, HA⟩, by simp [intOf]; omega⟩
    · obtain rfl : k = N.length := by omega
      go_wp2_with fail
      go_ret
      have e := HI.out.1
      rw [List.take_length] at e
      exact ⟨A1, c1, N, rfl, HN.out.1, e, HN.out.2.2.1.trans HI.out.2.1 (fun _ _ h => h) (fun _ _ h => h), fun j hj => by have := HI.out.2.2 j hj; have := HN.out.2.2.1.size; omega⟩
end Go.Proofs.YtejmndfdmikfaaaDoor.Kit
