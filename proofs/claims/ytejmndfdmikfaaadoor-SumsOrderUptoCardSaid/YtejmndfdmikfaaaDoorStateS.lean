/- Sums.State: each told name with its balance and its sum. -/
import Derived.Test.YtejmndfdmikfaaaDoorViewR
import Derived.Test.YtejmndfdmikfaaaDoorToldM
import Derived.Test.YtejmndfdmikfaaaDoorFlat
import Derived.Test.YtejmndfdmikfaaaDoorLine
namespace Go.Proofs.YtejmndfdmikfaaaDoor.Kit
open Go Go.RowKit

theorem Tryd.info_bal : (Tryd.prog.info? 44).map (fun i => (i.zero, i.size, i.bytes)) = some (some (.agg #[.string ⟨#[]⟩, .int .i64 0, .int .i64 0]), 3, 32) := by kernel_rfl
abbrev balOf (K : List (List UInt8)) (O : List UInt8 → Int) (n : List UInt8) : Bal := ⟨n, O n, rollup K O n⟩
/-- What State answers. -/
def StatePost (w : World) (K : List (List UInt8)) (O : List UInt8 → Int) (e : Ending) (w' : World) : Prop :=
  ∃ A c N, e = .returned (.slice A (List.length N) c) ∧ Told N O ∧ Own w' 44 3 A c N.length ((N.map (balOf K O)).flatMap Bal.cells) ∧ New w w' ∧ ∀ k, Bk A k → w.heap.size ≤ k

set_option maxRecDepth 100000 in
set_option maxHeartbeats 4000000 in
theorem State_calls (w : World) (v : Nat) (M : List (List UInt8)) (O : List UInt8 → Int) (F : List Nat) (h : ViewAt w v M O F) (hlen : M.length ≤ 4294967296) :
    Calls Tryd.prog 13 #[.pointer (some ⟨v, 0, none⟩)] w (StatePost w M O) := by
  have hmo : Tryd.prog.follows Departure.mixedOrders = true := by kernel_rfl
  obtain ⟨a, b, c, rfl, hV, hF⟩ := h
  obtain ⟨l, m, t⟩ := hV.many
  have c2 : w.cell? ⟨v, 2, none⟩ = some (.map (some c)) := (cell_of_block hV.blk).trans rfl
  have hll : l.length ≤ 103 * M.length := by
    have := told_length (N := l.map (·.1)) t.1 (fun n hn => (count_pos hV.cov).1 (t.key.1 hn)) hV.cov hV.good
    simpa using this
  have hN := namesI_calls w c l _ m t (by omega)
  have HV := Lib.hid (And.intro hV hF)
  clear hV hF m t hll
  go_enter Tryd.func13, Tryd.ntmps13
  go_wp2_with fail
  refine hN.mono ?_
  rintro e W1 ⟨A, cn, N, rfl, hp, hmem, hO, hn, hb⟩
  have hT : Told N O := told_of_count HV.out.1.cov hp hmem
  have hNl := told_length (rise_nodup hp) (fun n h => (hT.2 n).1 h) HV.out.1.cov HV.out.1.good
  have HN := Lib.hid (And.intro hT (And.intro hO (And.intro hn hb)))
  have v1 := HV.out.1.new hn
  have HV1 := Lib.hid v1
  clear hp hmem hO hn hb hT hN c2 v1
  go_wp2_with fail
  go_loopw [3, 12] (fun s i wq => ∃ (k : Nat) (A1 : Option Addr) (c1 : Nat), s = .slice A1 k c1 ∧ i = .int .i64 (k : Int) ∧ k ≤ N.length ∧ Hid (Own wq 44 3 A1 c1 k (((N.take k).map (balOf M O)).flatMap Bal.cells) ∧ New W1 wq ∧ ∀ j, Bk A1 j → W1.heap.size ≤ j)) (fun _ i _ => N.length - (intOf i).toNat)
  case atStart => exact ⟨0, none, 0, rfl, rfl, Nat.zero_le _, Lib.hid ⟨Own.nil _ _ _, Kp.refl _ _, fun j h => absurd h Bk.none_⟩⟩
  case round =>
    obtain ⟨k, A1, c1, rfl, rfl, hk, HI⟩ := hrel
    have hk0 : (0 : Int) ≤ k := by omega
    by_cases hlt : k < N.length
    · have hki : (k : Int) < (N.length : Int) := by omega
      obtain ⟨g, rfl⟩ := HN.out.2.1.some_ (by omega)
      have hcell : wr.cell? ⟨g, k, none⟩ = some (.string (bstr N[k])) := HI.out.2.1.cell (HN.out.2.1.cell (by simp [hlt]))
      have vr := HV1.out.new HI.out.2.1
      have d0 : wr.cell? ⟨v, 0, none⟩ = some (.map (some a)) := (cell_of_block vr.blk).trans rfl
      have d1 : wr.cell? ⟨v, 1, none⟩ = some (.map (some b)) := (cell_of_block vr.blk).trans rfl
      obtain ⟨lo, mo, to⟩ := vr.own
      obtain ⟨la, ma, ta⟩ := vr.all
      obtain ⟨n, hn⟩ : ∃ n, N[k] = n := ⟨_, rfl⟩
      rw [hn] at hcell
      have ho : ∀ W : World, W.heap[a]? = wr.heap[a]? → (Instr.lookup 69 (.map (some a)) (.string (bstr n)) false).run Tryd.prog W = .ok (.int .i64 (O n)) W := fun W hW => look_num Tryd.underlying69 Tryd.underlying9 Tryd.zero_i64 (mo.keep hW) to n
      have ha : ∀ W : World, W.heap[b]? = wr.heap[b]? → (Instr.lookup 69 (.map (some b)) (.string (bstr n)) false).run Tryd.prog W = .ok (.int .i64 (rollup M O n)) W := fun W hW => by
        have h1 := look_num Tryd.underlying69 Tryd.underlying9 Tryd.zero_i64 (ma.keep hW) ta n
        have hw : Kit.wr (rollup M O n) = rollup M O n := wr_id (by have := rollup_fits HV.out.2 n; unfold top at this; omega)
        rw [h1, hw]
      generalize hon : O n = on at ho
      generalize hrn : rollup M O n = rn at ha
      have HO := Lib.hid (And.intro ho (And.intro ha (And.intro mo.lt ma.lt)))
      have HE := Lib.hid (And.intro hn (And.intro hon hrn))
      clear ho ha mo to ma ta vr hn hon hrn
      go_wp2_with fail
      refine wp_region_line (fun w' => w'.cell? ⟨v, 0, none⟩ = some (.map (some a)) ∧ w'.cell? ⟨v, 1, none⟩ = some (.map (some b)) ∧ (Instr.lookup 69 (.map (some a)) (.string (bstr n)) false).run Tryd.prog w' = .ok (.int .i64 on) w' ∧ (Instr.lookup 69 (.map (some b)) (.string (bstr n)) false).run Tryd.prog w' = .ok (.int .i64 rn) w') (pl := [(0, true), (1, true), (2, true), (3, true), (4, true), (5, true), (6, true), (7, true), (8, true), (9, true), (10, true), (11, true), (12, true), (13, true), (14, true), (15, false), (16, false), (17, true)]) hmo (by kernel_rfl) ⟨by simpa using d0, by simpa using d1, HO.out.1 _ rfl, HO.out.2.1 _ rfl⟩ ?_
      iterate 15 (refine line_get rfl rfl (fun K hK => ?_); apply Exists.intro; refine ⟨fun w hS => ?_, ?_⟩; (first | (have hS' := hS rfl; go_simp; with_reducible rfl) | (go_simp; with_reducible rfl)); (go_simp; refine hK _ ?_; clear hK K))
      (refine line_do rfl rfl (fun K hK => ?_); go_simp)
      refine hK _ _ (no_need (by kernel_rfl)) ?_
      clear hK K
      refine line_do rfl rfl (fun K hK => ?_)
      refine wp_append_src _ (.tmp 16) (.tmp 31) 31 31 rfl 44 _ 3 32 Tryd.underlying31 Tryd.info_bal rfl A1 c1 k (((N.take k).map (balOf M O)).flatMap Bal.cells) rfl ((HI.out.1.new (Kp.drew _ _)).new (Kp.alloc _ _ _)) (.slice (some ⟨wr.heap.size, 0, none⟩) 1 1) rfl 1 _ (Src.ofNew wr.drew Tryd.underlying31 #[.string (bstr n), .int .i64 on, .int .i64 rn] 44 3 1 1 rfl (by simp [Value.oneCell'])) (by omega) (by omega) ?_
      intro A3 c3 w3 h31 h32 h33
      have H3 := Lib.hid (And.intro h31 (And.intro h32 h33))
      refine hK _ _ (no_need (by kernel_rfl)) ?_
      clear hK K h31 h32 h33
      (refine line_get rfl rfl (fun K hK => ?_); apply Exists.intro; refine ⟨fun w hS => ?_, ?_⟩; (first | (have hS' := hS rfl; go_simp; with_reducible rfl) | (go_simp; with_reducible rfl)); (go_simp; refine hK _ ?_; clear hK K))
      refine line_nil ?_
      go_wp2_with fail
      have kA : Kp (Bk A1) wr w3 := ((Kp.drew (fun _ => False) wr).trans (Kp.alloc (fun _ => False) _ _) (fun _ _ h => h) (fun _ _ h => h)).trans H3.out.2.1 (fun _ _ h => h.elim) (fun _ _ h => h)
      refine ⟨⟨k + 1, A3, c3, rfl, by go_num, by omega, Lib.hid ⟨?_, HI.out.2.1.trans kA (fun _ _ h => h) (fun j hj hb => by have := HI.out.2.2 j hb; omega), fun j hj => ?_⟩⟩, by simp [intOf]; omega⟩
      · have e : ((N.take (k + 1)).map (balOf M O)).flatMap Bal.cells = ((N.take k).map (balOf M O)).flatMap Bal.cells ++ [.string (bstr n), .int .i64 on, .int .i64 rn] := by
          rw [take_snoc hlt, List.map_append, List.flatMap_append]
          congr 1
          simp [balOf, Bal.cells, HE.out.1, HE.out.2.1, HE.out.2.2]
        rw [e]
        exact H3.out.1
      · rcases H3.out.2.2 j hj with h | h
        · exact HI.out.2.2 j h
        · have := HI.out.2.1.size
          simp at h
          omega
    · obtain rfl : k = N.length := by omega
      go_wp2_with fail
      go_ret
      have e := HI.out.1
      rw [List.take_length] at e
      exact ⟨A1, c1, N, rfl, HN.out.1, e, HN.out.2.2.1.trans HI.out.2.1 (fun _ _ h => h) (fun _ _ h => h), fun j hj => by have := HI.out.2.2 j hj; have := HN.out.2.2.1.size; omega⟩
end Go.Proofs.YtejmndfdmikfaaaDoor.Kit
