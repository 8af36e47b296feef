/- A view at rest: New, Own, Rollup, Totals. -/
import Derived.Test.YtejmndfdmikfaaaDoorSet
import Derived.Test.YtejmndfdmikfaaaDoorSides
import Derived.Test.YtejmndfdmikfaaaDoorNames8
import Derived.Test.YtejmndfdmikfaaaDoorSumsL
namespace Go.Proofs.YtejmndfdmikfaaaDoor.Kit
open Go Go.RowKit

/-- A view in memory: its block and its three maps. -/
def ViewAt (w : World) (v : Nat) (K : List (List UInt8)) (O : List UInt8 → Int) (F : List Nat) : Prop := ∃ a b c, F = [v, a, b, c] ∧ VS w v K O a b c ∧ Fits K O
section
variable {w w' : World} {v : Nat} {K : List (List UInt8)} {O : List UInt8 → Int} {F : List Nat} {S : Nat → Prop}
theorem ViewAt.kp (h : ViewAt w v K O F) (hk : Kp S w w') (hS : ∀ k ∈ F, ¬ S k) : ViewAt w' v K O F := by
  obtain ⟨a, b, c, rfl, h1, h2⟩ := h
  exact ⟨a, b, c, rfl, h1.kp hk ⟨hS v (by simp), hS a (by simp), hS b (by simp), hS c (by simp)⟩, h2⟩
theorem ViewAt.new (h : ViewAt w v K O F) (hk : New w w') : ViewAt w' v K O F := h.kp hk (fun _ _ => id)
theorem ViewAt.lt (h : ViewAt w v K O F) : ∀ k ∈ F, k < w.heap.size := by
  obtain ⟨a, b, c, rfl, h1, h2⟩ := h
  have := h1.lt
  intro k hk
  simp only [List.mem_cons, List.not_mem_nil, or_false] at hk
  omega
theorem ViewAt.cov (h : ViewAt w v K O F) : Covers K O := by obtain ⟨a, b, c, rfl, h1, h2⟩ := h; exact h1.cov
theorem ViewAt.fit (h : ViewAt w v K O F) : Fits K O := by obtain ⟨a, b, c, rfl, h1, h2⟩ := h; exact h2
theorem ViewAt.good (h : ViewAt w v K O F) : ∀ k, O k ≠ 0 → goodA k = true := by obtain ⟨a, b, c, rfl, h1, h2⟩ := h; exact h1.good
end
theorem covers_nil : Covers [] (fun _ : List UInt8 => (0 : Int)) := ⟨List.nodup_nil, fun _ hk => absurd rfl hk⟩
theorem fits_nil : Fits [] (fun _ : List UInt8 => (0 : Int)) := ⟨fun _ => ⟨show -top ≤ (0 : Int) by decide, show (0 : Int) ≤ top by decide⟩, by decide, by decide⟩
def NewPost (w : World) (e : Ending) (w' : World) : Prop := ∃ v F, e = .returned (.pointer (some ⟨v, 0, none⟩)) ∧ ViewAt w' v [] (fun _ => 0) F ∧ New w w' ∧ ∀ k ∈ F, w.heap.size ≤ k
set_option maxHeartbeats 1000000 in
theorem New_calls (w : World) : Calls Tryd.prog 11 #[] w (NewPost w) := by
  have hmm := @run_makeMap Tryd.prog
  go_enter Tryd.func11, Tryd.ntmps11
  go_wp2
  go_ret
  obtain ⟨w1, h1⟩ : ∃ w1, w.alloc (.map #[] 0) = w1 := ⟨_, rfl⟩
  obtain ⟨w2, h2⟩ : ∃ w2, w1.alloc (.map #[] 0) = w2 := ⟨_, rfl⟩
  obtain ⟨w3, h3⟩ : ∃ w3, w2.alloc (.map #[] 0) = w3 := ⟨_, rfl⟩
  obtain ⟨w4, h4⟩ : ∃ w4, w3.alloc (.cells #[.map (some w.heap.size), .map (some (w.heap.size + 1)), .map (some (w.heap.size + 1 + 1))] 73) = w4 := ⟨_, rfl⟩
  have z1 : w1.heap.size = w.heap.size + 1 := by rw [← h1]; simp
  have z2 : w2.heap.size = w.heap.size + 2 := by rw [← h2, ← h1]; simp
  have z3 : w3.heap.size = w.heap.size + 3 := by rw [← h3, ← h2, ← h1]; simp
  have n1 : New w w1 := h1 ▸ Kp.alloc _ _ _
  have n2 : New w1 w2 := h2 ▸ Kp.alloc _ _ _
  have n3 : New w2 w3 := h3 ▸ Kp.alloc _ _ _
  have n4 : New w3 w4 := h4 ▸ Kp.alloc _ _ _
  have m1 : SMap w1 w.heap.size [] := h1 ▸ SMap.made w
  have m2 : SMap w2 (w.heap.size + 1) [] := by have := SMap.made w1; rw [h2, z1] at this; exact this
  have m3 : SMap w3 (w.heap.size + 2) [] := by have := SMap.made w2; rw [h3, z2] at this; exact this
  have hb : w4.heap[w.heap.size + 3]? = some (.cells #[.map (some w.heap.size), .map (some (w.heap.size + 1)), .map (some (w.heap.size + 1 + 1))] 73 (0, 0)) := by
    have := heap_alloc_new w3 (.cells #[.map (some w.heap.size), .map (some (w.heap.size + 1)), .map (some (w.heap.size + 1 + 1))] 73)
    rw [h4, z3] at this
    exact this
  have e4 : (((w.alloc (.map #[] 0)).alloc (.map #[] 0)).alloc (.map #[] 0)).alloc (.cells #[.map (some w.heap.size), .map (some (w.heap.size + 1)), .map (some (w.heap.size + 1 + 1))] 73) = w4 := by rw [h1, h2, h3, h4]
  rw [e4]
  refine ⟨w.heap.size + 3, [w.heap.size + 3, w.heap.size, w.heap.size + 1, w.heap.size + 2], rfl, ⟨w.heap.size, w.heap.size + 1, w.heap.size + 2, rfl, ⟨hb, ⟨[], ?_, IsT.none⟩, ⟨[], ?_, ?_⟩, ⟨[], ?_, ?_⟩, covers_nil, fun k hk => absurd rfl hk, by omega, by omega, by omega⟩, fits_nil⟩, ((n1.trans n2 (fun _ _ h => h) (fun _ _ h => h)).trans n3 (fun _ _ h => h) (fun _ _ h => h)).trans n4 (fun _ _ h => h) (fun _ _ h => h), fun k hk => ?_⟩
  · exact ((m1.keep (n2.block _ m1.lt id)).keep (n3.block _ (by omega) id)).keep (n4.block _ (by omega) id)
  · exact (m2.keep (n3.block _ m2.lt id)).keep (n4.block _ (by omega) id)
  · refine IsT.none.congr ?_
    funext k
    rfl
  · exact m3.keep (n4.block _ m3.lt id)
  · exact IsT.none.congr (by funext k; rfl)
  · simp only [List.mem_cons, List.not_mem_nil, or_false] at hk
    omega
theorem Own_calls (w : World) (v : Nat) (K : List (List UInt8)) (O : List UInt8 → Int) (F : List Nat) (n : List UInt8) (h : ViewAt w v K O F) :
    Calls Tryd.prog 20 #[.pointer (some ⟨v, 0, none⟩), .string (bstr n)] w fun e w' => e = .returned (.int .i64 (O n)) ∧ w = w' := by
  obtain ⟨a, b, c, rfl, hV, _⟩ := h
  obtain ⟨l, m, t⟩ := hV.own
  have c0 : w.cell? ⟨v, 0, none⟩ = some (.map (some a)) := (cell_of_block hV.blk).trans rfl
  have hl := look_num Tryd.underlying69 Tryd.underlying9 Tryd.zero_i64 m t n
  clear hV m t
  go_enter Tryd.func20, Tryd.ntmps20
  go_wp2
  go_ret
  exact ⟨rfl, rfl⟩
theorem Rollup_calls (w : World) (v : Nat) (K : List (List UInt8)) (O : List UInt8 → Int) (F : List Nat) (n : List UInt8) (h : ViewAt w v K O F) :
    Calls Tryd.prog 14 #[.pointer (some ⟨v, 0, none⟩), .string (bstr n)] w fun e w' => e = .returned (.int .i64 (rollup K O n)) ∧ w = w' := by
  obtain ⟨a, b, c, rfl, hV, hF⟩ := h
  obtain ⟨l, m, t⟩ := hV.all
  have c0 : w.cell? ⟨v, 1, none⟩ = some (.map (some b)) := (cell_of_block hV.blk).trans rfl
  have hl := look_num Tryd.underlying69 Tryd.underlying9 Tryd.zero_i64 m t n
  have hw : wr (rollup K O n) = rollup K O n := wr_id (by have := rollup_fits hF n; unfold top at this; omega)
  simp only [hw] at hl
  clear hV m t hw hF
  go_enter Tryd.func14, Tryd.ntmps14
  go_wp2
  go_ret
  exact ⟨rfl, rfl⟩
theorem IsT.vals {l : Prs} {O : List UInt8 → Int} (h : IsT l O) : l.map (·.2) = ((l.map (·.1)).map O).map fun y => Value.int .i64 y := by
  rw [List.map_map, List.map_map]
  exact List.map_congr_left fun x hx => (h.mem hx).2
set_option maxHeartbeats 1000000 in
theorem Totals_calls (w : World) (v : Nat) (K : List (List UInt8)) (O : List UInt8 → Int) (F : List Nat) (h : ViewAt w v K O F) :
    Calls Tryd.prog 18 #[.pointer (some ⟨v, 0, none⟩)] w fun e w' => e = .returned (.tuple #[.int .i64 (debits K O), .int .i64 (credits K O)]) ∧ New w w' := by
  obtain ⟨a, b, c, rfl, hV, hF⟩ := h
  obtain ⟨l, m, t⟩ := hV.own
  have c0 : w.cell? ⟨v, 0, none⟩ = some (.map (some a)) := (cell_of_block hV.blk).trans rfl
  have hs : sidesA ((l.map (·.1)).map O) = (debits K O, credits K O, true) := by
    unfold sidesA
    rw [dS_names, cS_names, debits_any t.covers hV.cov, credits_any t.covers hV.cov, if_pos ⟨hF.2.1, hF.2.2⟩]
  have hS := sides_calls (w.alloc (.cells #[.map (some a)] 68)) w.heap.size a l ((l.map (·.1)).map O) (Boxed.new _ _ _) (m.keep (Below.heap_alloc _ _ _ m.lt)) t.vals (fun y hy => by
    obtain ⟨k, _, rfl⟩ := List.mem_map.1 hy
    exact hF.1 k)
  unfold sidesV at hS
  rw [hs] at hS
  clear hs hV hF m t
  go_enter Tryd.func18, Tryd.ntmps18
  go_wp2_with fail
  refine (each_calls w a).mono ?_
  rintro e w1 ⟨rfl, rfl⟩
  go_wp2_with fail
  refine hS.mono ?_
  rintro e w2 ⟨rfl, hn⟩
  go_wp2_with fail
  go_ret2
  exact ⟨rfl, (Kp.alloc _ _ _).trans hn (fun _ _ h => h) (fun _ _ h => h)⟩
end Go.Proofs.YtejmndfdmikfaaaDoor.Kit
