/- A daily view at rest: New, rows, At, Between. -/
import Derived.Test.YtejmndfdmikfaaaDoorTold9
import Derived.Test.YtejmndfdmikfaaaDoorGood9
import Derived.Test.YtejmndfdmikfaaaDoorDailyS
namespace Go.Proofs.YtejmndfdmikfaaaDoor.Kit
open Go Go.RowKit

theorem alloc2_new (w : World) (o p : Obj) : ((w.alloc o).alloc p).heap[w.heap.size + 1]? = some p := by
  have := heap_alloc_new (w.alloc o) p
  rwa [World.size_alloc] at this
theorem le_sum_mem {l : List Nat} {x : Nat} (h : x ∈ l) : x ≤ l.sum := by
  induction l with
  | nil => cases h
  | cons y l ih =>
    rw [List.sum_cons]
    rcases List.mem_cons.1 h with rfl | h
    · omega
    · have := ih h
      omega
/-- How many entries the slices show. -/
def Ms.tot {α : Type} (ms : Ms α) : Nat := (ms.map fun x => x.2.l.length).sum
/-- A view in memory: its block, its map, its slices. -/
structure ViewB (w : World) (v : Nat) (O : DO) (F : Nat → Prop) (M : Nat) (m : Nat) (ms : Ms (Int × Int × Int)) : Prop where
  blk : w.heap[v]? = some (.cells #[.map (some m)] 94 (0, 0))
  map : MapS w m 107 3 dcells ms
  shows : ∀ n, (ms.at_ n).l = days (O n)
  foot : ∀ k, (k = v ∨ k = m ∨ k ∈ blks ms.sls) → F k
  fit : ∀ n, FitD (O n)
  good : ∀ n, days (O n) ≠ [] → goodD n = true ∧ n.length ≤ 1048576
  isday : ∀ n, ∀ x ∈ days (O n), isDayB x.1 = true
  tot : ms.tot ≤ M
  len : ms.length ≤ M
def ViewD (w : World) (v : Nat) (O : DO) (F : Nat → Prop) (M : Nat) : Prop := ∃ m ms, ViewB w v O F M m ms
section
variable {w w' : World} {v M m : Nat} {O : DO} {F S : Nat → Prop} {ms : Ms (Int × Int × Int)}
theorem ViewB.kp (h : ViewB w v O F M m ms) (hk : Kp S w w') (hS : ∀ k, F k → ¬ S k) : ViewB w' v O F M m ms :=
  ⟨(hk.block v (Array.getElem?_eq_some_iff.1 h.blk).1 (hS v (h.foot v (.inl rfl)))).trans h.blk, h.map.kp hk (hS m (h.foot m (.inr (.inl rfl)))) fun b hb => hS b (h.foot b (.inr (.inr hb))), h.shows, h.foot, h.fit, h.good, h.isday, h.tot, h.len⟩
theorem ViewB.new (h : ViewB w v O F M m ms) (hk : New w w') : ViewB w' v O F M m ms := h.kp hk fun _ _ => id
theorem ViewD.kp (h : ViewD w v O F M) (hk : Kp S w w') (hS : ∀ k, F k → ¬ S k) : ViewD w' v O F M := by
  obtain ⟨m, ms, h⟩ := h
  exact ⟨m, ms, h.kp hk hS⟩
theorem ViewD.new (h : ViewD w v O F M) (hk : New w w') : ViewD w' v O F M := h.kp hk fun _ _ => id
theorem ViewB.cov (h : ViewB w v O F M m ms) : CovD ms.keys O := by
  refine ⟨h.map.nodup, fun n hn => Classical.byContradiction fun hk => hn ?_⟩
  rw [← h.shows n, Ms.at_not hk]
  rfl
theorem ViewB.lt (h : ViewB w v O F M m ms) : v < w.heap.size ∧ m < w.heap.size ∧ ∀ b ∈ blks ms.sls, b < w.heap.size := ⟨(Array.getElem?_eq_some_iff.1 h.blk).1, h.map.lt, h.map.blk_lt⟩
/-- The footprint can be taken small. -/
theorem ViewB.small (h : ViewB w v O F M m ms) : ViewB w v O (fun k => k = v ∨ k = m ∨ k ∈ blks ms.sls) M m ms := ⟨h.blk, h.map, h.shows, fun _ h => h, h.fit, h.good, h.isday, h.tot, h.len⟩
theorem ViewB.len_at (h : ViewB w v O F M m ms) (n : List UInt8) : (days (O n)).length ≤ M := by
  rw [← h.shows n]
  rcases ms.at_or n with h1 | ⟨_, h1⟩
  · have : (ms.at_ n).l.length ≤ ms.tot := by
      unfold Ms.tot
      exact le_sum_mem (List.mem_map.2 ⟨_, h1, rfl⟩)
    exact Nat.le_trans this h.tot
  · rw [h1]
    exact Nat.zero_le _
/-- What a lookup gives. -/
theorem ViewB.look (h : ViewB w v O F M m ms) (n : List UInt8) : (Instr.lookup 92 (.map (some m)) (.string (bstr n)) false).run Tryd.prog w = .ok (.slice (ms.at_ n).A (days (O n)).length (ms.at_ n).c) w := by
  have hz : (zeroValue 98).run Tryd.prog w = .ok (.slice none 0 0) w := by
    have := Tryd.zeroValue98
    simp [this]
  have := run_look (P := Tryd.prog) Tryd.underlying92 Tryd.underlying9 hz h.map.map n false
  rw [this, if_neg (by decide), Ms.at_prs]
  unfold Sl.val
  rw [h.shows n]
theorem ViewB.rd (h : ViewB w v O F M m ms) (n : List UInt8) : Own w 107 3 (ms.at_ n).A (ms.at_ n).c (days (O n)).length ((days (O n)).flatMap dcells) := by
  have := h.map.own_at n
  unfold OwnS at this
  rw [h.shows n] at this
  exact this
end

/-! ### New -/
def NewPost9 (w : World) (e : Ending) (w' : World) : Prop := ∃ v F, e = .returned (.pointer (some ⟨v, 0, none⟩)) ∧ ViewD w' v (fun _ => []) F 0 ∧ New w w' ∧ ∀ k, F k → w.heap.size ≤ k
theorem fit_none : FitD [] := fun _ => ⟨amtD_zero, amtD_zero⟩
theorem days_none : days [] = [] := rfl
set_option maxHeartbeats 1000000 in
theorem New9_calls (w : World) : Calls Tryd.prog 23 #[] w (NewPost9 w) := by
  have hmm := @run_makeMap Tryd.prog
  go_enter Tryd.func23, Tryd.ntmps23
  go_wp2
  go_ret
  obtain ⟨w1, h1⟩ : ∃ w1, w.alloc (.map #[] 0) = w1 := ⟨_, rfl⟩
  obtain ⟨w2, h2⟩ : ∃ w2, w1.alloc (.cells #[.map (some w.heap.size)] 94) = w2 := ⟨_, rfl⟩
  have e2 : (w.alloc (.map #[] 0)).alloc (.cells #[.map (some w.heap.size)] 94) = w2 := by rw [h1, h2]
  rw [e2]
  have z1 : w1.heap.size = w.heap.size + 1 := by rw [← h1]; simp
  have n1 : New w w1 := h1 ▸ Kp.alloc _ _ _
  have n2 : New w1 w2 := h2 ▸ Kp.alloc _ _ _
  have m1 : MapS w1 w.heap.size 107 3 dcells [] := h1 ▸ MapS.made w _ _ _
  have b2 : w2.heap[w.heap.size + 1]? = some (.cells #[.map (some w.heap.size)] 94 (0, 0)) := by
    have := heap_alloc_new w1 (.cells #[.map (some w.heap.size)] 94)
    rw [h2, z1] at this
    exact this
  refine ⟨w.heap.size + 1, fun k => w.heap.size ≤ k, rfl, ⟨w.heap.size, [], b2, m1.new n2, fun n => rfl, fun k hk => ?_, fun n => fit_none, fun n h => absurd days_none h, fun n x hx => (by cases hx), Nat.zero_le _, Nat.zero_le _⟩, n1.trans n2 (fun _ _ h => h) (fun _ _ h => h), fun k hk => hk⟩
  rcases hk with rfl | rfl | hk
  · omega
  · exact Nat.le_refl _
  · cases hk

/-! ### rows -/
theorem Tryd.info_dr : (Tryd.prog.info? 62).map (fun i => (i.zero, i.size, i.bytes)) = some (some (.agg #[.string ⟨#[]⟩, .int .i64 0, .int .i64 0, .int .i64 0]), 4, 40) := by kernel_rfl
def RowsPost (w : World) (L : List Dr) (e : Ending) (w' : World) : Prop :=
  ∃ A c, e = .returned (.slice A L.length c) ∧ Own w' 62 4 A c L.length (L.flatMap Dr.cells) ∧ New w w' ∧ ∀ k, Bk A k → w.heap.size ≤ k
theorem rows_take {xs : List (Int × Int × Int)} {k : Nat} {x : Int × Int × Int} (h : xs[k]? = some x) (n : List UInt8) : ((xs.take (k + 1)).map (drOf n)).flatMap Dr.cells = ((xs.take k).map (drOf n)).flatMap Dr.cells ++ (drOf n x).cells := by
  rw [take_get h, List.map_append, List.flatMap_append]
  simp
set_option maxRecDepth 100000 in
set_option maxHeartbeats 2000000 in
theorem rows_calls (w : World) (n : List UInt8) (A : Option Addr) (m c : Nat) (xs : List (Int × Int × Int)) (h : RdC w A (xs.flatMap dcells)) (hm : m = xs.length) (hb : m ≤ 1099511627776) :
    Calls Tryd.prog 44 #[.string (bstr n), .slice A m c] w (RowsPost w (xs.map (drOf n))) := by
  have HX := Lib.hid (And.intro h hm)
  clear h hm
  go_enter Tryd.func44, Tryd.ntmps44
  go_wp2_with fail
  go_loopw [5, 10] (fun s i wq => ∃ (k : Nat) (A1 : Option Addr) (c1 : Nat), s = .slice A1 k c1 ∧ i = .int .i64 (k : Int) ∧ k ≤ m ∧ Hid (Own wq 62 4 A1 c1 k (((xs.take k).map (drOf n)).flatMap Dr.cells) ∧ New w wq ∧ ∀ j, Bk A1 j → w.heap.size ≤ j)) (fun _ i _ => m - (intOf i).toNat)
  case atStart => exact ⟨0, none, 0, rfl, rfl, Nat.zero_le _, Lib.hid ⟨Own.nil _ _ _, Kp.refl _ _, fun j h => absurd h Bk.none_⟩⟩
  case round =>
    obtain ⟨k, A1, c1, rfl, rfl, hk, HI⟩ := hrel
    have hk0 : (0 : Int) ≤ k := by omega
    by_cases hlt : k < m
    · have hki : (k : Int) < (m : Int) := by omega
      obtain ⟨x, hx⟩ : ∃ x, xs[k]? = some x := ⟨_, List.getElem?_eq_getElem (by have := HX.out.2; omega)⟩
      obtain ⟨b, off, rfl, hcell⟩ := RdC.elem dcells_len (HX.out.1.new HI.out.2.1) (by decide) hx
      obtain ⟨d, ch, bl⟩ := x
      have c0 := hcell 0 _ rfl
      have c1' := hcell 1 _ rfl
      have c2 := hcell 2 _ rfl
      rw [Nat.add_zero] at c0
      have HR := Lib.hid (rows_take hx n)
      clear hx hcell
      have hownl := (HI.out.1.new (Kp.alloc _ wr (.cells #[.int .i64 d, .int .i64 ch, .int .i64 bl] 107)))
      have HO := Lib.hid hownl
      clear hownl
      go_wp2_with (at_builtin; refine wpList_append_src _ rfl (.tmp 14) (.tmp 25) 54 54 rfl 62 _ 4 40 Tryd.underlying54 Tryd.info_dr rfl A1 c1 k (((xs.take k).map (drOf n)).flatMap Dr.cells) rfl (HO.out.new (Kp.alloc _ _ _)) (.slice (some ⟨wr.heap.size + 1, 0, none⟩) 1 1) rfl 1 _ (Src.ofRow Tryd.underlying54 (alloc2_new wr _ _) 4 1 1 rfl (by simp [Value.oneCell'])) (by omega) (by omega) ?_; intro A3 c3 w3 h31 h32 h33; have H3 := Lib.hid (And.intro h31 (And.intro h32 h33)); clear h31 h32 h33)
      have hk3 : Kp (Bk A1) wr w3 := ((Kp.alloc _ wr (.cells #[.int .i64 d, .int .i64 ch, .int .i64 bl] 107)).trans (Kp.alloc _ _ _) (U := fun _ => False) (fun _ _ (h : False) => h) (fun _ _ (h : False) => h)).trans H3.out.2.1 (fun _ _ (h : False) => h.elim) (fun _ _ h => h)
      refine ⟨⟨k + 1, A3, c3, rfl, by go_num, by omega, Lib.hid ⟨?_, HI.out.2.1.trans hk3 (fun _ _ h => h) (fun j hj h => by have := HI.out.2.2 j h; omega), fun j hj => ?_⟩⟩, by simp [intOf]; omega⟩
      · rw [HR.out]
        exact H3.out.1
      · rcases H3.out.2.2 j hj with h | h
        · exact HI.out.2.2 j h
        · have := HI.out.2.1.size
          simp at h
          omega
    · obtain rfl : k = m := by omega
      go_wp2_with fail
      go_ret
      have h := HI.out.1
      rw [List.take_of_length_le (by rw [HX.out.2]; exact Nat.le_refl _)] at h
      have e : k = (xs.map (drOf n)).length := by rw [List.length_map]; exact HX.out.2
      rw [e] at h
      exact ⟨A1, c1, by rw [← e]; rfl, h, HI.out.2⟩
end Go.Proofs.YtejmndfdmikfaaaDoor.Kit
