/- daily.told: an account's days with rows more. -/
import Derived.Test.YtejmndfdmikfaaaDoorGroup9
import Derived.Test.YtejmndfdmikfaaaDoorFork
namespace Go.Proofs.YtejmndfdmikfaaaDoor.Kit
open Go Go.RowKit

/-- A row as a day and an amount. -/
abbrev Pst.da (p : Pst) : Int × Int := (p.day, p.amt)
theorem grp_mem (l : List (Int × Int)) : ∀ x ∈ grp l, x.2.length ≤ l.length ∧ ∀ a ∈ x.2, ∃ r ∈ l, r.2 = a := by
  have key : ∀ (l m : List (Int × Int)) (g : List (Int × List Int)), (∀ x ∈ g, x.2.length ≤ m.length ∧ ∀ a ∈ x.2, ∃ r ∈ m, r.2 = a) → ∀ x ∈ l.foldl addG g, x.2.length ≤ (m ++ l).length ∧ ∀ a ∈ x.2, ∃ r ∈ m ++ l, r.2 = a := by
    intro l
    induction l with
    | nil => intro m g h; rw [List.append_nil]; exact h
    | cons r l ih =>
      intro m g h
      rw [List.foldl_cons]
      have := ih (m ++ [r]) (addG g r) ?_
      · rw [List.append_assoc] at this
        exact this
      · intro x hx
        have hat : ∀ y ∈ atG g r.1, y.2.length ≤ m.length ∧ ∀ a ∈ y.2, ∃ q ∈ m, q.2 = a := by
          intro y hy
          rcases atG_mem y hy with h1 | rfl
          · exact h y h1
          · exact ⟨Nat.zero_le _, fun a ha => by cases ha⟩
        obtain ⟨j, y, hy, rfl⟩ := mem_modify hx
        obtain ⟨h1, h2⟩ := hat y (List.mem_of_getElem? hy)
        rw [List.length_append]
        split
        · refine ⟨by simp; omega, fun a ha => ?_⟩
          rcases List.mem_append.1 ha with ha | ha
          · obtain ⟨q, hq, e⟩ := h2 a ha
            exact ⟨q, List.mem_append_left _ hq, e⟩
          · obtain rfl := List.mem_singleton.1 ha
            exact ⟨r, List.mem_append_right _ (List.mem_singleton.2 rfl), rfl⟩
        · refine ⟨by omega, fun a ha => ?_⟩
          obtain ⟨q, hq, e⟩ := h2 a ha
          exact ⟨q, List.mem_append_left _ hq, e⟩
  have := key l [] [] (fun x hx => by cases hx)
  unfold grp
  simpa using this
def ToldI (w : World) (b : Nat) (l : List (Int × Int)) (wr : World) : Prop := ∃ A c gs, BoxG wr b A c gs ∧ Gs.abs gs = grp l ∧ New w wr ∧ ∀ k, Foot b A gs k → w.heap.size ≤ k
def ToldPost (w : World) (l : List (Int × Int)) (e : Ending) (w' : World) : Prop :=
  (FitD l ∧ ∃ A c, e = .returned (.tuple #[.slice A (days l).length c, .bool true]) ∧ Own w' 107 3 A c (days l).length ((days l).flatMap dcells) ∧ New w w' ∧ ∀ k, Bk A k → w.heap.size ≤ k) ∨
  (¬ FitD l ∧ e = .returned (.tuple #[.slice none 0 0, .bool false]) ∧ New w w')
/-- What the third loop holds. -/
def OutI (Wq : World) (g : List (Int × List Int)) (q : Nat) (A3 : Option Addr) (c3 : Nat) (wr : World) : Prop :=
  Own wr 107 3 A3 c3 (outG g q).length ((outG g q).flatMap dcells) ∧ New Wq wr ∧ (∀ k, Bk A3 k → Wq.heap.size ≤ k) ∧ amtD (balG g q) ∧ ∀ (k : Nat) x, k < q → g[k]? = some x → amtD x.2.sum ∧ amtD (balG g (k + 1))
theorem amtD_zero : amtD 0 := ⟨by decide, by decide⟩
theorem sumV_ok {l : List Int} (h : amtD l.sum) : sumV l = .tuple #[.int .i64 l.sum, .int .i64 0] := if_pos h
theorem sumV_bad {l : List Int} (h : ¬ amtD l.sum) : sumV l = .tuple #[.int .i64 0, .int .i64 11] := if_neg h
theorem addM_ok {a b : Int} (h : amtD (a + b)) : addM a b = .tuple #[.int .i64 (a + b), .int .i64 0] := if_pos h
theorem addM_bad {a b : Int} (h : ¬ amtD (a + b)) : addM a b = .tuple #[.int .i64 0, .int .i64 11] := if_neg h
theorem Tryd.info_sums : (Tryd.prog.info? 107).map (fun i => (i.zero, i.size, i.bytes)) = some (some (.agg #[.int .i64 0, .int .i64 0, .int .i64 0]), 3, 24) := by kernel_rfl
theorem Tryd.info_n64 : (Tryd.prog.info? 2).map (fun i => (i.zero, i.size, i.bytes)) = some (some (.int .i64 0), 1, 8) := by kernel_rfl
set_option maxRecDepth 100000 in
set_option maxHeartbeats 8000000 in
theorem told_calls (w : World) (A B : Option Addr) (n c m cb : Nat) (l0 : List (Int × Int)) (ps : List Pst) (hA : RdC w A ((days l0).flatMap dcells)) (hn : n = (days l0).length) (hB : RdP w B ps) (hm : m = ps.length) (hf : FitD l0) (hp : ∀ p ∈ ps, amtD p.amt) (hb : n + m ≤ 4294967296) :
    Calls Tryd.prog 42 #[.slice A n c, .slice B m cb] w (ToldPost w (l0 ++ ps.map Pst.da)) := by
  have hmo : Tryd.prog.follows Departure.mixedOrders = true := by kernel_rfl
  have HX := Lib.hid (And.intro hA (And.intro hn (And.intro hB (And.intro hm (And.intro hf hp)))))
  clear hA hn hB hm hf hp
  go_enter Tryd.func42, Tryd.ntmps42
  go_wp2_with fail
  obtain ⟨W0, hW0⟩ : ∃ W0, (w.alloc (.cells #[] 125)).alloc (.cells #[.slice (some ⟨w.heap.size, 0, none⟩) 0 0] 120) = W0 := ⟨_, rfl⟩
  rw [hW0]
  have hI0 : ToldI w (w.heap.size + 1) [] W0 := by
    have n0 : New w W0 := hW0 ▸ (Kp.alloc _ _ _).trans (Kp.alloc _ _ _) (fun _ _ h => h) (fun _ _ h => h)
    have b0 : W0.heap[w.heap.size + 1]? = some (.cells #[.slice (some ⟨w.heap.size, 0, none⟩) 0 0] 120 (0, 0)) := by
      have := heap_alloc_new (w.alloc (.cells #[] 125)) (.cells #[.slice (some ⟨w.heap.size, 0, none⟩) 0 0] 120)
      rw [World.size_alloc, hW0] at this
      exact this
    have b1 : W0.heap[w.heap.size]? = some (.cells #[] 125 (0, 0)) := by
      rw [← hW0, Below.heap_alloc _ _ _ (by simp)]
      exact heap_alloc_new w _
    refine ⟨some ⟨w.heap.size, 0, none⟩, 0, [], ⟨b0, ⟨rfl, .inr ⟨w.heap.size, #[], rfl, b1, Nat.le_refl _, Nat.zero_le _, by simp, rfl⟩⟩, fun x hx => by (cases hx), ?_⟩, rfl, n0, ?_⟩
    · simp [bks, blks, Gs.sls]
    · rintro k (rfl | hk | hk)
      · omega
      · have : w.heap.size = k := Bk.some_.1 hk
        omega
      · cases hk
  have HI0 := Lib.hid hI0
  clear hI0 hW0
  go_loopw [21] (fun i wr => ∃ k : Nat, i = .int .i64 (k : Int) ∧ k ≤ n ∧ Hid (ToldI w (w.heap.size + 1) ((canon l0).take k) wr)) (fun i _ => n - (intOf i).toNat)
  case atStart => exact ⟨0, rfl, Nat.zero_le _, HI0⟩
  case round =>
    obtain ⟨k, rfl, hk, HI⟩ := hrel
    have hk0 : (0 : Int) ≤ k := by omega
    by_cases hlt : k < n
    · have hki : (k : Int) < (n : Int) := by omega
      obtain ⟨x, hx⟩ : ∃ x, (days l0)[k]? = some x := ⟨_, List.getElem?_eq_getElem (by have := HX.out.2.1; omega)⟩
      obtain ⟨A1, cg, gs, hB, habs, hn1, hft⟩ := HI.out
      obtain ⟨b1, off, rfl, hcell⟩ := RdC.elem dcells_len (HX.out.1.new hn1) (by decide) hx
      obtain ⟨d, ch, bl⟩ := x
      have c0 := hcell 0 _ rfl
      have c1 := hcell 1 _ rfl
      have c2 := hcell 2 _ rfl
      rw [Nat.add_zero] at c0
      have hcg := days_get l0 k hx
      have hrise : RiseD (Gs.abs gs) := by rw [habs]; exact (grp_isG _).rise
      have hlen : gs.length ≤ 4294967296 := by
        have h1 : (Gs.abs gs).length = gs.length := List.length_map _
        have h2 := grp_length ((canon l0).take k)
        rw [habs] at h1
        rw [List.length_take] at h2
        omega
      have hnew : ∀ y ∈ gs, y.1 ≠ d := by
        intro y hy e
        have h1 : (y.1, y.2.l) ∈ Gs.abs gs := List.mem_map.2 ⟨y, hy, rfl⟩
        rw [habs] at h1
        obtain ⟨r, hr, er⟩ := (grp_isG _).of _ h1
        obtain ⟨j, hj⟩ := List.getElem?_of_mem hr
        rw [List.getElem?_take] at hj
        split at hj
        · rename_i hjk
          have hp := List.pairwise_iff_getElem.1 (canon_rise l0) j k (List.getElem?_eq_some_iff.1 hj).1 (List.getElem?_eq_some_iff.1 hcg).1 hjk
          rw [(List.getElem?_eq_some_iff.1 hj).2, (List.getElem?_eq_some_iff.1 hcg).2] at hp
          have h3 : r.1 = d := er.trans e
          have h4 : r.1 < d := hp
          omega
        · cases hj
      obtain ⟨s, hs⟩ := atSl_at gs d
      obtain rfl := atSl_new hnew hs
      have hstep : ∀ (V : World) (g c' : Nat) (s' : Sl Int), s'.l = [ch] → BoxG V (w.heap.size + 1) (some ⟨g, 0, none⟩) c' ((atSl gs d).set (place gs d) (d, s')) → New w V → (∀ k, Foot (w.heap.size + 1) (some ⟨g, 0, none⟩) ((atSl gs d).set (place gs d) (d, s')) k → w.heap.size ≤ k) → ToldI w (w.heap.size + 1) ((canon l0).take (k + 1)) V := by
        intro V g c' s' hs' hV hn hF
        refine ⟨_, _, _, hV, ?_, hn, hF⟩
        rw [abs_add (a := ch) hs (by rw [hs']; rfl), habs, take_get hcg, grp_snoc]
      have HB := Lib.hid (And.intro hB (And.intro hn1 (And.intro hft (And.intro hrise (And.intro hlen (And.intro hs hstep))))))
      clear hx hcell hcg hB habs hn1 hft hrise hlen hnew hs hstep
      go_wp2_with fail
      obtain ⟨W1, hW1⟩ : ∃ W1, wr.alloc (.cells #[.int .i64 d, .int .i64 ch, .int .i64 bl] 107) = W1 := ⟨_, rfl⟩
      have n1 : New wr W1 := hW1 ▸ Kp.alloc _ _ _
      have q0 : W1.cell? ⟨wr.heap.size, 0, none⟩ = some (.int .i64 d) := by rw [← hW1]; exact (cell_of_block (heap_alloc_new wr _)).trans rfl
      have q1 : W1.cell? ⟨wr.heap.size, 1, none⟩ = some (.int .i64 ch) := by rw [← hW1]; exact (cell_of_block (heap_alloc_new wr _)).trans rfl
      have z1 : wr.heap.size < W1.heap.size := World.block_lt_of_cell? W1 _ q0
      rw [hW1]
      have nD : New wr W1.drew := n1.trans (Kp.drew _ _) (fun _ _ h => h) (fun _ _ h => h)
      have nV : New W1.drew (W1.drew.alloc (.cells #[.int .i64 ch] 2)) := Kp.alloc _ _ _
      have hAt := at_calls W1.drew (w.heap.size + 1) A1 cg gs d (HB.out.1.new nD) HB.out.2.2.2.1 HB.out.2.2.2.2.1
      have hAt2 := at_calls (W1.drew.alloc (.cells #[.int .i64 ch] 2)) (w.heap.size + 1) A1 cg gs d ((HB.out.1.new nD).new nV) HB.out.2.2.2.1 HB.out.2.2.2.2.1
      have HN := Lib.hid (And.intro nD (And.intro nV z1))
      have HW1 := Lib.hid hW1
      clear hW1 n1 nD nV z1
      have hold : ¬ (wr.heap.size = w.heap.size + 1 ∨ Bk A1 wr.heap.size) := by
        rintro (h | h)
        · have := HB.out.1.lt _ (.inl rfl); omega
        · have := HB.out.1.lt _ (.inr (.inl h)); omega
      have HO := Lib.hid hold
      clear hold
      refine wp_region_ways (fun w' => w'.cell? ⟨wr.heap.size, 0, none⟩ = some (.int .i64 d) ∧ w'.cell? ⟨wr.heap.size, 1, none⟩ = some (.int .i64 ch)) (t := (.get 0 (.get 1 (.get 3 (.get 4 (.get 5 (.two 2 (.one 6 (.get 7 (.one 8 .done))) 6 (.one 2 (.get 7 (.one 8 .done)))))))))) hmo (by kernel_rfl) ⟨by simpa using q0, by simpa using q1⟩ ?_
      iterate 5 (refine ways_get rfl rfl (fun K hK => ?_); apply Exists.intro; refine ⟨fun w hS => ?_, ?_⟩; (first | (have hS' := hS rfl; go_simp; with_reducible rfl) | (go_simp; with_reducible rfl)); (go_simp; refine hK _ ?_; clear hK K))
      refine ways_two rfl rfl rfl rfl (fun K hK => ?_) (fun K hK => ?_)
      · go_simp
        refine hAt.mono ?_
        rintro e w2 ⟨g, c', rfl, hB2, hk2, hg2⟩
        refine hK _ _ (fun _ => ⟨Kp.cell_of hk2 (by simpa using q0) HO.out, Kp.cell_of hk2 (by simpa using q1) HO.out⟩) ?_
        clear hK K
        (refine ways_one rfl rfl (fun K hK => ?_); go_simp)
        have nV2 : New w2 (w2.alloc (.cells #[.int .i64 ch] 2)) := Kp.alloc _ _ _
        have hat := (hB2.new nV2).at_ HB.out.2.2.2.2.2.1
        have hset := hB2.setSl (s' := ⟨some ⟨w2.heap.size, 0, none⟩, 1, [ch]⟩) HB.out.2.2.2.2.2.1 (nV2.mono fun _ _ h => h.elim) ⟨rfl, .inr ⟨w2.heap.size, _, rfl, heap_alloc_new w2 _, Nat.le_refl _, by simp [maxLen], by simp, rfl⟩⟩ (fun k hk => .inr fun hf => by
          have h1 := hB2.lt k hf
          have h2 : w2.heap.size = k := Bk.some_.1 hk
          omega)
        have HS := Lib.hid (And.intro hset (And.intro hk2 hg2))
        clear hset hk2 hg2 hB2 hAt hAt2
        obtain ⟨hat1, hat2⟩ := hat
        refine hK _ _ (fun _ => ⟨Kp.cell_of nV2 (Kp.cell_of HS.out.2.1 (by simpa using q0) HO.out) id, Kp.cell_of nV2 (Kp.cell_of HS.out.2.1 (by simpa using q1) HO.out) id⟩) ?_
        clear hK K
        iterate 1 (refine ways_get rfl rfl (fun K hK => ?_); apply Exists.intro; refine ⟨fun w hS => ?_, ?_⟩; (first | (have hS' := hS rfl; go_simp; with_reducible rfl) | (go_simp; with_reducible rfl)); (go_simp; refine hK _ ?_; clear hK K))
        (refine ways_one rfl rfl (fun K hK => ?_); go_simp)
        refine hK _ _ (no_need (by kernel_rfl)) ?_
        clear hK K
        refine ways_done ?_
        go_wp2_with fail
        have hsz : W1.heap.size ≤ w2.heap.size := HS.out.2.1.size
        have hnW : New w W1.drew := HB.out.2.1.trans HN.out.1 (fun _ _ h => h) (fun _ _ h => h)
        have hft : ∀ k, (k = w.heap.size + 1 ∨ Bk A1 k) → w.heap.size ≤ k := fun k h => HB.out.2.2.1 k (h.imp id .inl)
        have hn2 : New w w2 := hnW.trans HS.out.2.1 (fun _ _ h => h) (fun k hk h => by have := hft k h; omega)
        have hgg : w.heap.size ≤ g := by
          rcases HS.out.2.2 with h | h
          · exact hft g (.inr h)
          · have := hnW.size; omega
        have hn3 := hn2.trans HS.out.1.2.1 (U := fun _ => False) (fun _ _ h => h) (fun k hk h => by
          rcases h with h | h
          · omega
          · exact Bk.none_ h)
        refine ⟨⟨k + 1, by go_num, by omega, Lib.hid (HB.out.2.2.2.2.2.2 _ g c' _ rfl HS.out.1.1 hn3 fun j hj => ?_)⟩, by simp [intOf]; omega⟩
        rcases hj with h | h | h
        · omega
        · have : g = j := Bk.some_.1 h
          omega
        · rcases HS.out.1.2.2 j h with h | h
          · rw [blks_at] at h
            exact HB.out.2.2.1 j (.inr (.inr h))
          · have : w2.heap.size = j := Bk.some_.1 h
            have := hn2.size
            omega
      · go_simp
        refine hK _ _ (fun _ => ⟨Kp.cell_of HN.out.2.1 (by simpa using q0) id, Kp.cell_of HN.out.2.1 (by simpa using q1) id⟩) ?_
        clear hK K
        (refine ways_one rfl rfl (fun K hK => ?_); go_simp)
        refine hAt2.mono ?_
        rintro e w2 ⟨g, c', rfl, hB2, hk2, hg2⟩
        have hat := hB2.at_ HB.out.2.2.2.2.2.1
        obtain ⟨hat1, hat2⟩ := hat
        have hvb : ¬ (W1.heap.size = w.heap.size + 1 ∨ Bk A1 W1.heap.size) := by
          have h0 := HN.out.1.size
          rintro (h | h)
          · have := HB.out.1.lt _ (.inl rfl); simp at h0; omega
          · have := HB.out.1.lt _ (.inr (.inl h)); simp at h0; omega
        have hset := hB2.setSl (s' := ⟨some ⟨W1.heap.size, 0, none⟩, 1, [ch]⟩) HB.out.2.2.2.2.2.1 (Kp.refl _ _) (Own.kp (w := W1.drew.alloc (.cells #[.int .i64 ch] 2)) ⟨rfl, .inr ⟨W1.heap.size, _, rfl, heap_alloc_new W1.drew _, Nat.le_refl _, by simp [maxLen], by simp, rfl⟩⟩ hk2 (fun k hk h => hvb (by have e : W1.heap.size = k := Bk.some_.1 hk; rw [e]; exact h))) (fun k hk => .inr fun hf => by
          have e : W1.heap.size = k := Bk.some_.1 hk
          subst e
          rcases hf with h | h | h
          · exact hvb (.inl h)
          · rcases hg2 with h2 | h2
            · have e2 : g = W1.heap.size := Bk.some_.1 h
              exact hvb (.inr (e2 ▸ h2))
            · have e2 : g = W1.heap.size := Bk.some_.1 h
              simp at h2
              omega
          · rw [blks_at] at h
            have h1 := HB.out.1.lt _ (.inr (.inr h))
            have h0 := HN.out.1.size
            simp at h0
            omega)
        have HS := Lib.hid (And.intro hset (And.intro hk2 hg2))
        clear hset hk2 hg2 hB2 hAt hAt2
        refine hK _ _ (fun _ => ⟨Kp.cell_of HS.out.2.1 (Kp.cell_of HN.out.2.1 (by simpa using q0) id) HO.out, Kp.cell_of HS.out.2.1 (Kp.cell_of HN.out.2.1 (by simpa using q1) id) HO.out⟩) ?_
        clear hK K
        iterate 1 (refine ways_get rfl rfl (fun K hK => ?_); apply Exists.intro; refine ⟨fun w hS => ?_, ?_⟩; (first | (have hS' := hS rfl; go_simp; with_reducible rfl) | (go_simp; with_reducible rfl)); (go_simp; refine hK _ ?_; clear hK K))
        (refine ways_one rfl rfl (fun K hK => ?_); go_simp)
        refine hK _ _ (no_need (by kernel_rfl)) ?_
        clear hK K
        refine ways_done ?_
        go_wp2_with fail
        have hnW : New w (W1.drew.alloc (.cells #[.int .i64 ch] 2)) := (HB.out.2.1.trans HN.out.1 (fun _ _ h => h) (fun _ _ h => h)).trans HN.out.2.1 (fun _ _ h => h) (fun _ _ h => h)
        have hft : ∀ k, (k = w.heap.size + 1 ∨ Bk A1 k) → w.heap.size ≤ k := fun k h => HB.out.2.2.1 k (h.imp id .inl)
        have hn2 : New w w2 := hnW.trans HS.out.2.1 (fun _ _ h => h) (fun k hk h => by have := hft k h; omega)
        have hgg : w.heap.size ≤ g := by
          rcases HS.out.2.2 with h | h
          · exact hft g (.inr h)
          · have := hnW.size; omega
        have hn3 := hn2.trans HS.out.1.2.1 (U := fun _ => False) (fun _ _ h => h) (fun k hk h => by
          rcases h with h | h
          · omega
          · exact Bk.none_ h)
        refine ⟨⟨k + 1, by go_num, by omega, Lib.hid (HB.out.2.2.2.2.2.2 _ g c' _ rfl HS.out.1.1 hn3 fun j hj => ?_)⟩, by simp [intOf]; omega⟩
        rcases hj with h | h | h
        · omega
        · have : g = j := Bk.some_.1 h
          omega
        · rcases HS.out.1.2.2 j h with h | h
          · rw [blks_at] at h
            exact HB.out.2.2.1 j (.inr (.inr h))
          · have : W1.heap.size = j := Bk.some_.1 h
            have h1 := (HB.out.2.1.trans HN.out.1 (fun _ _ h => h) (fun _ _ h => h)).size
            simp at h1
            omega
    · obtain rfl : k = n := by omega
      have hcl : (canon l0).length = k := by rw [HX.out.2.1, days_length]
      have hI2 : ToldI w (w.heap.size + 1) (canon l0 ++ (ps.map Pst.da).take 0) wr := by
        have h := HI.out
        rw [List.take_of_length_le (by omega)] at h
        rw [List.take_zero, List.append_nil]
        exact h
      have HI2 := Lib.hid hI2
      have HC := Lib.hid hcl
      clear hI2 hcl
      go_wp2_with fail
      go_loopw [36] (fun i wq => ∃ j : Nat, i = .int .i64 (j : Int) ∧ j ≤ m ∧ Hid (ToldI w (w.heap.size + 1) (canon l0 ++ (ps.map Pst.da).take j) wq)) (fun i _ => m - (intOf i).toNat)
      case atStart => exact ⟨0, rfl, Nat.zero_le _, HI2⟩
      case round =>
        rename World => Wq
        obtain ⟨j, rfl, hj, HJ⟩ := hrel
        have hj0 : (0 : Int) ≤ j := by omega
        by_cases hjl : j < m
        · have hji : (j : Int) < (m : Int) := by omega
          obtain ⟨p, hp⟩ : ∃ p, ps[j]? = some p := ⟨_, List.getElem?_eq_getElem (by have := HX.out.2.2.2.1; omega)⟩
          obtain ⟨A1, cg, gs, hB, habs, hn1, hft⟩ := HJ.out
          obtain ⟨b2, off, rfl, hcell⟩ := RdP.at_ (HX.out.2.2.1.new hn1) hp
          obtain ⟨e0, e1, e2, e3, e4, e5, e6, e7, e8⟩ := hcell
          have hrise : RiseD (Gs.abs gs) := by rw [habs]; exact (grp_isG _).rise
          have hll : (canon l0 ++ (ps.map Pst.da).take j).length = k + j := by
            rw [List.length_append, List.length_take, List.length_map, HC.out]
            have := HX.out.2.2.2.1
            omega
          have hlen : gs.length ≤ 4294967296 := by
            have h1 : (Gs.abs gs).length = gs.length := List.length_map _
            have h2 := grp_length (canon l0 ++ (ps.map Pst.da).take j)
            rw [habs] at h1
            omega
          obtain ⟨s, hs⟩ := atSl_at gs p.day
          have hsl : s.l.length ≤ 4294967296 := by
            have h1 : (p.day, s.l) ∈ atG (Gs.abs gs) p.day := by
              rw [← abs_at]
              exact List.mem_map.2 ⟨(p.day, s), List.mem_of_getElem? hs, rfl⟩
            rcases atG_mem _ h1 with h2 | h2
            · rw [habs] at h2
              have := (grp_mem _ _ h2).1
              have : s.l.length ≤ (canon l0 ++ (ps.map Pst.da).take j).length := this
              omega
            · have : s.l = [] := congrArg Prod.snd h2
              rw [this]
              simp
          have hpm : (ps.map Pst.da)[j]? = some (p.day, p.amt) := by rw [List.getElem?_map, hp]; rfl
          have hstep : ∀ (V : World) (g c' : Nat) (s' : Sl Int), s'.l = s.l ++ [p.amt] → BoxG V (w.heap.size + 1) (some ⟨g, 0, none⟩) c' ((atSl gs p.day).set (place gs p.day) (p.day, s')) → New w V → (∀ k, Foot (w.heap.size + 1) (some ⟨g, 0, none⟩) ((atSl gs p.day).set (place gs p.day) (p.day, s')) k → w.heap.size ≤ k) → ToldI w (w.heap.size + 1) (canon l0 ++ (ps.map Pst.da).take (j + 1)) V := by
            intro V g c' s' hs' hV hn hF
            refine ⟨_, _, _, hV, ?_, hn, hF⟩
            rw [abs_add (a := p.amt) hs hs', habs, take_get hpm, ← List.append_assoc, grp_snoc]
          have HB := Lib.hid (And.intro hB (And.intro hn1 (And.intro hft (And.intro hrise (And.intro hlen (And.intro hs (And.intro hstep hsl)))))))
          clear hp hpm hB habs hn1 hft hrise hlen hs hstep hll hsl
          generalize p.day = d at e2 HB
          generalize p.amt = am at e6 HB
          go_wp2_with fail
          obtain ⟨W1, hW1⟩ : ∃ W1, Wq.alloc (.cells #[.int .i64 p.s, .int .i64 p.ln, .int .i64 d, .int .i64 p.kind, .string (bstr p.key), .string (bstr p.acct), .int .i64 am, .string (bstr p.tag), .string (bstr p.memo)] 35) = W1 := ⟨_, rfl⟩
          rw [hW1]
          have n1 : New Wq W1 := hW1 ▸ Kp.alloc _ _ _
          have q6 : W1.cell? ⟨Wq.heap.size, 6, none⟩ = some (.int .i64 am) := by rw [← hW1]; exact (cell_of_block (heap_alloc_new Wq _)).trans rfl
          have z1 : Wq.heap.size < W1.heap.size := World.block_lt_of_cell? W1 _ q6
          clear hW1 e0 e1 e2 e3 e4 e5 e6 e7 e8
          refine (at_calls W1 (w.heap.size + 1) A1 cg gs d (HB.out.1.new n1) HB.out.2.2.2.1 HB.out.2.2.2.2.1).mono ?_
          rintro e w2 ⟨g, c', rfl, hB2, hk2, hg2⟩
          have hold : ¬ (Wq.heap.size = w.heap.size + 1 ∨ Bk A1 Wq.heap.size) := by
            rintro (h | h)
            · have := HB.out.1.lt _ (.inl rfl); omega
            · have := HB.out.1.lt _ (.inr (.inl h)); omega
          have q6' := Kp.cell_of hk2 q6 hold
          have hat := (hB2.at_ HB.out.2.2.2.2.2.1).1
          unfold Sl.val at hat
          have hsne := hB2.sl_ne HB.out.2.2.2.2.2.1
          have hown := hB2.own _ (List.mem_of_getElem? HB.out.2.2.2.2.2.1)
          have H2 := Lib.hid (And.intro hB2 (And.intro hk2 (And.intro hg2 (And.intro hsne (And.intro hown (And.intro n1 z1))))))
          clear hB2 hk2 hg2 hsne hown n1 z1 hold q6
          go_wp2_with fail
          refine wp_region_line (fun w' => w'.cell? ⟨g, place gs d * 2 + 1, none⟩ = some (.slice s.A s.l.length s.c) ∧ w'.cell? ⟨Wq.heap.size, 6, none⟩ = some (.int .i64 am)) (pl := [(0, true), (1, true), (2, true), (3, true), (4, true), (5, true), (6, false), (7, false), (8, true), (9, false)]) hmo (by kernel_rfl) ⟨by simpa using hat, by simpa using q6'⟩ ?_
          iterate 6 (refine line_get rfl rfl (fun K hK => ?_); apply Exists.intro; refine ⟨fun w hS => ?_, ?_⟩; (first | (have hS' := hS rfl; go_simp; with_reducible rfl) | (go_simp; with_reducible rfl)); (go_simp; refine hK _ ?_; clear hK K))
          (refine line_do rfl rfl (fun K hK => ?_); go_simp)
          have nD : New w2 w2.drew := Kp.drew _ _
          have nV : New w2.drew (w2.drew.alloc (.cells #[.int .i64 am] 2)) := Kp.alloc _ _ _
          have nA := nD.trans nV (U := fun _ => False) (fun _ _ h => h) (fun _ _ h => h)
          refine hK _ _ (fun _ => ⟨Kp.cell_of nA hat id, Kp.cell_of nA q6' id⟩) ?_
          clear hK K
          refine line_do rfl rfl (fun K hK => ?_)
          refine wp_append_src _ (.tmp 46) (.tmp 49) 121 121 rfl 2 (.int .i64 0) 1 8 Tryd.underlying121 Tryd.info_n64 rfl s.A s.c s.l.length (icells s.l) rfl (H2.out.2.2.2.2.1.new nA) _ rfl 1 _ (Src.ofNew w2.drew Tryd.underlying121 #[.int .i64 am] 2 1 1 1 rfl (by simp [Value.oneCell'])) (by have := HB.out.2.2.2.2.2.2.2; omega) (by have := HB.out.2.2.2.2.2.2.2; omega) ?_
          intro A3 c3 w3 h31 h32 h33
          have hB3 := (H2.out.1.new nA)
          have hset := hB3.setSl (s' := ⟨A3, c3, s.l ++ [am]⟩) HB.out.2.2.2.2.2.1 h32 (by
            have e : (s.l ++ [am]).length = s.l.length + 1 := by simp
            show Own w3 _ 1 A3 c3 (s.l ++ [am]).length (icells (s.l ++ [am]))
            rw [e, icells, List.flatMap_append]
            exact h31) (fun k hk => (h33 k hk).imp id fun e hf => by subst e; exact Nat.lt_irrefl _ (hB3.lt _ hf))
          have hs1 : w3.cell? ⟨g, place gs d * 2 + 1, none⟩ = some (.slice s.A s.l.length s.c) := Kp.cell_of h32 (Kp.cell_of nA hat id) H2.out.2.2.2.1.1
          have hs2 : w3.frozen? ⟨g, place gs d * 2 + 1, none⟩ = false := (hB3.row.kp h32 fun k h1 h2 => H2.out.2.2.2.1.1 (by have e : g = k := Bk.some_.1 h1; rw [e]; exact h2)).frozen _
          have hz3 := h32.size
          simp only [Sl.val, List.length_append, List.length_cons, List.length_nil] at hset
          have HS := Lib.hid (And.intro hset (And.intro h33 nA))
          clear hset h31 h32 h33 hB3 nA nV nD hat q6'
          refine hK _ _ (no_need (by kernel_rfl)) ?_
          clear hK K
          iterate 1 (refine line_get rfl rfl (fun K hK => ?_); apply Exists.intro; refine ⟨fun w hS => ?_, ?_⟩; (first | (have hS' := hS rfl; go_simp; with_reducible rfl) | (go_simp; with_reducible rfl)); (go_simp; refine hK _ ?_; clear hK K))
          (refine line_do rfl rfl (fun K hK => ?_); go_simp)
          refine hK _ _ (no_need (by kernel_rfl)) ?_
          clear hK K
          refine line_nil ?_
          go_wp2_with fail
          have hft : ∀ k, (k = w.heap.size + 1 ∨ Bk A1 k) → w.heap.size ≤ k := fun k h => HB.out.2.2.1 k (h.imp id .inl)
          have hnW : New w W1 := HB.out.2.1.trans H2.out.2.2.2.2.2.1 (fun _ _ h => h) (fun _ _ h => h)
          have hn2 : New w w2 := hnW.trans H2.out.2.1 (fun _ _ h => h) (fun k hk h => by have := hft k h; omega)
          have hnA := hn2.trans HS.out.2.2 (U := fun _ => False) (fun _ _ h => h) (fun _ _ h => h)
          have hgg : w.heap.size ≤ g := by
            rcases H2.out.2.2.1 with h | h
            · exact hft g (.inr h)
            · have := hnW.size; omega
          have hsA : ∀ k, Bk s.A k → w.heap.size ≤ k := fun k hk => by
            have hm : k ∈ blks (Gs.sls (atSl gs d)) := mem_blks.2 ⟨s, List.mem_map.2 ⟨(d, s), List.mem_of_getElem? HB.out.2.2.2.2.2.1, rfl⟩, hk⟩
            rw [blks_at] at hm
            exact HB.out.2.2.1 k (.inr (.inr hm))
          have hn3 := hnA.trans HS.out.1.2.1 (U := fun _ => False) (fun _ _ h => h) (fun k hk h => by
            rcases h with h | h
            · omega
            · have := hsA k h; omega)
          refine ⟨⟨j + 1, by go_num, by omega, Lib.hid (HB.out.2.2.2.2.2.2.1 _ g c' _ rfl HS.out.1.1 hn3 fun q hq => ?_)⟩, by simp [intOf]; omega⟩
          rcases hq with h | h | h
          · omega
          · have : g = q := Bk.some_.1 h
            omega
          · rcases HS.out.1.2.2 q h with h | h
            · rw [blks_at] at h
              exact HB.out.2.2.1 q (.inr (.inr h))
            · rcases HS.out.2.1 q h with h | h
              · exact hsA q h
              · have := hnA.size
                have h0 := hn2.size
                simp at h
                omega
        · obtain rfl : j = m := by omega
          obtain ⟨L, hL⟩ : ∃ L, canon l0 ++ ps.map Pst.da = L := ⟨_, rfl⟩
          have hfit : FitD (l0 ++ ps.map Pst.da) ↔ FitD L := by rw [← hL]; exact (fit_app _ _).symm
          have hday : days (l0 ++ ps.map Pst.da) = days L := by rw [← hL]; exact (days_app _ _).symm
          have hLa : ∀ r ∈ L, amtD r.2 := by
            intro r hr
            rw [← hL] at hr
            rcases List.mem_append.1 hr with hr | hr
            · obtain ⟨h1, _⟩ := mem_canon.1 hr
              rw [h1]
              exact (HX.out.2.2.2.2.1 r.1).1
            · obtain ⟨p, hp, rfl⟩ := List.mem_map.1 hr
              exact HX.out.2.2.2.2.2 p hp
          obtain ⟨A1, cg, gs, hB, habs, hn1, hft⟩ := HJ.out
          rw [List.take_of_length_le (by rw [List.length_map]; have := HX.out.2.2.2.1; omega), hL] at habs
          have hLl : L.length ≤ 4294967296 := by
            rw [← hL, List.length_append, List.length_map, HC.out]
            have := HX.out.2.2.2.1
            omega
          obtain ⟨N, hN⟩ : ∃ N, gs.length = N := ⟨_, rfl⟩
          have hgl : (grp L).length = N := by rw [← habs, ← hN]; exact List.length_map _
          have hNb : N ≤ 4294967296 := by
            have := grp_length L
            omega
          have x0 : Wq.cell? ⟨w.heap.size + 1, 0, none⟩ = some (.slice A1 N cg) := by rw [← hN]; exact (cell_of_block hB.box).trans rfl
          have HG := Lib.hid (And.intro hB (And.intro habs (And.intro hn1 (And.intro hgl (And.intro hfit (And.intro hday (And.intro hLa hLl)))))))
          clear hL hfit hday hLa hB habs hn1 hft hN hgl hLl
          go_wp2_with fail
          go_loopw [12, 13, 55] (fun s12 s13 s55 wx => ∃ (q : Nat) (A3 : Option Addr) (c3 : Nat), s12 = .slice A3 (outG (grp L) q).length c3 ∧ s13 = .int .i64 (balG (grp L) q) ∧ s55 = .int .i64 (q : Int) ∧ q ≤ N ∧ Hid (OutI Wq (grp L) q A3 c3 wx)) (fun _ _ i _ => N - (intOf i).toNat)
          case atStart => exact ⟨0, none, 0, rfl, rfl, rfl, Nat.zero_le _, Lib.hid ⟨Own.nil _ _ _, Kp.refl _ _, fun k h => absurd h Bk.none_, amtD_zero, fun k x h => absurd h (Nat.not_lt_zero _)⟩⟩
          case round =>
            rename World => Wx
            obtain ⟨q, A3, c3, rfl, rfl, rfl, hq, HK⟩ := hrel
            have hq0 : (0 : Int) ≤ q := by omega
            obtain ⟨bq, hbq⟩ : ∃ bq, balG (grp L) q = bq := ⟨_, rfl⟩
            obtain ⟨oc, hoc⟩ : ∃ oc, (outG (grp L) q).length = oc := ⟨_, rfl⟩
            have hocq : oc ≤ 4294967296 := by have := outG_length (grp L) q; omega
            rw [hbq, hoc]
            have HQ := Lib.hid (And.intro hbq hoc)
            clear hbq hoc
            by_cases hql : q < N
            · have hqi : (q : Int) < (N : Int) := by omega
              obtain ⟨x, hx⟩ : ∃ x, gs[q]? = some x := ⟨_, List.getElem?_eq_getElem (by have h1 := HG.out.2.2.2.1; have h2 := HG.out.2.1; have h3 : (Gs.abs gs).length = gs.length := List.length_map _; rw [h2] at h3; omega)⟩
              have hgx : (grp L)[q]? = some (x.1, x.2.l) := by rw [← HG.out.2.1]; unfold Gs.abs; rw [List.getElem?_map, hx]; rfl
              have hBx := HG.out.1.new HK.out.2.1
              obtain ⟨b3, off, rfl, hcell⟩ := RdC.elem gcells_len hBx.row.rdc (by decide) hx
              obtain ⟨d, s⟩ := x
              have c0 := hcell 0 _ rfl
              have c1 := hcell 1 _ rfl
              rw [Nat.add_zero] at c0
              unfold Sl.val at c1
              have hown := hBx.own _ (List.mem_of_getElem? hx)
              have hmem := grp_mem L _ (List.mem_of_getElem? hgx)
              have hsl : s.l.length ≤ 4294967296 := by
                have h1 : s.l.length ≤ L.length := hmem.1
                have := HG.out.2.2.2.2.2.2.2
                omega
              have hsa : ∀ a ∈ s.l, amtD a := fun a ha => by
                obtain ⟨r, hr, e⟩ := hmem.2 a ha
                rw [← e]
                exact HG.out.2.2.2.2.2.2.1 r hr
              obtain ⟨W1, hW1⟩ : ∃ W1, Wx.alloc (.cells #[.int .i64 d, .slice s.A s.l.length s.c] 125) = W1 := ⟨_, rfl⟩
              have n1 : New Wx W1 := hW1 ▸ Kp.alloc _ _ _
              have p0 : W1.cell? ⟨Wx.heap.size, 0, none⟩ = some (.int .i64 d) := by rw [← hW1]; exact (cell_of_block (heap_alloc_new Wx _)).trans rfl
              have hSum := Sum_calls W1 s.A s.l.length s.c s.l ((hown.new n1).rdc) rfl hsa (by omega)
              have hbad : ¬ (amtD s.l.sum ∧ amtD (bq + s.l.sum)) → ∀ V, New Wx V → ToldPost w (l0 ++ ps.map Pst.da) (.returned (.tuple #[.slice none 0 0, .bool false])) V := by
                intro h V hV
                refine .inr ⟨fun hf => h ?_, rfl, (HG.out.2.2.1.trans HK.out.2.1 (fun _ _ h => h) (fun _ _ h => h)).trans hV (fun _ _ h => h) (fun _ _ h => h)⟩
                have := fit_at (grp_isG L) (HG.out.2.2.2.2.1.1 hf) hgx
                rw [balG_succ hgx, HQ.out.1] at this
                exact this
              have HW := Lib.hid hW1
              have HH := Lib.hid (And.intro n1 (And.intro hgx (And.intro hbad HK.out.2.2.2.1)))
              clear hx hcell hown hmem hsl hsa n1 hgx hbad hBx hW1
              by_cases hz : amtD s.l.sum
              · rw [sumV_ok hz] at hSum
                obtain ⟨z, hzz⟩ : ∃ z, s.l.sum = z := ⟨_, rfl⟩
                rw [hzz] at hSum hz
                have hAdd := AddG_calls W1 bq z (by have := HH.out.2.2.2; rw [HQ.out.1] at this; exact this) hz
                by_cases hbz : amtD (bq + z)
                · rw [addM_ok hbz] at hAdd
                  have HZ := Lib.hid (And.intro hzz (And.intro hz hbz))
                  clear hzz hz hbz
                  have hout := outG_succ HH.out.2.1
                  have hbal := balG_succ HH.out.2.1
                  have hpass : ∀ (k : Nat) x, k < q + 1 → (grp L)[k]? = some x → amtD x.2.sum ∧ amtD (balG (grp L) (k + 1)) := by
                    intro k x hk hx
                    rcases Nat.lt_succ_iff_lt_or_eq.1 hk with h | rfl
                    · exact HK.out.2.2.2.2 k x h hx
                    · rw [HH.out.2.1] at hx
                      cases hx
                      rw [hbal, HQ.out.1]
                      show amtD s.l.sum ∧ amtD (bq + s.l.sum)
                      rw [HZ.out.1]
                      exact HZ.out.2
                  have hbal' : balG (grp L) (q + 1) = bq + z := by rw [hbal, HQ.out.1]; show bq + s.l.sum = _; rw [HZ.out.1]
                  rw [HQ.out.1] at hout
                  have hsz : s.l.sum = z := HZ.out.1
                  simp only [hsz] at hout
                  have HR := Lib.hid (And.intro hout (And.intro hbal' hpass))
                  clear hout hbal hpass hbal' hsz
                  by_cases hz0 : z = 0
                  · have hz1 : (z != 0) = false := by simpa using hz0
                    have HZ0 := Lib.hid hz0
                    clear hz0
                    go_wp2_with fail
                    rw [HW.out]
                    refine hSum.mono ?_
                    rintro e w1 ⟨rfl, rfl⟩
                    clear hSum
                    go_wp2_with fail
                    refine hAdd.mono ?_
                    rintro e w1 ⟨rfl, rfl⟩
                    clear hAdd
                    go_wp2_with fail
                    have ho := HR.out.1
                    rw [if_pos HZ0.out, List.append_nil] at ho
                    refine ⟨⟨q + 1, A3, c3, by rw [ho, HQ.out.2], by rw [HR.out.2.1], by go_num, by omega, Lib.hid ⟨?_, ?_, HK.out.2.2.1, ?_, HR.out.2.2⟩⟩, by simp [intOf]; omega⟩
                    · rw [ho]
                      exact HK.out.1.new HH.out.1
                    · exact HK.out.2.1.trans HH.out.1 (fun _ _ h => h) (fun _ _ h => h)
                    · rw [HR.out.2.1]
                      exact HZ.out.2.2
                  · have hz1 : (z != 0) = true := by simpa using hz0
                    have HZ0 := Lib.hid hz0
                    clear hz0
                    go_wp2_with fail
                    rw [HW.out]
                    refine hSum.mono ?_
                    rintro e w1 ⟨rfl, rfl⟩
                    clear hSum
                    go_wp2_with fail
                    refine hAdd.mono ?_
                    rintro e w1 ⟨rfl, rfl⟩
                    clear hAdd
                    have hk1 := HK.out.1
                    rw [HQ.out.2] at hk1
                    have HK1 := Lib.hid (hk1.new HH.out.1)
                    clear hk1
                    go_wp2_with (at_builtin; refine wpList_append_src _ rfl (.tmp 77) (.tmp 84) 98 98 rfl 107 _ 3 24 Tryd.underlying98 Tryd.info_sums rfl A3 c3 oc ((outG (grp L) q).flatMap dcells) rfl (HK1.out.new (Kp.alloc _ _ _)) _ rfl 1 _ (Src.ofNew W1 Tryd.underlying98 #[.int .i64 d, .int .i64 z, .int .i64 (bq + z)] 107 3 1 1 rfl (by simp [Value.oneCell'])) (by omega) (by omega) ?_; intro A4 c4 w4 h41 h42 h43; have H4 := Lib.hid (And.intro h41 (And.intro h42 h43)); clear h41 h42 h43)
                    have ho := HR.out.1
                    rw [if_neg HZ0.out] at ho
                    have hl : (outG (grp L) (q + 1)).length = oc + 1 := by rw [ho, List.length_append, HQ.out.2]; rfl
                    have hk4 : Kp (Bk A3) Wx w4 := (HH.out.1.trans (Kp.alloc _ _ _) (U := fun _ => False) (fun _ _ h => h) (fun _ _ h => h)).trans H4.out.2.1 (fun _ _ (h : False) => h.elim) (fun _ _ h => h)
                    refine ⟨⟨q + 1, A4, c4, by rw [hl], by rw [HR.out.2.1], by go_num, by omega, Lib.hid ⟨?_, ?_, ?_, ?_, HR.out.2.2⟩⟩, by simp [intOf]; omega⟩
                    · rw [hl, ho, List.flatMap_append]
                      exact H4.out.1
                    · exact HK.out.2.1.trans hk4 (fun _ _ h => h) (fun k hk h => by have := HK.out.2.2.1 k h; omega)
                    · intro k hk
                      rcases H4.out.2.2 k hk with h | h
                      · exact HK.out.2.2.1 k h
                      · have h1 := HK.out.2.1.size
                        have h2 := HH.out.1.size
                        simp at h
                        omega
                    · rw [HR.out.2.1]
                      exact HZ.out.2.2
                · rw [addM_bad hbz] at hAdd
                  have HZ := Lib.hid (fun V hV => HH.out.2.2.1 (fun h => hbz (by rw [← hzz]; exact h.2)) V hV)
                  have HN := Lib.hid HH.out.1
                  clear hzz hz hbz HH
                  go_wp2_with fail
                  rw [HW.out]
                  refine hSum.mono ?_
                  rintro e w1 ⟨rfl, rfl⟩
                  clear hSum
                  go_wp2_with fail
                  refine hAdd.mono ?_
                  rintro e w1 ⟨rfl, rfl⟩
                  clear hAdd
                  go_wp2_with fail
                  go_ret2
                  exact HZ.out _ HN.out
              · rw [sumV_bad hz] at hSum
                have HZ := Lib.hid (fun V hV => HH.out.2.2.1 (fun h => hz h.1) V hV)
                have HN := Lib.hid HH.out.1
                clear hz HH
                go_wp2_with fail
                rw [HW.out]
                refine hSum.mono ?_
                rintro e w1 ⟨rfl, rfl⟩
                clear hSum
                go_wp2_with fail
                go_ret2
                exact HZ.out _ HN.out
            · obtain rfl : q = N := by omega
              have hN := HG.out.2.2.2.1
              have hall := outG_all L
              rw [hN] at hall
              have hfd : FitD L := fit_groups (grp_isG L) fun k x hx => HK.out.2.2.2.2 k x (by rw [← hN]; exact (List.getElem?_eq_some_iff.1 hx).1) hx
              have HF := Lib.hid (And.intro hall hfd)
              clear hN hall hfd
              go_wp2_with fail
              go_ret2
              have hlen : oc = (days (l0 ++ ps.map Pst.da)).length := by rw [HG.out.2.2.2.2.2.1, ← HF.out.1, HQ.out.2]
              refine .inl ⟨HG.out.2.2.2.2.1.2 HF.out.2, A3, c3, by rw [← hlen]; rfl, ?_, HG.out.2.2.1.trans HK.out.2.1 (fun _ _ h => h) (fun _ _ h => h), fun k hk => Nat.le_trans HG.out.2.2.1.size (HK.out.2.2.1 k hk)⟩
              have := HK.out.1
              rw [HF.out.1, ← HG.out.2.2.2.2.2.1] at this
              exact this
end Go.Proofs.YtejmndfdmikfaaaDoor.Kit
