/- daily: the group of a day, made if there is none. -/
import Derived.Test.YtejmndfdmikfaaaDoorInsert
import Derived.Test.YtejmndfdmikfaaaDoorPlace9
import Derived.Test.YtejmndfdmikfaaaDoorMoney9
import Derived.OneCell
namespace Go.Proofs.YtejmndfdmikfaaaDoor.Kit
open Go Go.RowKit

theorem fl_take {α : Type} {f : α → List Value} {k : Nat} (hf : ∀ x, (f x).length = k) : ∀ (xs : List α) (n : Nat), (xs.take n).flatMap f = (xs.flatMap f).take (n * k)
  | [], n => by simp
  | x :: xs, 0 => by simp
  | x :: xs, n + 1 => by
    rw [List.take_succ_cons, List.flatMap_cons, List.flatMap_cons, fl_take hf xs n, List.take_append, hf, Nat.add_mul, Nat.one_mul, List.take_of_length_le (l := f x) (by rw [hf]; omega), Nat.add_sub_cancel]
theorem fl_drop {α : Type} {f : α → List Value} {k : Nat} (hf : ∀ x, (f x).length = k) : ∀ (xs : List α) (n : Nat), (xs.drop n).flatMap f = (xs.flatMap f).drop (n * k)
  | [], n => by simp
  | x :: xs, 0 => by simp
  | x :: xs, n + 1 => by
    rw [List.drop_succ_cons, List.flatMap_cons, fl_drop hf xs n, List.drop_append, hf, Nat.add_mul, Nat.one_mul, List.drop_of_length_le (l := f x) (by rw [hf]; omega), List.nil_append, Nat.add_sub_cancel]
abbrev Gs := List (Int × Sl Int)
/-- The groups that the entries show. -/
def Gs.abs (gs : Gs) : List (Int × List Int) := gs.map fun x => (x.1, x.2.l)
def Gs.sls (gs : Gs) : List (Sl Int) := gs.map (·.2)
/-- The day's group, made if there is none. -/
def atSl (gs : Gs) (d : Int) : Gs := if (gs[place gs d]?).map (·.1) = some d then gs else gs.take (place gs d) ++ (d, Sl.none_) :: gs.drop (place gs d)
theorem place_abs (gs : Gs) (d : Int) : place gs.abs d = place gs d := by
  unfold place Gs.abs
  rw [List.countP_map]
  rfl
theorem abs_at (gs : Gs) (d : Int) : (atSl gs d).abs = atG gs.abs d := by
  unfold atSl atG
  rw [place_abs]
  have e : ((gs.abs)[place gs d]?).map (·.1) = (gs[place gs d]?).map (·.1) := by
    unfold Gs.abs
    rw [List.getElem?_map, Option.map_map]
    rfl
  rw [e]
  split
  · rfl
  · simp [Gs.abs, List.map_take, List.map_drop, Sl.none_]
theorem abs_rise {gs : Gs} (h : RiseD gs.abs) : gs.Pairwise fun a b => a.1 < b.1 := (List.pairwise_map (f := fun x : Int × Sl Int => (x.1, x.2.l)) (R := fun a b : Int × List Int => a.1 < b.1)).1 h
/-- A box that holds groups of its own. -/
structure BoxG (w : World) (b : Nat) (A : Option Addr) (c : Nat) (gs : Gs) : Prop where
  box : w.heap[b]? = some (.cells #[.slice A gs.length c] 120 (0, 0))
  row : Own w 125 2 A c gs.length (gs.flatMap gcells)
  own : ∀ x ∈ gs, Own w 2 1 x.2.A x.2.c x.2.l.length (icells x.2.l)
  apart : (b :: (bks A ++ blks gs.sls)).Nodup
def Foot (b : Nat) (A : Option Addr) (gs : Gs) (k : Nat) : Prop := k = b ∨ Bk A k ∨ k ∈ blks gs.sls
theorem BoxG.lt {w : World} {b : Nat} {A : Option Addr} {c : Nat} {gs : Gs} (h : BoxG w b A c gs) : ∀ k, Foot b A gs k → k < w.heap.size := by
  rintro k (rfl | hk | hk)
  · exact (Array.getElem?_eq_some_iff.1 h.box).1
  · exact h.row.lt k hk
  · obtain ⟨x, hx, hB⟩ := mem_blks.1 hk
    obtain ⟨y, hy, rfl⟩ := List.mem_map.1 hx
    exact (h.own y hy).lt k hB
theorem BoxG.keep {w w' : World} {b : Nat} {A : Option Addr} {c : Nat} {gs : Gs} (h : BoxG w b A c gs) (hk : ∀ k, Foot b A gs k → w'.heap[k]? = w.heap[k]?) : BoxG w' b A c gs :=
  ⟨(hk b (.inl rfl)).trans h.box, h.row.keep fun k hB => hk k (.inr (.inl hB)), fun x hx => (h.own x hx).keep fun k hB => hk k (.inr (.inr (mem_blks.2 ⟨x.2, List.mem_map_of_mem (f := (·.2)) hx, hB⟩))), h.apart⟩
theorem BoxG.kp {w w' : World} {S : Nat → Prop} {b : Nat} {A : Option Addr} {c : Nat} {gs : Gs} (h : BoxG w b A c gs) (hk : Kp S w w') (hS : ∀ k, Foot b A gs k → ¬ S k) : BoxG w' b A c gs :=
  h.keep fun k hf => hk.block k (h.lt k hf) (hS k hf)
theorem BoxG.new {w w' : World} {b : Nat} {A : Option Addr} {c : Nat} {gs : Gs} (h : BoxG w b A c gs) (hk : New w w') : BoxG w' b A c gs := h.kp hk fun _ _ => id
theorem BoxG.not_row {w : World} {b : Nat} {A : Option Addr} {c : Nat} {gs : Gs} (h : BoxG w b A c gs) : ¬ Bk A b := fun hb => by
  have := (List.nodup_cons.1 h.apart).1
  exact this (List.mem_append_left _ (mem_bks.2 hb))
theorem BoxG.not_sl {w : World} {b : Nat} {A : Option Addr} {c : Nat} {gs : Gs} (h : BoxG w b A c gs) : b ∉ blks gs.sls := fun hb => by
  have := (List.nodup_cons.1 h.apart).1
  exact this (List.mem_append_right _ hb)
theorem BoxG.row_sl {w : World} {b : Nat} {A : Option Addr} {c : Nat} {gs : Gs} (h : BoxG w b A c gs) {k : Nat} (h1 : Bk A k) : k ∉ blks gs.sls := fun h2 => by
  have := (List.nodup_append.1 (List.nodup_cons.1 h.apart).2).2.2
  exact this k (mem_bks.2 h1) k h2 rfl
def AtPost (w : World) (b : Nat) (A : Option Addr) (gs : Gs) (d : Int) (e : Ending) (w' : World) : Prop :=
  ∃ g c', e = .returned (.pointer (some ⟨g, place gs d * 2 + 1, none⟩)) ∧ BoxG w' b (some ⟨g, 0, none⟩) c' (atSl gs d) ∧ Kp (fun k => k = b ∨ Bk A k) w w' ∧ (Bk A g ∨ w.heap.size ≤ g)
theorem blks_at (gs : Gs) (d : Int) : blks (atSl gs d).sls = blks gs.sls := by
  unfold atSl
  split
  · rfl
  · unfold Gs.sls
    rw [List.map_append, List.map_cons, blks_app, blks_cons]
    have e : bks (Sl.none_ : Sl Int).A = [] := rfl
    rw [e, List.nil_append, ← blks_app, ← List.map_append, List.take_append_drop]
theorem place_get_ne (gs : Gs) (d : Int) : (gs[place gs d]?).map (·.1) = some d ∨ place gs d = gs.length ∨ ∃ x, gs[place gs d]? = some x ∧ x.1 ≠ d := by
  cases h : gs[place gs d]? with
  | none =>
    have := List.getElem?_eq_none_iff.1 h
    have h2 := place_le gs d
    exact .inr (.inl (by omega))
  | some x =>
    by_cases e : x.1 = d
    · exact .inl (by simp [e])
    · exact .inr (.inr ⟨x, rfl, e⟩)
set_option maxRecDepth 100000 in
set_option maxHeartbeats 4000000 in
theorem at_calls (w : World) (b : Nat) (A : Option Addr) (c : Nat) (gs : Gs) (d : Int) (h : BoxG w b A c gs) (hr : RiseD gs.abs) (hb : gs.length ≤ 4294967296) :
    Calls Tryd.prog 59 #[.pointer (some ⟨b, 0, none⟩), .int .i64 d] w (AtPost w b A gs d) := by
  have hmo : Tryd.prog.follows Departure.mixedOrders = true := by kernel_rfl
  have hpl := placeOfG_calls w A gs.length c gs d h.row.rdc rfl (abs_rise hr) (by omega)
  obtain ⟨i, hi⟩ : ∃ i, place gs d = i := ⟨_, rfl⟩
  have hil : i ≤ gs.length := hi ▸ place_le gs d
  obtain ⟨n, hn⟩ : ∃ n, gs.length = n := ⟨_, rfl⟩
  have c0 : w.cell? ⟨b, 0, none⟩ = some (.slice A n c) := by rw [← hn]; exact (cell_of_block h.box).trans rfl
  have hcase := place_get_ne gs d
  rw [hi] at hcase hpl
  rw [hn] at hil hb hpl
  have HX := Lib.hid (And.intro h (And.intro hr (And.intro hi (And.intro hn hcase))))
  clear h hr hi hn hcase
  have hi0 : (0 : Int) ≤ i := by omega
  by_cases hthere : (gs[i]?).map (·.1) = some d
  · obtain ⟨x, hx, hxd⟩ := Option.map_eq_some_iff.1 hthere
    have hin : i < n := by
      have := (List.getElem?_eq_some_iff.1 hx).1
      have := HX.out.2.2.2.1
      omega
    have hini : (i : Int) < (n : Int) := by omega
    have hne : ¬ ((i : Int) = (n : Int)) := by omega
    obtain ⟨g, o, rfl, hcell⟩ := RdC.elem gcells_len HX.out.1.row.rdc (by decide) hx
    have d0 := hcell 0 _ rfl
    obtain ⟨g', hg'⟩ := HX.out.1.row.some_ (by have := HX.out.2.2.2.1; omega)
    cases hg'
    rw [hxd, Nat.zero_add, Nat.add_zero] at d0
    have HH := Lib.hid hthere
    clear hthere hx hxd hcell
    go_enter Tryd.func59, Tryd.ntmps59
    go_wp2_with fail
    refine hpl.mono ?_
    rintro e w1 ⟨rfl, hn1⟩
    have c1 := New.cell hn1 c0
    have d1 := New.cell hn1 d0
    have HN := Lib.hid hn1
    clear hn1 hpl c0 d0
    go_wp2_with fail
    go_ret
    have e1 : atSl gs d = gs := by
      unfold atSl
      rw [HX.out.2.2.1, if_pos HH.out]
    refine ⟨g, c, by rw [HX.out.2.2.1]; rfl, ?_, HN.out.mono fun _ _ h => h.elim, .inl (Bk.some_.2 rfl)⟩
    rw [e1]
    exact HX.out.1.new HN.out
  · have hsome : i = n ∨ (i < n ∧ ∃ x, gs[i]? = some x ∧ x.1 ≠ d) := by
      rcases HX.out.2.2.2.2 with h | h | ⟨x, h1, h2⟩
      · exact absurd h hthere
      · exact .inl (h.trans HX.out.2.2.2.1)
      · exact .inr ⟨by have := (List.getElem?_eq_some_iff.1 h1).1; have := HX.out.2.2.2.1; omega, x, h1, h2⟩
    have HH := Lib.hid hthere
    clear hthere
    have fin : ∀ (w1 w3 : World) (A3 : Option Addr) (c3 : Nat), New w w1 → Own w3 125 2 A3 c3 (n + 1) ((gs.flatMap gcells).take (i * 2) ++ [.int .i64 d, .slice none 0 0] ++ (gs.flatMap gcells).drop (i * 2)) →
        Kp (Bk A) (w1.alloc (.cells #[.int .i64 d, .slice none 0 0] 125)) w3 → (∀ k, Bk A3 k → Bk A k ∨ (w1.alloc (.cells #[.int .i64 d, .slice none 0 0] 125)).heap.size ≤ k) →
        ∃ g, A3 = some ⟨g, 0, none⟩ ∧ (∃ u, w3.cell? ⟨b, 0, none⟩ = some u) ∧ w3.frozen? ⟨b, 0, none⟩ = false ∧ AtPost w b A gs d (.returned (.pointer (some ⟨g, i * 2 + 1, none⟩))) (w3.setCell ⟨b, 0, none⟩ (.slice A3 (n + 1) c3)) := by
      intro w1 w3 A3 c3 hn1 ho hk hA
      obtain ⟨g, rfl⟩ := ho.some_ (by omega)
      obtain ⟨hB, hr, hi, hn, _⟩ := HX.out
      have n1 : New w (w1.alloc (.cells #[.int .i64 d, .slice none 0 0] 125)) := hn1.trans (Kp.alloc _ _ _) (fun _ _ h => h) (fun _ _ h => h)
      have k3 : Kp (Bk A) w w3 := n1.trans hk (fun _ _ h => h.elim) (fun _ _ h => h)
      have hbb : w3.heap[b]? = some (.cells #[.slice A gs.length c] 120 (0, 0)) := (k3.block b (hB.lt b (.inl rfl)) hB.not_row).trans hB.box
      have hlt3 : b < w3.heap.size := (Array.getElem?_eq_some_iff.1 hbb).1
      have hgb : g ≠ b := by
        rintro rfl
        rcases hA g (Bk.some_.2 rfl) with h | h
        · exact hB.not_row h
        · have := n1.size
          have := hB.lt g (.inl rfl)
          omega
      have hg0 : Bk A g ∨ w.heap.size ≤ g := (hA g (Bk.some_.2 rfl)).imp id fun h => Nat.le_trans n1.size h
      have hgs : g ∉ blks gs.sls := by
        intro hm
        rcases hg0 with h | h
        · exact hB.row_sl h hm
        · have := hB.lt g (.inr (.inr hm))
          omega
      have kset : Kp (fun k => k = b) w3 (w3.setCell ⟨b, 0, none⟩ (.slice (some ⟨g, 0, none⟩) (n + 1) c3)) := Kp.setCell _ _ _ rfl
      have e1 : atSl gs d = gs.take i ++ (d, Sl.none_) :: gs.drop i := by
        unfold atSl
        rw [hi, if_neg HH.out]
      have hlen : (atSl gs d).length = n + 1 := by
        rw [e1, List.length_append, List.length_cons, List.length_take, List.length_drop]
        omega
      have hrow : (atSl gs d).flatMap gcells = (gs.flatMap gcells).take (i * 2) ++ [.int .i64 d, .slice none 0 0] ++ (gs.flatMap gcells).drop (i * 2) := by
        rw [e1, List.flatMap_append, List.flatMap_cons, fl_take gcells_len, fl_drop gcells_len, List.append_assoc]
        rfl
      refine ⟨g, rfl, ⟨_, (cell_of_block hbb).trans rfl⟩, by simp [World.frozen?, hbb], g, c3, by rw [hi], ⟨?_, ?_, ?_, ?_⟩, ?_, hg0⟩
      · rw [hlen]
        exact one_setCell hbb
      · rw [hlen, hrow]
        exact ho.kp kset fun k hk e => hgb ((Bk.some_.1 hk).trans e)
      · intro x hx
        rw [e1] at hx
        have hx' : x ∈ gs ∨ x = (d, Sl.none_) := by
          rcases List.mem_append.1 hx with h | h
          · exact .inl (List.mem_of_mem_take h)
          · rcases List.mem_cons.1 h with h | h
            · exact .inr h
            · exact .inl (List.mem_of_mem_drop h)
        rcases hx' with h | rfl
        · have hm : ∀ k, Bk x.2.A k → k ∈ blks gs.sls := fun k hk => mem_blks.2 ⟨x.2, List.mem_map_of_mem (f := (·.2)) h, hk⟩
          exact ((hB.own x h).kp k3 fun k h1 h2 => hB.row_sl h2 (hm k h1)).kp kset fun k h1 e => hB.not_sl (e ▸ hm k h1)
        · exact Own.nil _ _ _
      · rw [blks_at]
        refine List.nodup_cons.2 ⟨fun hm => ?_, List.nodup_append.2 ⟨bks_nodup _, (List.nodup_append.1 (List.nodup_cons.1 hB.apart).2).2.1, fun k h1 k' h2 e => ?_⟩⟩
        · rcases List.mem_append.1 hm with h | h
          · exact hgb (Bk.some_.1 (mem_bks.1 h))
          · exact hB.not_sl h
        · subst e
          have : g = k := Bk.some_.1 (mem_bks.1 h1)
          exact hgs (this ▸ h2)
      · exact k3.trans kset (fun _ _ h => .inr h) (fun _ _ h => .inl h)
    have HF := Lib.hid fin
    clear fin
    have hA : ¬ Bk A w.heap.size := fun h => by have := HX.out.1.lt _ (.inr (.inl h)); omega
    rcases hsome with rfl | ⟨hin, x, hx, hxd⟩
    · have hin : (i : Int) = (i : Int) := rfl
      have HA := Lib.hid hA
      clear hA hil
      go_enter Tryd.func59, Tryd.ntmps59
      go_wp2_with fail
      refine hpl.mono ?_
      rintro e w1 ⟨rfl, hn1⟩
      have c1 := New.cell hn1 c0
      have HN := Lib.hid hn1
      clear hn1 hpl c0
      go_wp2_with fail
      refine (Insert_calls (w1.alloc (.cells #[.int .i64 d, .slice none 0 0] 125)) A c i i w1.heap.size (gs.flatMap gcells) (.int .i64 d) (.slice none 0 0) ?_ (by omega) (heap_alloc_new w1 _) ?_ (gcells_one gs) rfl rfl (by omega)).mono ?_
      · have h1 := ((HX.out.1.row.new HN.out).new (Kp.alloc _ w1 (.cells #[.int .i64 d, .slice none 0 0] 125)))
        rw [HX.out.2.2.2.1] at h1
        exact h1
      · intro h
        have := HX.out.1.lt _ (.inr (.inl h))
        have := HN.out.size
        omega
      rintro e w3 ⟨A3, c3, rfl, ho, hk, hA3⟩
      obtain ⟨g, rfl, ⟨u, hu⟩, hf, hP⟩ := HF.out w1 w3 A3 c3 HN.out ho hk hA3
      have HP := Lib.hid hP
      clear ho hk hA3 hP
      go_wp2_with fail
      go_ret
      exact HP.out
    · have hini : (i : Int) < (n : Int) := by omega
      have hne : ¬ ((i : Int) = (n : Int)) := by omega
      obtain ⟨g0, o, rfl, hcell⟩ := RdC.elem gcells_len HX.out.1.row.rdc (by decide) hx
      have d0 := hcell 0 _ rfl
      obtain ⟨g', hg'⟩ := HX.out.1.row.some_ (by have := HX.out.2.2.2.1; omega)
      cases hg'
      obtain ⟨y, hy⟩ : ∃ y, x.1 = y := ⟨_, rfl⟩
      rw [hy] at hxd
      rw [hy, Nat.zero_add, Nat.add_zero] at d0
      have hyd : (y != d) = true := by simpa using hxd
      have hor : (((i : Int) == (n : Int)) || y != d) = true := by rw [hyd, Bool.or_true]
      clear hcell hx hy hxd hA
      go_enter Tryd.func59, Tryd.ntmps59
      go_wp2_with fail
      refine hpl.mono ?_
      rintro e w1 ⟨rfl, hn1⟩
      have c1 := New.cell hn1 c0
      have d1 := New.cell hn1 d0
      have HN := Lib.hid hn1
      clear hn1 hpl c0 d0
      go_wp2_with fail
      refine (Insert_calls (w1.alloc (.cells #[.int .i64 d, .slice none 0 0] 125)) (some ⟨g0, 0, none⟩) c n i w1.heap.size (gs.flatMap gcells) (.int .i64 d) (.slice none 0 0) ?_ (by omega) (heap_alloc_new w1 _) ?_ (gcells_one gs) rfl rfl (by omega)).mono ?_
      · have h1 := ((HX.out.1.row.new HN.out).new (Kp.alloc _ w1 (.cells #[.int .i64 d, .slice none 0 0] 125)))
        rw [HX.out.2.2.2.1] at h1
        exact h1
      · intro h
        have := HX.out.1.lt _ (.inr (.inl h))
        have := HN.out.size
        omega
      rintro e w3 ⟨A3, c3, rfl, ho, hk, hA3⟩
      obtain ⟨g, rfl, ⟨u, hu⟩, hf, hP⟩ := HF.out w1 w3 A3 c3 HN.out ho hk hA3
      have HP := Lib.hid hP
      clear ho hk hA3 hP
      go_wp2_with fail
      go_ret
      exact HP.out
end Go.Proofs.YtejmndfdmikfaaaDoor.Kit
