/- store.Scan: the records of the frames that stand whole at the beginning, and how many bytes they have. -/
import Derived.Test.YtdgpnpagbhikoaaIter
import Derived.Test.YtdgpnpagbhikoaaLists
import Derived.RangeFuncFrom
import Derived.RangeFuncBox
namespace Go.Proofs.Ytdgpnpagbhikoaa.Kit
open Go Go.RowKit Go.Shelf
attribute [local go_sem] Oper.semAt_some

set_option maxHeartbeats 400000 in
theorem frames_calls (w : World) (v : Value) (A : Option Addr) (n c : Nat) (hv : v = .slice A n c) :
    Calls Try.prog 14 #[v] w fun e w' => e = .returned (.func (.func 15) #[] #[.pointer (some ⟨w.heap.size, 0, none⟩)]) ∧ w.alloc (.cells #[.slice A n c] 26) = w' := by
  subst hv
  go_enter Try.func14, Try.ntmps14
  go_wp2
  go_ret
  exact ⟨rfl, rfl⟩

/-- The records that the frames hold. -/
def recsOf (l : List UInt8) (xs : List (Nat × Nat)) : List (List UInt8) := xs.map fun x => (l.drop (x.1 + 8)).take x.2
/-- Where the last frame ends. -/
def endOf (xs : List (Nat × Nat)) : Nat := (xs.getLast?.map fun x => x.1 + 8 + x.2).getD 0

theorem Try.info_sb : (Try.prog.info? 26).map (fun i => (i.zero, i.size, i.bytes)) = some (some (.slice none 0 0), 1, 24) := by kernel_rfl

/-- What Scan's loop holds: the list so far, of new blocks, in its box; the end in its. -/
def ScanI (w : World) (l : List UInt8) (b4 b5 : Nat) (pre : List (FrIn l)) (W : World) : Prop :=
  ∃ A c xs, Boxed W b4 25 (.slice A xs.length c) ∧ Boxed W b5 3 (.int .i64 (endOf (pre.map Subtype.val) : Int)) ∧ OwnL W 26 5 A c xs ∧ xs.map BSl.l = recsOf l (pre.map Subtype.val) ∧
    (∀ k, k ∈ bks A ++ blks xs → b5 + 1 < k) ∧ b5 + 2 ≤ W.heap.size ∧ New w W

theorem ScanI.kept {w : World} {l : List UInt8} {b4 b5 B : Nat} (hw : w.heap.size ≤ B) : OwnFrom B (ScanI w l b4 b5) := by
  rintro s W W' row ⟨A, c, xs, h1, h2, h3, h4, h5, h6, h7⟩ hg hr
  have hne : ∀ k, (∃ cs e fr, W.heap[k]? = some (.cells cs e fr)) → some k ≠ row := by
    rintro k ⟨cs, e, fr, hk⟩ e'
    obtain ⟨_, o, ho, hc⟩ := hr k e'.symm
    rw [hk] at ho
    cases ho
    cases hc
  have hown : ∀ {e : TypeId} {sz n c : Nat} {A : Option Addr} {xs : List Value}, Go.Proofs.Ytdgpnpagbhikoaa.Kit.Own W e sz A c n xs → ∀ k, Bk A k → W'.heap[k]? = W.heap[k]? := by
    intro e sz n c A xs h k hb
    refine hg.block k (h.lt k hb) (hne k ?_)
    rcases h.2 with ⟨rfl, _⟩ | ⟨g, cur, rfl, hgg, _⟩
    · exact absurd hb Bk.none_
    · obtain rfl : g = k := Bk.some_.1 hb
      exact ⟨_, _, _, hgg⟩
  refine ⟨A, c, xs, h1.kept hg (hne _ ⟨_, _, _, h1⟩), h2.kept hg (hne _ ⟨_, _, _, h2⟩), h3.keep fun k hk => ?_, h4, h5, Nat.le_trans h6 hg.size, h7.trans (Kp.of_grown hg) (fun _ _ h => h) (fun k hk e => ?_)⟩
  · rcases List.mem_append.1 hk with hk | hk
    · exact hown h3.1 k (mem_bks.1 hk)
    · obtain ⟨x, hx, hb⟩ := mem_blks.1 hk
      exact hown (h3.2.1 x hx) k hb
  · have := (hr k e).1
    omega

theorem frs_length (l : List UInt8) : ∀ (f i : Nat), 8 * (frs f l i).length + i ≤ max l.length i := by
  intro f
  induction f with
  | zero => intro i; simp [frs]; omega
  | succ f ih =>
    intro i
    rw [frs]
    split
    · rename_i n hn
      have h8 : 8 + n ≤ l.length - i := by
        unfold frOne at hn
        split at hn
        · rename_i h
          cases hn
          have := h.2.2.1
          rwa [List.length_drop] at this
        · cases hn
      have := ih (i + 8 + n)
      simp only [List.length_cons]
      omega
    · simp
      omega
theorem endOf_snoc (xs : List (Nat × Nat)) (x : Nat × Nat) : endOf (xs ++ [x]) = x.1 + 8 + x.2 := by simp [endOf]
theorem recsOf_snoc (l : List UInt8) (xs : List (Nat × Nat)) (x : Nat × Nat) : recsOf l (xs ++ [x]) = recsOf l xs ++ [(l.drop (x.1 + 8)).take x.2] := by simp [recsOf]

theorem keeps_of_kp {S : Nat → Prop} {W W' : World} (h : Kp S W W') (hS : ∀ k, S k → ∃ cs e fr, W.heap[k]? = some (.cells cs e fr)) : KeepsOthers W W' := by
  refine ⟨h.size, fun k o ho hc => ?_⟩
  refine (h.block k (Array.getElem?_eq_some_iff.1 ho).1 fun hs => ?_).trans ho
  obtain ⟨cs, e, fr, hk⟩ := hS k hs
  rw [hk] at ho
  cases ho
  cases hc
theorem Own.isCells {w : World} {e : TypeId} {sz n c : Nat} {A : Option Addr} {xs : List Value} (h : Go.Proofs.Ytdgpnpagbhikoaa.Kit.Own w e sz A c n xs) {k : Nat} (hk : Bk A k) : ∃ cs e fr, w.heap[k]? = some (.cells cs e fr) := by
  rcases h.2 with ⟨rfl, _⟩ | ⟨g, cur, rfl, hg, _⟩
  · exact absurd hk Bk.none_
  · obtain rfl : g = k := Bk.some_.1 hk
    exact ⟨_, _, _, hg⟩

/-- What Scan answers. -/
def ScanPost (w : World) (l : List UInt8) (e : Ending) (w' : World) : Prop :=
  ∃ A c xs, e = .returned (.tuple #[.slice A xs.length c, .int .i64 (endOf (frs l.length l 0) : Int)]) ∧ OwnL w' 26 5 A c xs ∧ xs.map BSl.l = recsOf l (frs l.length l 0) ∧
    (∀ k, k ∈ bks A ++ blks xs → w.heap.size ≤ k) ∧ New w w'

set_option maxRecDepth 100000 in
set_option maxHeartbeats 2000000 in
theorem Scan_calls (w : World) (A : Option Addr) (n c : Nat) (l : List UInt8) (hl : RdB w A l) (hn : n = l.length) (hc : n ≤ c) (hb : c ≤ 9223372036854775807) (hA : ∀ k, Bk A k → k < w.heap.size) (hsmall : l.length ≤ 1099511627776) :
    Calls Try.prog 10 #[.slice A n c] w (ScanPost w l) := by
  subst hn
  refine (callsIn_wide (n := 2)).1 ?_
  refine callsIn_of_wp_marks Try.func10 rfl trivial ?_ rfl
  simp only [Try.ntmps10, List.size_toArray, List.length_cons, List.length_nil, Nat.reduceAdd, Nat.reduceSub, Array.replicate_succ, Array.replicate_zero, List.push_toArray, List.append_toArray, List.nil_append, List.cons_append]
  have H := Lib.hid hl
  have HA := Lib.hid hA
  clear hl hA
  gi_wp2_with (refine ⟨trivial, ?_⟩; gi_at_call 14; refine (callsIn_wide.2 (frames_calls _ _ A l.length c rfl)).mono ?_; rintro e w' ⟨rfl, rfl⟩)
  obtain ⟨W0, hW0⟩ : ∃ W0, ((w.alloc (.cells #[.slice none 0 0] 25)).alloc (.cells #[.int .i64 0] 3)).alloc (.cells #[.slice A l.length c] 26) = W0 := ⟨_, rfl⟩
  rw [hW0]
  have b4 : Boxed W0 w.heap.size 25 (.slice none 0 0) := hW0 ▸ ((Boxed.new w _ _).alloc _).alloc _
  have b5 : Boxed W0 (w.heap.size + 1) 3 (.int .i64 0) := hW0 ▸ (by have := (Boxed.new (w.alloc (.cells #[.slice none 0 0] 25)) 3 (.int .i64 0)).alloc (.cells #[.slice A l.length c] 26); rwa [World.size_alloc] at this)
  have bb : Boxed W0 (w.heap.size + 2) 26 (.slice A l.length c) := hW0 ▸ (by have := Boxed.new ((w.alloc (.cells #[.slice none 0 0] 25)).alloc (.cells #[.int .i64 0] 3)) 26 (.slice A l.length c); rwa [World.size_alloc, World.size_alloc] at this)
  have hsz : W0.heap.size = w.heap.size + 3 := by rw [← hW0]; simp
  have n0 : New w W0 := hW0 ▸ ((Kp.alloc _ w _).trans (Kp.alloc _ _ _) (fun _ _ h => h) (fun _ _ h => h)).trans (Kp.alloc _ _ _) (fun _ _ h => h) (fun _ _ h => h)
  clear hW0
  refine wpIn_rangeFunc_ownF (F := Fence.wide) rfl (by omega) (gf := 15) (lb := #[.pointer (some ⟨w.heap.size + 2, 0, none⟩)]) rfl trivial (enters_of Try.func15 (by kernel_rfl) rfl)
    (frames_stops (w.heap.size + 2) A c l hc ⟨hb, by omega⟩ (fun k => k = w.heap.size + 2 ∨ Bk A k) (.inl rfl) (fun k h => .inr h) W0 (fun k h => h.elim (fun h => by omega) (fun h => by have := HA.out k h; omega)) bb.cell (H.out.new n0))
    (fun h k => KeepsAt.trans h k) (fun W l o o' hl ho _ _ => ?kb) (Below.refl _ _) (fun _ => rfl)
    (ScanI w l w.heap.size (w.heap.size + 1)) (fun _ _ _ => False) (ScanI.kept (by omega)) (fun _ _ _ _ _ hs _ _ => hs) ⟨none, 0, [], b4, b5, OwnL.nil _ _ _, rfl, by simp [bks, blks], by omega, n0⟩
    (fun x => { tmps := #[.slice A l.length c, undef, .slice none 0 0, .int .i64 0, .pointer (some ⟨w.heap.size, 0, none⟩), .pointer (some ⟨w.heap.size + 1, 0, none⟩), .int .i64 (x.1.1 : Int), .slice (adv A c (x.1.1 + 8) 1) x.1.2 (c - (x.1.1 + 8)), .slice A l.length c, .func (.func 15) #[] #[.pointer (some ⟨w.heap.size + 2, 0, none⟩)], .int .i64 (x.1.1 : Int), .slice (adv A c (x.1.1 + 8) 1) x.1.2 (c - (x.1.1 + 8)), undef, undef, undef, undef, undef, undef, undef, undef, undef, undef, undef, undef], defers := [] }) ?assign ?body ?done ?stop
  case kb =>
    refine ⟨by simp [World.putObj], fun k hk => World.putObj_heap_other (fun e => ?_)⟩
    rcases hk with hk | hk
    · omega
    · have := HA.out k hk
      omega
  case assign =>
    intro L x W K hK
    simp only [encFr]
    gi_wp2
    exact hK
  case body =>
    rintro L pre x W ⟨A0, c0, xs, h1, h2, h3, h4, h5, h6, h7⟩ hlen
    have hmo : Try.prog.follows Departure.mixedOrders = true := by kernel_rfl
    have hxs : xs.length = pre.length := by have := congrArg List.length h4; simpa [recsOf] using this
    have hfl := frs_length l l.length 0
    have hx := x.2
    obtain ⟨⟨at_, m⟩, hat⟩ := x
    simp only at hx
    have hrec : RdB W (adv A c (at_ + 8) 1) ((l.drop (at_ + 8)).take m) := by
      have := (H.out.new h7).adv c (at_ + 8) (at_ + 8 + m) (by omega) hc
      rwa [show at_ + 8 + m - (at_ + 8) = m by omega] at this
    have hm : m = ((l.drop (at_ + 8)).take m).length := by simp; omega
    generalize hr : (l.drop (at_ + 8)).take m = rec at hrec hm
    subst hm
    have c4 := h1.cell
    have hlt := h3.lt
    have HX := Lib.hid (And.intro hxs (And.intro hrec (And.intro hr (And.intro h3 (And.intro h5 (And.intro h4 (And.intro h1 (And.intro h2 hlt))))))))
    have HW := Lib.hid h7
    clear hxs hrec hr h3 h5 h4 h1 h2 hlt h7
    gi_wp2
    refine wpIn_region_line (fun w' => w'.cell? ⟨w.heap.size, 0, none⟩ = some (.slice A0 xs.length c0)) (pl := [(0, true), (1, true), (2, false), (3, false), (4, false), (5, false)]) hmo (by kernel_rfl) (by kernel_rfl) (by simpa using c4) ?_
    iterate 2 (refine line_get rfl rfl (fun K hK => ?_); apply Exists.intro; refine ⟨fun w hS => ?_, ?_⟩; (first | (have hS' := hS rfl; go_simp; with_reducible rfl) | (go_simp; with_reducible rfl)); (go_simp; refine hK _ ?_; clear hK K))
    refine line_do rfl rfl (fun K hK => ?_)
    refine wp_append_src _ (.const (.slice none 0 0)) (.tmp 13) 26 26 rfl 5 (.int .u8 0) 1 1 Try.underlying26 Try.info_u8 rfl none 0 0 [] rfl (Own.nil _ _ _) _ rfl rec.length (bcs rec) (Src.ofRdB _ Try.underlying26 _ (HX.out.2.1.new (Kp.drew _ _))) (by omega) (by omega) ?_
    intro A2 c2 w1 hA2 hk2 hf2
    have hn1 : New W w1 := (Kp.drew _ _).trans hk2 (fun _ _ h => h) (fun _ _ h => absurd h Bk.none_)
    refine hK _ _ (fun _ => New.cell hn1 c4) ?_
    clear hK K
    refine line_do rfl rfl (fun K hK => ?_)
    go_simp
    refine hK _ _ (fun _ => New.cell (hn1.trans (Kp.alloc _ _ _) (fun _ _ h => h) (fun _ _ h => h)) c4) ?_
    clear hK K
    have hz1 := hn1.size
    have hrow : Go.Proofs.Ytdgpnpagbhikoaa.Kit.Own (w1.alloc (.cells #[.slice A2 rec.length c2] 26)) 26 1 A0 c0 xs.length (xs.map BSl.val) := (HX.out.2.2.2.1.1.new hn1).new (Kp.alloc _ _ _)
    refine line_do rfl rfl (fun K hK => ?_)
    refine wp_append_src _ (.tmp 12) (.tmp 15) 25 25 rfl 26 (.slice none 0 0) 1 24 Try.underlying25 Try.info_sb rfl A0 c0 xs.length _ rfl hrow _ rfl 1 _ (Src.ofNew _ Try.underlying25 #[.slice A2 rec.length c2] 26 1 1 1 rfl (by simp [Value.oneCell'])) (by have := HX.out.1; omega) (by have := HX.out.1; omega) ?_
    intro A3 c3 w3 hA3 hk3 hf3
    have hk13 : Kp (Bk A0) W w3 := hn1.trans ((Kp.alloc (fun _ => False) w1 _).trans hk3 (fun _ _ h => h.elim) (fun _ _ h => h)) (fun _ _ h => h.elim) (fun _ _ h => h)
    have hne0 : ∀ k, k ≤ w.heap.size + 2 → ¬ Bk A0 k := fun k hk hb => by
      have := HX.out.2.2.2.2.1 k (List.mem_append_left _ (mem_bks.2 hb))
      omega
    have c43 := hk13.cell_of c4 (hne0 _ (by show w.heap.size ≤ _; omega))
    have b43 : Boxed w3 w.heap.size 25 (.slice A0 xs.length c0) := (hk13.block _ HX.out.2.2.2.2.2.2.1.lt (hne0 _ (by omega))).trans HX.out.2.2.2.2.2.2.1
    have f43 := b43.frozen
    refine hK _ _ (fun _ => c43) ?_
    clear hK K
    refine line_do rfl rfl (fun K hK => ?_)
    go_simp
    refine hK _ _ (no_need (by kernel_rfl)) ?_
    clear hK K
    refine line_nil ?_
    go_simp
    have b53 : Boxed w3 (w.heap.size + 1) 3 (.int .i64 (endOf (pre.map Subtype.val) : Int)) := (hk13.block _ HX.out.2.2.2.2.2.2.2.1.lt (hne0 _ (by omega))).trans HX.out.2.2.2.2.2.2.2.1
    obtain ⟨w4, hw4⟩ : ∃ w4, w3.setCell ⟨w.heap.size, 0, none⟩ (.slice A3 (xs.length + 1) c3) = w4 := ⟨_, rfl⟩
    rw [hw4]
    have b44 : Boxed w4 w.heap.size 25 (.slice A3 (xs.length + 1) c3) := hw4 ▸ b43.set _
    have b54 : Boxed w4 (w.heap.size + 1) 3 (.int .i64 (endOf (pre.map Subtype.val) : Int)) := hw4 ▸ b53.kept (grownBy_setCell' _ _ _) (by simp)
    have hk34 : Kp (fun k => k = w.heap.size) w3 w4 := hw4 ▸ Kp.setCell _ _ _ rfl
    clear hw4 c43 f43
    have c54 := b54.cell
    have f54 := b54.frozen
    gi_wp2
    obtain ⟨w5, hw5⟩ : ∃ w5, w4.setCell ⟨w.heap.size + 1, 0, none⟩ (.int .i64 ((at_ : Int) + 8 + rec.length)) = w5 := ⟨_, rfl⟩
    rw [hw5]
    have b55 : Boxed w5 (w.heap.size + 1) 3 (.int .i64 ((at_ : Int) + 8 + rec.length)) := hw5 ▸ b54.set _
    have b45 : Boxed w5 w.heap.size 25 (.slice A3 (xs.length + 1) c3) := hw5 ▸ b44.kept (grownBy_setCell' _ _ _) (by simp)
    have hk45 : Kp (fun k => k = w.heap.size + 1) w4 w5 := hw5 ▸ Kp.setCell _ _ _ rfl
    clear hw5
    have hk35 : Kp (fun k => k = w.heap.size ∨ k = w.heap.size + 1) w3 w5 := hk34.trans hk45 (fun _ _ h => .inl h) (fun _ _ h => .inr h)
    have hk15 : Kp (fun k => k = w.heap.size ∨ k = w.heap.size + 1 ∨ Bk A0 k) W w5 := hk13.trans hk35 (fun _ _ h => .inr (.inr h)) (fun _ _ h => h.elim .inl (fun h => .inr (.inl h)))
    have hA2b : ∀ k, Bk A2 k → k = W.heap.size := fun k h => (hf2 k h).elim (fun h => absurd h Bk.none_) id
    have hA3b : ∀ k, Bk A3 k → Bk A0 k ∨ k = w1.heap.size + 1 := fun k h => (hf3 k h).imp id (fun h => by rw [h]; simp)
    have hA2w : Go.Proofs.Ytdgpnpagbhikoaa.Kit.Own w5 5 1 A2 c2 rec.length (bcs rec) := by
      have h1 := hA2.new (Kp.alloc (fun _ => False) w1 (.cells #[.slice A2 rec.length c2] 26))
      have h2 := h1.kp hk3 (fun k h => by
        have h2 := hA2b k h
        intro h0
        have := HX.out.2.2.2.2.2.2.2.2 k (List.mem_append_left _ (mem_bks.2 h0))
        omega)
      simp only [Nat.zero_add, List.nil_append] at h2
      exact h2.kp hk35 (fun k h => by have := hA2b k h; omega)
    have hA3w : Go.Proofs.Ytdgpnpagbhikoaa.Kit.Own w5 26 1 A3 c3 (xs.length + 1) (xs.map BSl.val ++ [BSl.val ⟨A2, c2, rec⟩]) := by
      refine Own.kp hA3 hk35 (fun k h => ?_)
      rcases hA3b k h with h | h
      · have := HX.out.2.2.2.2.1 k (List.mem_append_left _ (mem_bks.2 h))
        omega
      · omega
    refine ⟨keeps_of_kp hk15 ?_, ⟨hk15.size, fun k hk => ?_⟩, A3, c3, xs ++ [⟨A2, c2, rec⟩], ?_, ?_, ?_, ?_, ?_, ?_, ?_⟩
    · rintro k (rfl | rfl | hk)
      · exact ⟨_, _, _, HX.out.2.2.2.2.2.2.1⟩
      · exact ⟨_, _, _, HX.out.2.2.2.2.2.2.2.1⟩
      · exact Own.isCells HX.out.2.2.2.1.1 hk
    · have hkl : k < W0.heap.size := hk.elim (fun h => by omega) (fun h => by have := HA.out k h; omega)
      refine hk15.block k (by omega) ?_
      rintro (h | h | h)
      · rcases hk with hk | hk
        · omega
        · have := HA.out k hk
          omega
      · rcases hk with hk | hk
        · omega
        · have := HA.out k hk
          omega
      · exact hne0 k (by omega) h
    · rw [List.length_append]
      exact b45
    · rw [List.map_append, List.map_singleton, endOf_snoc]
      have : (((at_ + 8 + rec.length : Nat)) : Int) = (at_ : Int) + 8 + rec.length := by omega
      rw [this]
      exact b55
    · refine OwnL.push HX.out.2.2.2.1 ⟨A2, c2, rec⟩ hA2w hA3w (fun k hk => ?_) (fun k h => by rw [hA2b k h]; exact Nat.le_refl _) (fun k h => (hA3b k h).imp id (fun h => ⟨by omega, fun h2 => by have := hA2b k h2; omega⟩))
      have hlt := HX.out.2.2.2.2.2.2.2.2 k (List.mem_append_right _ hk)
      refine hk15.block k hlt ?_
      rintro (h | h | h)
      · have := HX.out.2.2.2.2.1 k (List.mem_append_right _ hk)
        omega
      · have := HX.out.2.2.2.2.1 k (List.mem_append_right _ hk)
        omega
      · exact (List.nodup_append.1 HX.out.2.2.2.1.2.2).2.2 k (mem_bks.2 h) k hk rfl
    · rw [List.map_append, List.map_append, HX.out.2.2.2.2.2.1, List.map_singleton, List.map_singleton, recsOf_snoc, HX.out.2.2.1]
    · intro k hk
      rcases List.mem_append.1 hk with hk | hk
      · rcases hA3b k (mem_bks.1 hk) with h | h
        · exact HX.out.2.2.2.2.1 k (List.mem_append_left _ (mem_bks.2 h))
        · omega
      · rw [blks_snoc] at hk
        rcases List.mem_append.1 hk with hk | hk
        · exact HX.out.2.2.2.2.1 k (List.mem_append_right _ hk)
        · have := hA2b k (mem_bks.1 hk)
          omega
    · have := hk15.size
      omega
    · refine HW.out.trans hk15 (fun _ _ h => h) ?_
      rintro k hk (h | h | h)
      · omega
      · omega
      · exact hne0 k (by omega) h
  case done =>
    rintro D ps W hD hS ⟨A0, c0, xs, h1, h2, h3, h4, h5, h6, h7⟩ hK
    have hmo : Try.prog.follows Departure.mixedOrders = true := by kernel_rfl
    have c4 := h1.cell
    have c5 := h2.cell
    rw [hS] at c5 h4
    have HX := Lib.hid (And.intro h3 (And.intro h4 (And.intro h5 (And.intro h6 h7))))
    clear h3 h4 h5 h7 h1 h2 hS
    gi_wp2
    refine wpIn_region_lineW (fun w' => w'.cell? ⟨w.heap.size, 0, none⟩ = some (.slice A0 xs.length c0) ∧ w'.cell? ⟨w.heap.size + 1, 0, none⟩ = some (.int .i64 (endOf (frs l.length l 0) : Int))) (pl := [(0, true), (1, true), (2, true), (3, true)]) hmo (by kernel_rfl) ⟨by simpa using c4, by simpa using c5⟩ ?_
    iterate 4 (refine line_get rfl rfl (fun K hK => ?_); apply Exists.intro; refine ⟨fun w hS => ?_, ?_⟩; (first | (have hS' := hS rfl; go_simp; with_reducible rfl) | (go_simp; with_reducible rfl)); (go_simp; refine hK _ ?_; clear hK K))
    refine line_nil ?_
    go_simp
    gi_wp2
    have hK' : W.drew.heap[D]? = some (.deferred (some [])) := hK
    refine ⟨by simp, .inl ⟨_, _, rfl, run_takeDeferred hK', ?_⟩⟩
    refine ⟨_, results_tmp2 rfl _ _ _, A0, c0, xs, rfl, ?_, HX.out.2.1, fun k hk => by have := HX.out.2.2.1 k hk; omega, ?_⟩
    · refine HX.out.1.keep fun k hk => World.putObj_heap_other (fun e => ?_)
      subst e
      rcases List.mem_append.1 hk with hk | hk
      · obtain ⟨cs, e, fr, hc⟩ := Own.isCells HX.out.1.1 (mem_bks.1 hk)
        rw [hK] at hc
        cases hc
      · obtain ⟨x, hx, hb⟩ := mem_blks.1 hk
        obtain ⟨cs, e, fr, hc⟩ := Own.isCells (HX.out.1.2.1 x hx) hb
        rw [hK] at hc
        cases hc
    · refine HX.out.2.2.2.2.trans (Kp.trans (Kp.drew (fun _ => False) W) (?_ : Kp (fun k => k = D) _ _) (fun _ _ h => h.elim) (fun _ _ h => h)) (fun _ _ h => h) (fun k hk e => by omega)
      exact ⟨rfl, rfl, rfl, by simp [World.putObj], fun k _ hk => World.putObj_heap_other hk⟩
  case stop =>
    rintro D c pre W _ _ h _
    exact h.elim
end Go.Proofs.Ytdgpnpagbhikoaa.Kit
