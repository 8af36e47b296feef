/- disk.Append: bytes behind a file's. -/
import Derived.Test.YtekcoeonlfmebaaSync
import Derived.Test.YtekcoeonlfmebaaNew
namespace Go.Proofs.Ytekcoeonlfmebaa.Kit
open Go Go.RowKit

/-- The boxes of a call's disk, name and bytes. -/
def Bx3 (d B : Nat) (n : Nm) (v : Value) (w : World) : Prop := Bx2 d B n w ∧ Bx w (B + 1 + 1) 28 v
theorem Bx3.new {d B : Nat} {n : Nm} {v : Value} {w w' : World} (h : Bx3 d B n v w) (hk : New w w') : Bx3 d B n v w' := ⟨h.1.new hk, h.2.kp hk id⟩
theorem Bx3.kd {d B : Nat} {n : Nm} {v : Value} {w w' : World} (h : Bx3 d B n v w) (hk : Kp (fun k => k = d) w w') : Bx3 d B n v w' := ⟨h.1.kd hk, h.2.kp hk (fun e => by have := h.1.1; omega)⟩

def appErr (s : DS) (n : Nm) (m : Nat) : Nat := if s.there n ≠ 0 then s.there n else if s.cap < s.used + m then 30 else 0

set_option maxHeartbeats 2000000 in
theorem Append1_calls (w : World) (d B : Nat) (s : DS) (F : List Nat) (n : Nm) (A : Option Addr) (m c : Nat) (hB : Bx3 d B n (.slice A m c) w) (hD : DiskAt w d s F) (hn : n.length ≤ 9223372036854775807) (hm : m ≤ 9223372036854775807) :
    Calls Try.prog 41 #[.pointer (some ⟨B, 0, none⟩), .pointer (some ⟨B + 1, 0, none⟩), .pointer (some ⟨B + 1 + 1, 0, none⟩)] w fun e w' => e = .returned (.int .i64 (appErr s n m : Int)) ∧ New w w' := by
  have c0 := hB.1.2.1.cell
  have c1 := hB.1.2.2.cell
  have c2 := hB.2.cell
  have HB := Lib.hid hB
  have HD := Lib.hid hD
  have hcap := hD.ok.cap
  have hus := hD.ok.used
  unfold appErr
  clear hB hD
  by_cases ht : s.there n = 0
  · have ht' : ¬ s.there n ≠ 0 := fun h => h ht
    rw [if_neg ht']
    clear ht'
    by_cases hfit : s.cap < s.used + m
    all_goals
      first | rw [if_pos hfit] | rw [if_neg hfit]
      go_enter Try.func41, Try.ntmps41
      go_wp2_with fail
      refine (there_calls w d s F n HD.out hn).mono ?_
      rintro e w1 ⟨rfl, hn1⟩
      rw [ht]
      obtain ⟨bm, hb⟩ := (HD.out.new hn1).cells
      have g0 : w1.cell? ⟨d, 0, none⟩ = some (.int .i64 (s.cap : Int)) := (cell_of_block hb).trans rfl
      have g1 : w1.cell? ⟨d, 1, none⟩ = some (.int .i64 (s.used : Int)) := (cell_of_block hb).trans rfl
      have d0 := (HB.out.new hn1).1.2.1.cell
      have d1 := (HB.out.new hn1).1.2.2.cell
      have d2 := (HB.out.new hn1).2.cell
      have HN := Lib.hid hn1
      clear hn1 hb ht
      go_wp2_with fail
      go_quiet (fail)
      go_wp2_with fail
      go_ret
      exact ⟨rfl, HN.out.trans (Kp.drewN _ _ _) (fun _ _ h => h) (fun _ _ h => h)⟩
  · rw [if_pos ht]
    have hne : ((s.there n : Int) != 0) = true := by rw [bne_iff_ne]; omega
    clear ht
    go_enter Try.func41, Try.ntmps41
    go_wp2_with fail
    refine (there_calls w d s F n HD.out hn).mono ?_
    rintro e w1 ⟨rfl, hn1⟩
    have HN := Lib.hid hn1
    clear hn1
    go_wp2_with fail
    go_ret
    exact ⟨rfl, HN.out⟩

def appF (b : List UInt8) (f : Fl) : Fl := { f with data := f.data ++ b }
set_option maxRecDepth 100000 in
set_option maxHeartbeats 4000000 in
theorem Append2_calls (w : World) (d B : Nat) (s : DS) (F : List Nat) (n : Nm) (f : Fl) (A : Option Addr) (m c : Nat) (l : List UInt8) (hB : Bx3 d B n (.slice A m c) w) (hD : DiskAt w d s F) (hf : s.find n = some f) (hl : RdB w A l) (hm : m = l.length) (hfit : s.used + m ≤ s.cap) (hFB : ∀ k ∈ F, k < B) :
    Calls Try.prog 43 #[.pointer (some ⟨B, 0, none⟩), .pointer (some ⟨B + 1, 0, none⟩), .pointer (some ⟨B + 1 + 1, 0, none⟩)] w fun e w' => e = .returned (.tuple #[]) ∧ ∃ F', DiskAt w' d { s with files := updF n (appF l) s.files } F' ∧ Mv F F' w w' := by
  subst hm
  obtain ⟨bm, xs, hX, rfl⟩ := hD
  obtain ⟨x, l1, l2, rfl, rfl, hfn, hat⟩ := hX.look_some hf
  have c0 := hB.1.2.1.cell
  have c1 := hB.1.2.2.cell
  have c2 := hB.2.cell
  have c3 : w.cell? ⟨d, 2, none⟩ = some (.map (some bm)) := (cell_of_block hX.blk).trans rfl
  have hlk : ∀ j, (Instr.lookup 67 (.map (some bm)) (.string (bstr n)) false).run Try.prog (w.drewN j) = .ok (.pointer (some ⟨x.b, 0, none⟩)) (w.drewN j) := fun j => by rw [run_look_at (hX.map.drewN j) n, hat]; rfl
  have hxb := hX.mem_cut.1
  have f0 : w.cell? ⟨x.b, 0, none⟩ = some (.slice x.A x.f.data.length x.c) := (cell_of_block hxb).trans rfl
  have hused := used_upd hX.ok hf (appF l)
  have hxl : x.f.data.length ≤ s.used := by
    obtain ⟨_, l1, l2, hc, _⟩ := DS.find_cut hX.ok hf
    unfold DS.used
    rw [hc, used_app, used_cons]
    omega
  have hcap := hX.ok.cap
  have hmo : Try.prog.follows Departure.mixedOrders = true := by kernel_rfl
  have H := Lib.hid (And.intro hX (And.intro hf (And.intro hfn (And.intro hxb (And.intro hl (And.intro hB (And.intro hused hFB)))))))
  clear hX hf hfn hat hxb hB hl hused hFB
  go_enter Try.func43, Try.ntmps43
  go_wp2_with fail
  go_quiet (fail)
  go_wp2_with fail
  have n0 : New w (w.drewN nq) := Kp.drewN _ _ _
  have HN0 := Lib.hid n0
  refine wp_region_line (fun w' => w'.cell? ⟨x.b, 0, none⟩ = some (.slice x.A x.f.data.length x.c) ∧ w'.cell? ⟨B + 1 + 1, 0, none⟩ = some (.slice A l.length c)) (pl := [(0, true), (1, true), (2, true), (3, true), (4, true), (5, true), (6, false), (7, true), (8, true), (9, false)]) hmo (by kernel_rfl) ⟨by simpa using f0, by simpa using c2⟩ ?_
  iterate 6 (refine line_get rfl rfl (fun K hK => ?_); apply Exists.intro; refine ⟨fun w hS => ?_, ?_⟩; (first | (have hS' := hS rfl; go_simp; with_reducible rfl) | (go_simp; with_reducible rfl)); (go_simp; refine hK _ ?_; clear hK K))
  refine line_do rfl rfl (fun K hK => ?_)
  have n1 : New w (w.drewN nq).drew := n0.trans (Kp.drew _ _) (fun _ _ h => h) (fun _ _ h => h)
  refine wp_append_src _ (.tmp 14) (.tmp 15) 28 28 rfl 5 (.int .u8 0) 1 1 Try.underlying28 Try.info_u8 rfl x.A x.c x.f.data.length (bcs x.f.data) rfl (H.out.1.mem_cut.2.new n1) _ rfl l.length (bcs l) (Src.ofRdB _ Try.underlying28 c (H.out.2.2.2.2.1.new n1)) (by omega) (by omega) ?_
  intro A2 c2' w2 hA2 hk2 hb2
  have k02 : Kp (Bk x.A) w w2 := n1.trans hk2 (fun _ _ h => h.elim) (fun _ _ h => h)
  obtain ⟨m1, m2, m3⟩ := H.out.1.blk_ne
  have hAb : ¬ Bk x.A x.b := fun hb => by
    have := (List.nodup_append.1 (List.nodup_append.1 (fpD_cut d bm l1 l2 x ▸ H.out.1.own)).2.1).1
    exact (List.nodup_cons.1 this).1 (mem_bks.2 hb)
  have hAx : ∀ k, Bk x.A k → k ∈ x.blk := fun k hb => List.mem_cons_of_mem _ (mem_bks.2 hb)
  have hFm : ∀ k ∈ x.blk, k ∈ fpD d bm (l1 ++ x :: l2) := fun k hk => by rw [fpD_cut]; exact List.mem_append_right _ (List.mem_append_left _ hk)
  have hlB : ∀ k ∈ x.blk, k < B := fun k hk => H.out.2.2.2.2.2.2.2 k (hFm k hk)
  have b2 : w2.heap[x.b]? = some (.cells x.cells 74 (0, 0)) := (k02.block x.b (Array.getElem?_eq_some_iff.1 H.out.2.2.2.1).1 hAb).trans H.out.2.2.2.1
  have f2 : w2.cell? ⟨x.b, 0, none⟩ = some (.slice x.A x.f.data.length x.c) := (cell_of_block b2).trans rfl
  have z2 : w2.frozen? ⟨x.b, 0, none⟩ = false := by simp [World.frozen?, b2]
  have b3 := heap_setCell_row (j := 0) b2 (.slice A2 (x.f.data.length + l.length) c2')
  have k23 : Kp (fun k => k = x.b) w2 (w2.setCell ⟨x.b, 0, none⟩ (.slice A2 (x.f.data.length + l.length) c2')) := Kp.setCell _ _ _ rfl
  have k03 : Kp (fun k => k ∈ x.blk) w (w2.setCell ⟨x.b, 0, none⟩ (.slice A2 (x.f.data.length + l.length) c2')) := k02.trans k23 (fun k _ h => hAx k h) (fun k _ e => e ▸ List.mem_cons_self)
  have hA3 : Own (w2.setCell ⟨x.b, 0, none⟩ (.slice A2 (x.f.data.length + l.length) c2')) 5 1 A2 c2' (x.f.data.length + l.length) (bcs x.f.data ++ bcs l) := hA2.kp k23 (fun k hb e => (hb2 k hb).elim (fun h => hAb (e ▸ h)) (fun h => by
    have h3 := (Array.getElem?_eq_some_iff.1 H.out.2.2.2.1).1
    have h4 := n1.size
    have e' : k = x.b := e
    omega))
  have d1 : (w2.setCell ⟨x.b, 0, none⟩ (.slice A2 (x.f.data.length + l.length) c2')).heap[d]? = some (.cells (dcells s bm) 69 (0, 0)) := (k03.block d (H.out.1.lt d (mem_fpD.2 (.inl rfl))) (fun hm => (m1 d hm).1 rfl)).trans H.out.1.blk
  have e0 := (H.out.2.2.2.2.2.1.1.2.1.kp k03 (fun hm => by have := hlB _ hm; omega)).cell
  have e2 := (H.out.2.2.2.2.2.1.2.kp k03 (fun hm => by have := hlB _ hm; omega)).cell
  have hn2 : ∀ k, Bk A2 k → Bk x.A k ∨ w.heap.size ≤ k := fun k hb => (hb2 k hb).imp id (fun h => by have h4 := n1.size; omega)
  have HB := Lib.hid (And.intro b3 (And.intro k03 (And.intro hA3 (And.intro d1 hn2))))
  refine hK _ _ (no_need (by kernel_rfl)) ?_
  clear hK K b2 b3 k02 k23 k03 hA3 hA2 hk2 hb2 m1 m2 m3 hAb hAx hFm hlB hn2
  iterate 2 (refine line_get rfl rfl (fun K hK => ?_); apply Exists.intro; refine ⟨fun w hS => ?_, ?_⟩; (first | (have hS' := hS rfl; go_simp; with_reducible rfl) | (go_simp; with_reducible rfl)); (go_simp; refine hK _ ?_; clear hK K))
  (refine line_do rfl rfl (fun K hK => ?_); go_simp)
  refine hK _ _ (no_need (by kernel_rfl)) ?_
  clear hK K
  refine line_nil ?_
  have g0 : (w2.setCell ⟨x.b, 0, none⟩ (.slice A2 (x.f.data.length + l.length) c2')).cell? ⟨d, 1, none⟩ = some (.int .i64 (s.used : Int)) := (cell_of_block d1).trans rfl
  have g1 : (w2.setCell ⟨x.b, 0, none⟩ (.slice A2 (x.f.data.length + l.length) c2')).frozen? ⟨d, 1, none⟩ = false := by simp [World.frozen?, d1]
  clear d1 f2 z2
  generalize (w2.setCell ⟨x.b, 0, none⟩ (.slice A2 (x.f.data.length + l.length) c2')) = w3 at *
  go_wp2_with fail
  refine wp_region_line (fun w' => w'.cell? ⟨B, 0, none⟩ = some (.pointer (some ⟨d, 0, none⟩)) ∧ w'.cell? ⟨B + 1 + 1, 0, none⟩ = some (.slice A l.length c) ∧ w'.cell? ⟨d, 1, none⟩ = some (.int .i64 (s.used : Int))) (pl := [(0, true), (1, true), (2, true), (3, true), (4, true), (5, true), (6, true), (7, true), (8, true), (9, false)]) hmo (by kernel_rfl) ⟨by simpa using e0, by simpa using e2, by simpa using g0⟩ ?_
  iterate 9 (refine line_get rfl rfl (fun K hK => ?_); apply Exists.intro; refine ⟨fun w hS => ?_, ?_⟩; (first | (have hS' := hS rfl; go_simp; with_reducible rfl) | (go_simp; with_reducible rfl)); (go_simp; refine hK _ ?_; clear hK K))
  (refine line_do rfl rfl (fun K hK => ?_); go_simp)
  refine hK _ _ (no_need (by kernel_rfl)) ?_
  clear hK K
  refine line_nil ?_
  go_end0
  have hw : IntKind.i64.wrap ((s.used : Int) + (l.length : Int)) = ((s.used + l.length : Nat) : Int) := by rw [IntKind.wrap_i64]; omega
  rw [hw]
  obtain ⟨m1, m2, m3⟩ := H.out.1.blk_ne
  have q1 := heap_setCell_row (j := 1) HB.out.2.2.2.1 (.int .i64 ((s.used + l.length : Nat) : Int))
  have k34 : Kp (fun k => k = d) w3 (w3.setCell ⟨d, 1, none⟩ (.int .i64 ((s.used + l.length : Nat) : Int))).drew := (Kp.setCell (S := fun k => k = d) w3 ⟨d, 1, none⟩ _ rfl).trans (Kp.drew _ _) (fun _ _ h => h) (fun _ _ h => h)
  have kk : Kp (fun k => k = d ∨ k ∈ x.blk) w (w3.setCell ⟨d, 1, none⟩ (.int .i64 ((s.used + l.length : Nat) : Int))).drew := HB.out.2.1.trans k34 (fun _ _ h => .inr h) (fun _ _ h => .inl h)
  have hu : usedF (updF n (appF l) s.files) = s.used + l.length := by
    have h1 := H.out.2.2.2.2.2.2.1
    have h2 : (appF l x.f).data.length = x.f.data.length + l.length := by simp [appF]
    omega
  have hxd : x.b < w3.heap.size := (Array.getElem?_eq_some_iff.1 HB.out.1).1
  refine ⟨rfl, H.out.1.updAt (x' := ⟨appF l x.f, x.b, A2, c2'⟩) kk (fun k h => h) ?_ rfl rfl ⟨?_, ?_⟩ HB.out.2.2.2.2 (appF l) rfl (by rw [H.out.2.2.1]) (H.out.1.ok.upd n H.out.2.1 (appF l) (fun _ => rfl) ?_ (by rw [hu]; exact hfit))⟩
  · have : (dcells s bm).setIfInBounds 1 (.int .i64 ((s.used + l.length : Nat) : Int)) = dcells { s with files := updF n (appF l) s.files } bm := by
      unfold dcells DS.used
      simp only [hu]
      rfl
    exact this ▸ q1
  · refine (k34.block x.b hxd (fun e => (m1 x.b List.mem_cons_self).1 e)).trans (HB.out.1.trans ?_)
    unfold FE.cells appF
    simp
  · have := HB.out.2.2.1.kp k34 (fun k hb e => ?_)
    · rw [← bcs_append] at this
      simpa [appF] using this
    · rcases HB.out.2.2.2.2 k hb with h | h
      · exact (m1 k (List.mem_cons_of_mem _ (mem_bks.2 h))).1 e
      · have := H.out.1.lt d (mem_fpD.2 (.inl rfl))
        omega
  · have h1 := H.out.1.ok.syn x.f (List.mem_of_find?_eq_some H.out.2.1)
    simp only [appF, List.length_append]
    omega

theorem Append_calls (w : World) (d : Nat) (s : DS) (F : List Nat) (n : Nm) (A : Option Addr) (m c : Nat) (l : List UInt8) (hD : DiskAt w d s F) (hn : n.length ≤ 9223372036854775807) (hl : RdB w A l) (hm : m = l.length) (hb : m ≤ 9223372036854775807) (hA : ∀ k, Bk A k → k ≠ d) :
    Calls Try.prog 23 #[.pointer (some ⟨d, 0, none⟩), .string (bstr n), .slice A m c] w (ChangePost d F w (s.append n l)) := by
  subst hm
  have HD := Lib.hid hD
  have HL := Lib.hid (And.intro hl hA)
  clear hD hl hA
  go_enter Try.func23, Try.ntmps23
  go_wp2_with fail
  obtain ⟨w1, hw1⟩ : ∃ w1, (w.alloc (.cells #[.pointer (some ⟨d, 0, none⟩)] 23)).alloc (.cells #[.string (bstr n)] 9) = w1 := ⟨_, rfl⟩
  obtain ⟨hB, n1⟩ := boxes2 (HD.out.lt d HD.out.mem) hw1
  have z1 : w1.heap.size = w.heap.size + 2 := by rw [← hw1]; simp
  rw [hw1]
  have hB3 : Bx3 d w.heap.size n (.slice A l.length c) (w1.alloc (.cells #[.slice A l.length c] 28)) := ⟨hB.new (Kp.alloc _ _ _), by have := Bx.new_ w1 28 (.slice A l.length c); rwa [z1] at this⟩
  have n2 : New w (w1.alloc (.cells #[.slice A l.length c] 28)) := n1.trans (Kp.alloc _ _ _) (fun _ _ h => h) (fun _ _ h => h)
  refine (changing_calls (w1.alloc (.cells #[.slice A l.length c] 28)) d s F (HD.out.new n2) 41 43 (Go.Proofs.enters_of Try.func41 (by kernel_rfl) rfl) (Go.Proofs.enters_of Try.func43 (by kernel_rfl) rfl) _ _ (fun w' => Bx3 d w.heap.size n (.slice A l.length c) w' ∧ RdB w' A l) ⟨hB3, HL.out.1.new n2⟩ (fun _ _ h k => ⟨h.1.new k, h.2.new k⟩) (fun _ _ h k => ⟨h.1.kd k, h.2.kp k (fun j hb e => HL.out.2 j hb e)⟩) (appErr s n l.length) (fun s => { s with files := updF n (appF l) s.files })
    (fun w hB hD => ?_) (fun h0 _ w fuse hB hD => ?_)).mono ?_
  · exact Append1_calls w d _ s F n A _ c hB.1 hD hn hb
  · unfold appErr at h0
    have ht : s.there n = 0 := by
      by_cases h : s.there n = 0
      · exact h
      · rw [if_pos h] at h0; exact absurd h0 h
    rw [if_neg (fun h => h ht)] at h0
    have hfit : s.used + l.length ≤ s.cap := by
      by_cases h : s.cap < s.used + l.length
      · rw [if_pos h] at h0; cases h0
      · omega
    obtain ⟨_, f, hf⟩ := there_zero ht
    exact Append2_calls w d _ { s with fuse := fuse } F n f A _ c l hB.1 hD hf hB.2 rfl hfit (fun k hk => HD.out.lt k hk)
  · rintro e w2 ⟨rfl, F', h1, h2⟩
    have HE := Lib.hid (And.intro h1 (And.intro h2 n2))
    clear h1 h2 n1 n2 hB hB3 hw1
    go_wp2_with fail
    go_ret
    exact ⟨rfl, F', HE.out.1, (Mv.of_new HE.out.2.2).trans HE.out.2.1⟩
end Go.Proofs.Ytekcoeonlfmebaa.Kit
