/- The book of the law DiskKeeps: stays. -/
import Derived.Test.YtekcoeonlfmebaaNoted
namespace Go.Proofs.Ytekcoeonlfmebaa.Kit
open Go Go.RowKit

theorem RdB.pre {w : World} {A : Option Addr} {l : List UInt8} (h : RdB w A l) (m : Nat) : RdB w A (l.take m) := by
  intro hne
  obtain ⟨b, off, rfl, hc⟩ := h (fun e => hne (by rw [e]; simp))
  refine ⟨b, off, rfl, fun j hj => ?_⟩
  rw [List.length_take] at hj
  rw [hc j (by omega)]
  congr 3
  rw [List.getElem_take]
/-- What stays makes of a book. -/
def StaysPost (w : World) (A : Option Addr) (c : Nat) (ys : List FV) (C : List Fl) (e : Ending) (w' : World) : Prop :=
  ∃ zs, e = .returned (.bool true) ∧ OwnN 66 w' A c zs ∧ zs.length = ys.length ∧ (zs.map FV.f).Perm C ∧ Mv (nblks A ys) (nblks A zs) w w'
theorem map_set {ys : List FV} (i : Nat) (z : FV) : (ys.set i z).map FV.f = (ys.map FV.f).set i z.f := by rw [List.map_set]

set_option maxRecDepth 100000 in
set_option maxHeartbeats 8000000 in
theorem stays_calls (w : World) (A A2 : Option Addr) (c c2 : Nat) (cap : Int) (ys xs : List FV) (F C : List Fl) (h : OwnN 66 w A c ys) (hR : RdF w A2 xs) (hap : ∀ k, RdF.In A2 xs k → k ∉ nblks A ys)
    (hl : xs.length = ys.length) (hl2 : ys.length ≤ 64) (hC : xs.map FV.f = C) (hF : (ys.map FV.f).Perm F) (hnm : F.map (·.name) = C.map (·.name)) (hnd : (C.map (·.name)).Nodup) (hcr : ∀ (i : Nat) (g f : Fl), F[i]? = some g → C[i]? = some f → Cr g f) (hdl : ∀ g ∈ F, g.data.length ≤ 1048576) :
    Calls Try.prog 10 #[.slice A ys.length c, .agg #[.int .i64 cap, .slice A2 xs.length c2, .int .i64 (-1), .bool false]] w (StaysPost w A c ys C) := by
  have HI := Lib.hid (And.intro h (And.intro hR hap))
  have HL := Lib.hid hl
  have HP := Lib.hid (And.intro hC (And.intro hF (And.intro hnm (And.intro hnd (And.intro hcr hdl)))))
  have hle : xs.length ≤ ys.length := by omega
  have hmo : Try.prog.follows Departure.mixedOrders = true := by kernel_rfl
  rw [hl]
  clear h hR hap hC hF hnm hnd hcr hdl hl
  go_enter Try.func10, Try.ntmps10
  go_wp2_with fail
  obtain ⟨W, hW⟩ : ∃ W, w.alloc (.cells #[.int .i64 cap, .slice A2 ys.length c2, .int .i64 (-1), .bool false] 32) = W := ⟨_, rfl⟩
  rw [hW]
  have nW : New w W := hW ▸ Kp.alloc _ _ _
  have bW : W.heap[w.heap.size]? = some (.cells #[.int .i64 cap, .slice A2 ys.length c2, .int .i64 (-1), .bool false] 32 (0, 0)) := hW ▸ heap_alloc_new w _
  have HW := Lib.hid (And.intro nW bW)
  clear nW bW hW
  go_loopw [5] (fun i wr => ∃ (k : Nat) (zs : List FV), k ≤ ys.length ∧ i = .int .i64 (k : Int) ∧ Hid (OwnN 66 wr A c zs ∧ zs.map FV.f = setAll (C.take k) (ys.map FV.f) ∧ Mv (nblks A ys) (nblks A zs) w wr ∧ wr.heap[w.heap.size]? = some (.cells #[.int .i64 cap, .slice A2 ys.length c2, .int .i64 (-1), .bool false] 32 (0, 0)) ∧ ∀ j ∈ nblks A zs, j ≠ w.heap.size)) (fun i _ => ys.length - (intOf i).toNat)
  case atStart => exact ⟨0, ys, Nat.zero_le _, rfl, Lib.hid ⟨HI.out.1.kp HW.out.1 (fun _ _ => id), rfl, Mv.of_new HW.out.1, HW.out.2, fun j hj e => by have := HI.out.1.lt j hj; omega⟩⟩
  case round =>
    obtain ⟨k, zs, hk, rfl, HK⟩ := hrel
    have hk0 : (0 : Int) ≤ k := by omega
    have s1 : wr.cell? ⟨w.heap.size, 1, none⟩ = some (.slice A2 ys.length c2) := (cell_of_block HK.out.2.2.2.1).trans rfl
    by_cases hlt : k < ys.length
    · have hki : (k : Int) < (ys.length : Int) := by omega
      obtain ⟨x, hx⟩ : ∃ x, xs[k]? = some x := ⟨_, List.getElem?_eq_getElem (by have := HL.out; omega)⟩
      have hkx := (List.getElem?_eq_some_iff.1 hx)
      have ro := HI.out.2.1.kp HK.out.2.2.1.1 HI.out.2.2
      obtain ⟨b, off, hA2, e0, e1, e2⟩ := ro.at_ hkx.1
      rw [hkx.2] at e0 e1 e2
      subst hA2
      have rx : RdB wr x.A x.f.data := ro.2 x (List.mem_of_getElem? hx)
      have hzl : zs.length = ys.length := by have := congrArg List.length HK.out.2.1; rw [setAll_map] at this; simpa using this
      have hf : C[k]? = some x.f := by rw [← HP.out.1]; simp [hx]
      obtain ⟨g0, hg0⟩ : ∃ g0, F[k]? = some g0 := ⟨_, List.getElem?_eq_getElem (by have := HP.out.2.1.length_eq; rw [List.length_map] at this; omega)⟩
      obtain ⟨m, hm, huniq, hset⟩ := stays_at HP.out.2.1 HP.out.2.2.1 HP.out.2.2.2.1 hg0 hf
      have hcr := HP.out.2.2.2.2.1 k g0 x.f hg0 hf
      have hgd := HP.out.2.2.2.2.2 g0 (List.mem_of_getElem? hg0)
      rw [← HK.out.2.1] at hm huniq hset
      obtain ⟨y, hy, hyf⟩ : ∃ y, zs[m]? = some y ∧ y.f = g0 := by
        rw [List.getElem?_map] at hm
        cases hz : zs[m]? with
        | none => rw [hz] at hm; simp at hm
        | some y => rw [hz] at hm; exact ⟨y, rfl, by simpa using hm⟩
      have hfz : findZ (zs.map FV.f) x.f.name = (m : Int) := findZ_at hy (by rw [hyf]; exact hcr.1.symm) fun j z hj hz e => by
        have := huniq j z.f (by simp [hz]) (by rw [e]; exact hcr.1)
        omega
      have HX := Lib.hid (And.intro hx (And.intro hy (And.intro hyf (And.intro hset (And.intro hcr (And.intro hzl hfz))))))
      have hyd : y.f.data.length ≤ 1048576 := by rw [hyf]; exact hgd
      have hxy : x.f.data.length ≤ y.f.data.length := by rw [hyf]; exact hcr.2.1
      have hys : y.f.syn ≤ x.f.data.length := by rw [hyf]; exact hcr.2.2.1
      have hxs : x.f.syn = x.f.data.length := hcr.2.2.2.1
      have hxt : x.f.data = y.f.data.take x.f.data.length := by rw [hyf]; exact hcr.2.2.2.2
      have hml : m < ys.length := by have := (List.getElem?_eq_some_iff.1 hy).1; omega
      rw [hxs] at e2
      have HT := Lib.hid (And.intro hxt hxs)
      clear hxs
      clear hx hkx hf hg0 hm huniq hset hcr hgd hy hyf hfz hxt ro
      go_wp2_with fail
      obtain ⟨W1, hW1⟩ : ∃ W, wr.alloc (.cells #[.string (bstr x.f.name), .slice x.A x.f.data.length x.c, .int .i64 (x.f.data.length : Int)] 65) = W := ⟨_, rfl⟩
      rw [hW1]
      have n1 : New wr W1 := hW1 ▸ Kp.alloc _ _ _
      have b1 : W1.heap[wr.heap.size]? = some (.cells #[.string (bstr x.f.name), .slice x.A x.f.data.length x.c, .int .i64 (x.f.data.length : Int)] 65 (0, 0)) := hW1 ▸ heap_alloc_new wr _
      have o1 := HK.out.1.kp n1 (fun _ _ => id)
      have rx1 := rx.new n1
      clear hW1 rx e0 e1 e2 s1
      have HW1 := Lib.hid (And.intro n1 (And.intro b1 (And.intro o1 rx1)))
      clear n1 b1 o1 rx1 hzl
      refine (find_calls_n W1 A c ys.length zs x.f.name HX.out.2.2.2.2.2.1.symm HW1.out.2.2.1 (by have := HX.out.2.2.2.2.2.1; omega)).mono ?_
      rintro e x' ⟨rfl, rfl⟩
      rw [HX.out.2.2.2.2.2.2]
      obtain ⟨g, hAg, r0, r1, r2, rf⟩ := HW1.out.2.2.1.at_ HX.out.2.1
      subst hAg
      have f0 : W1.cell? ⟨wr.heap.size, 0, none⟩ = some (.string (bstr x.f.name)) := (cell_of_block HW1.out.2.1).trans rfl
      have f1 : W1.cell? ⟨wr.heap.size, 1, none⟩ = some (.slice x.A x.f.data.length x.c) := (cell_of_block HW1.out.2.1).trans rfl
      have f2 : W1.cell? ⟨wr.heap.size, 2, none⟩ = some (.int .i64 (x.f.data.length : Int)) := (cell_of_block HW1.out.2.1).trans rfl
      have hyo := HW1.out.2.2.1.2.1 y (List.mem_of_getElem? HX.out.2.1)
      have hyc := hyo.cap
      have hsl := run_slice_upto (P := Try.prog) 28 5 Try.underlying28 1 Try.size_u8 y.A y.f.data.length y.c x.f.data.length (by omega)
      have hv1 : ∀ w' : World, RdB w' x.A x.f.data → (convert 28 9 (.slice x.A x.f.data.length x.c)).run Try.prog w' = .ok (.string (bstr x.f.data)) w' := fun w' h => run_conv_RdB (P := Try.prog) w' Try.underlying28 Try.underlying5 Try.underlying9 x.c h
      have hv2 : ∀ w' : World, RdB w' y.A x.f.data → (convert 28 9 (.slice y.A x.f.data.length y.c)).run Try.prog w' = .ok (.string (bstr x.f.data)) w' := fun w' h => run_conv_RdB (P := Try.prog) w' Try.underlying28 Try.underlying5 Try.underlying9 y.c h
      have ry : RdB W1 y.A x.f.data := by rw [HT.out.1]; exact hyo.rd.pre _
      have v1 := hv1 W1.drew (HW1.out.2.2.2.new (Kp.drew _ _))
      have v2 := hv2 W1.drew (ry.new (Kp.drew _ _))
      have hm0 : (0 : Int) ≤ m := by omega
      have hmi : (m : Int) < (ys.length : Int) := by omega
      have hxi : (x.f.data.length : Int) ≤ (y.f.data.length : Int) := by omega
      have hyi : (y.f.syn : Int) ≤ (x.f.data.length : Int) := by omega
      have d1 : decide ((m : Int) < 0) = false := decide_eq_false (by omega)
      have d2 : decide (y.f.data.length < x.f.data.length) = false := decide_eq_false (by omega)
      have d3 : decide (x.f.data.length < y.f.syn) = false := decide_eq_false (by omega)
      have HV := Lib.hid (And.intro rf (And.intro hyo ry))
      clear rf hyo hv1 hv2 ry
      go_wp2_with fail
      refine wp_region_line (fun w' => w'.cell? ⟨wr.heap.size, 1, none⟩ = some (.slice x.A x.f.data.length x.c) ∧ w'.cell? ⟨wr.heap.size, 2, none⟩ = some (.int .i64 (x.f.data.length : Int)) ∧ w'.cell? ⟨g, m * 3 + 1, none⟩ = some (.slice y.A y.f.data.length y.c) ∧ w'.cell? ⟨g, m * 3 + 2, none⟩ = some (.int .i64 (y.f.syn : Int)) ∧ (convert 28 9 (.slice x.A x.f.data.length x.c)).run Try.prog w' = .ok (.string (bstr x.f.data)) w' ∧ (convert 28 9 (.slice y.A x.f.data.length y.c)).run Try.prog w' = .ok (.string (bstr x.f.data)) w') (pl := [(0, true), (1, true), (2, true), (3, true), (4, true), (5, true), (6, true), (7, true), (8, true), (9, true), (10, true), (11, true), (12, true), (13, true), (14, true), (15, true), (16, true), (17, true), (18, true), (19, true), (20, true), (21, true), (22, true), (23, true), (24, true), (25, true), (26, true), (27, true), (28, true), (29, true), (30, true), (31, true), (32, true), (33, true), (34, true), (35, true), (36, true), (37, true), (38, true), (39, true), (40, true), (41, true), (42, true), (43, true), (44, true), (45, true), (46, true), (47, true), (48, true)]) hmo (by kernel_rfl) ⟨by simpa using f1, by simpa using f2, by simpa using r1, by simpa using r2, v1, v2⟩ ?_
      iterate 49 (first | (refine line_get rfl rfl (fun K hK => ?_); apply Exists.intro; refine ⟨fun w hS => ?_, ?_⟩; (first | (have hS' := hS rfl; go_simp; with_reducible rfl) | (go_simp; with_reducible rfl)); (go_simp; refine hK _ ?_; clear hK K)) | (refine line_past rfl rfl (fun K hK => ?_); go_simp; refine hK _ ?_; clear hK K))
      refine line_nil ?_
      obtain ⟨W2, hW2⟩ : ∃ W, W1.drew = W := ⟨_, rfl⟩
      rw [hW2]
      have n2 : New W1 W2 := hW2 ▸ Kp.drew _ _
      have hgl : g < wr.heap.size := HK.out.1.lt g (List.mem_append_left _ (mem_bks.2 (Bk.some_.2 rfl)))
      have hg1 : ¬ wr.heap.size = g := by omega
      have hg2 : ¬ g = wr.heap.size := by omega
      have HW2 := Lib.hid n2
      have HR := Lib.hid (And.intro (n2.cell r1) (n2.cell r2))
      have HFB := Lib.hid (And.intro (n2.cell f1) (n2.cell f2))
      have p1 := n2.cell f1
      have p2 := n2.cell f2
      have HD := Lib.hid (And.intro d1 (And.intro d2 d3))
      clear hW2 n2 hgl r0 r1 r2 f0 f1 f2 v1 v2 hsl d1 d2 d3
      have p1' : (W2.alloc (.cells #[] 5)).cell? ⟨wr.heap.size, 1, none⟩ = some (.slice x.A x.f.data.length x.c) := New.cell (Kp.alloc _ _ _) p1
      go_wp2_with (at_builtin; refine wpList_append_src _ rfl (.tmp 90) (.tmp 92) 28 28 rfl 5 (.int .u8 0) 1 1 Try.underlying28 Try.info_u8 rfl (some ⟨W2.heap.size, 0, none⟩) 0 0 [] rfl (Own.bare W2 _ _) _ rfl x.f.data.length (bcs x.f.data) (Src.ofRdB _ Try.underlying28 x.c ((HW1.out.2.2.2.new HW2.out).new (Kp.alloc _ _ _))) (by omega) (by omega) ?_; intro A3 c3 w3 q1 q2 q3; have n3 : New W2 w3 := (Kp.alloc (fun _ => False) W2 (.cells #[] 5)).trans q2 (fun _ _ h => h) (fun j hj h => by have := Bk.some_.1 h; simp at this; omega); have rg := n3.cell HR.out.1; have rg2 := n3.cell HR.out.2; have rz := (((HW1.out.2.2.1.kp HW2.out (fun _ _ => id)).kp n3 (fun _ _ => id)).1.frozen (m * 3 + 1)); have rz2 := (((HW1.out.2.2.1.kp HW2.out (fun _ _ => id)).kp n3 (fun _ _ => id)).1.frozen (m * 3 + 2)); have p3 := n3.cell HFB.out.2; have p4 := n3.cell HFB.out.1; have H3 := Lib.hid (And.intro q1 (And.intro n3 q3)); clear q1 q2 q3 n3 p1 p2 p1')
      have z3 : ∀ k, Bk A3 k → wr.heap.size ≤ k := fun k hk => by
        have h1 := HW1.out.1.size
        have h2 := HW2.out.size
        rcases H3.out.2.2 k hk with h | h
        · have := Bk.some_.1 h
          simp at this
          omega
        · rw [h]
          simp
          omega
      have n13 := (HW1.out.1.trans HW2.out (fun _ _ h => h) (fun _ _ h => h)).trans H3.out.2.1 (fun _ _ h => h) (fun _ _ h => h)
      have zo : Own w3 5 1 A3 c3 x.f.data.length (bcs x.f.data) := by have := H3.out.1; rwa [Nat.zero_add, List.nil_append] at this
      have hp1 := HK.out.1.put HX.out.2.1 (m := 1) (z := ⟨⟨y.f.name, x.f.data, y.f.syn⟩, A3, c3⟩) (by omega) (.slice A3 x.f.data.length c3) rfl n13 (fun _ _ => id) zo (fun k hk => .inl (z3 k hk))
      have hy1 : (zs.set m ⟨⟨y.f.name, x.f.data, y.f.syn⟩, A3, c3⟩)[m]? = some ⟨⟨y.f.name, x.f.data, y.f.syn⟩, A3, c3⟩ := by rw [List.getElem?_set, if_pos rfl, if_pos (List.getElem?_eq_some_iff.1 HX.out.2.1).1]
      have hp2 := hp1.put hy1 (m := 2) (z := ⟨⟨y.f.name, x.f.data, x.f.data.length⟩, A3, c3⟩) (by omega) (.int .i64 (x.f.data.length : Int)) rfl (Kp.refl (fun _ => False) _) (fun _ _ => id) (show Own _ 5 1 A3 c3 x.f.data.length (bcs x.f.data) from hp1.2.1 ⟨⟨y.f.name, x.f.data, y.f.syn⟩, A3, c3⟩ (List.mem_of_getElem? hy1)) (fun _ h => .inr h)
      rw [List.set_set] at hp2
      have hzx : (⟨y.f.name, x.f.data, x.f.data.length⟩ : Fl) = x.f := by
        have h1 : y.f.name = x.f.name := by rw [HX.out.2.2.1]; exact HX.out.2.2.2.2.1.1.symm
        rw [h1, ← HT.out.2]
      have kset : Kp (· ∈ nblks (some ⟨g, 0, none⟩) zs) wr ((w3.setCell ⟨g, m * 3 + 1, none⟩ (.slice A3 x.f.data.length c3)).setCell ⟨g, m * 3 + 2, none⟩ (.int .i64 (x.f.data.length : Int))) :=
        ((n13.mono (U := (· ∈ nblks (some ⟨g, 0, none⟩) zs)) (fun _ _ h => h.elim)).trans (Kp.setCell (S := fun j => j = g) _ _ _ rfl) (fun _ _ h => h) (fun j hj e => e ▸ List.mem_append_left _ (mem_bks.2 (Bk.some_.2 rfl)))).trans (Kp.setCell (S := fun j => j = g) _ _ _ rfl) (fun _ _ h => h) (fun j hj e => e ▸ List.mem_append_left _ (mem_bks.2 (Bk.some_.2 rfl)))
      have hmv : Mv (nblks (some ⟨g, 0, none⟩) zs) (nblks (some ⟨g, 0, none⟩) (zs.set m ⟨⟨y.f.name, x.f.data, x.f.data.length⟩, A3, c3⟩)) wr ((w3.setCell ⟨g, m * 3 + 1, none⟩ (.slice A3 x.f.data.length c3)).setCell ⟨g, m * 3 + 2, none⟩ (.int .i64 (x.f.data.length : Int))) :=
        ⟨kset, fun k hk => by
          rcases List.mem_append.1 hk with hk | hk
          · exact .inl (List.mem_append_left _ hk)
          · rcases fblks_set_cases hk with hk | hk
            · exact .inl (List.mem_append_right _ hk)
            · exact .inr (z3 k hk)⟩
      have bs := heap_kp HK.out.2.2.2.1 kset (fun h => HK.out.2.2.2.2 _ h rfl)
      have bn : ∀ j ∈ nblks (some ⟨g, 0, none⟩) (zs.set m ⟨⟨y.f.name, x.f.data, x.f.data.length⟩, A3, c3⟩), j ≠ w.heap.size := fun j hj e => (hmv.2 j hj).elim (fun h => HK.out.2.2.2.2 j h e) (fun h => by have := (Array.getElem?_eq_some_iff.1 HK.out.2.2.2.1).1; omega)
      exact ⟨⟨k + 1, zs.set m ⟨⟨y.f.name, x.f.data, x.f.data.length⟩, A3, c3⟩, by omega, by go_num, Lib.hid ⟨hp2, by rw [map_set]; show (zs.map FV.f).set m ⟨y.f.name, x.f.data, x.f.data.length⟩ = _; rw [hzx]; exact HX.out.2.2.2.1, HK.out.2.2.1.trans hmv, bs, bn⟩⟩, by simp [intOf]; omega⟩
    · obtain rfl : k = ys.length := by omega
      have hkd : decide (ys.length < ys.length) = false := by simp
      go_wp2_with fail
      go_ret
      refine ⟨zs, rfl, HK.out.1, ?_, ?_, HK.out.2.2.1⟩
      · have := congrArg List.length HK.out.2.1
        rw [setAll_map] at this
        simpa using this
      · rw [HK.out.2.1]
        have hcl : C.length = ys.length := by rw [← HP.out.1, List.length_map]; exact HL.out
        rw [← hcl, List.take_length]
        exact setAll_perm HP.out.2.1 HP.out.2.2.1 HP.out.2.2.2.1
end Go.Proofs.Ytekcoeonlfmebaa.Kit
