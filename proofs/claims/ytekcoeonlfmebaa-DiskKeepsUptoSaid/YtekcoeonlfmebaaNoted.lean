/- The book of the law DiskKeeps: noted. -/
import Derived.Test.YtekcoeonlfmebaaFindN
import Derived.Test.YtekcoeonlfmebaaKeepsM
import Derived.Test.YtekcoeonlfmebaaAct
import Derived.Test.YtekcoeonlfmebaaLine
namespace Go.Proofs.Ytekcoeonlfmebaa.Kit
open Go Go.RowKit

/-- What noted answers. -/
def NotedPost (w : World) (A : Option Addr) (ys : List FV) (o : OpV) (e : Ending) (w' : World) : Prop :=
  ∃ A' c' zs, e = .returned (.slice A' zs.length c') ∧ OwnN 66 w' A' c' zs ∧ zs.map FV.f = notedM (ys.map FV.f) o ∧ Mv (nblks A ys) (nblks A' zs) w w'
theorem map_set_updF {ys : List FV} (hn : ((ys.map FV.f).map (·.name)).Nodup) {i : Nat} {y z : FV} {n : Nm} (hy : ys[i]? = some y) (hyn : y.f.name = n) {u : Fl → Fl} (hz : z.f = u y.f) : (ys.set i z).map FV.f = updF n u (ys.map FV.f) := by
  obtain ⟨hi, hiy⟩ := List.getElem?_eq_some_iff.1 hy
  apply List.ext_getElem?
  intro j
  unfold updF
  rw [List.getElem?_map, List.getElem?_set, List.getElem?_map, List.getElem?_map]
  by_cases hij : i = j
  · subst hij
    rw [if_pos rfl, if_pos hi, hy]
    simp only [Option.map_some, Option.some.injEq]
    rw [if_pos hyn, hz]
  · rw [if_neg hij]
    cases hj : ys[j]? with
    | none => rfl
    | some x =>
      simp only [Option.map_some, Option.some.injEq]
      rw [if_neg]
      intro e
      have h1 : ((ys.map FV.f).map (·.name))[i]? = some n := by simp [hy, hyn]
      have h2 : ((ys.map FV.f).map (·.name))[j]? = some n := by simp [hj, e]
      exact hij ((List.getElem?_inj (by simpa using hi) hn).1 (h1.trans h2.symm))
theorem noted_set {w w' : World} {A : Option Addr} {c : Nat} {ys : List FV} {o : OpV} (_ : OwnN 66 w A c ys) (hn : ((ys.map FV.f).map (·.name)).Nodup) {i : Nat} {y z : FV} {n : Nm} (hy : ys[i]? = some y) (hyn : y.f.name = n)
    (hp : OwnN 66 w' A c (ys.set i z)) {e : Ending} (he : e = .returned (.slice A ys.length c)) (hk : Kp (· ∈ nblks A ys) w w') (hb : ∀ k, Bk z.A k → Bk y.A k ∨ w.heap.size ≤ k) {u : Fl → Fl} (hz : z.f = u y.f) (hm : notedM (ys.map FV.f) o = updF n u (ys.map FV.f)) : NotedPost w A ys o e w' := by
  refine ⟨A, c, ys.set i z, by rw [List.length_set]; exact he, hp, (map_set_updF hn hy hyn hz).trans hm.symm, hk, fun k hk => ?_⟩
  rcases List.mem_append.1 hk with hk | hk
  · exact .inl (List.mem_append_left _ hk)
  · rcases fblks_set_cases hk with hk | hk
    · exact .inl (List.mem_append_right _ hk)
    · exact (hb k hk).imp (fun h => List.mem_append_right _ (mem_fblks.2 ⟨y, List.mem_of_getElem? hy, h⟩)) id
theorem noted_drop {w w' : World} {A A' : Option Addr} {c' : Nat} {ys zs : List FV} {o : OpV} {n : Nm} (hz : zs = ys.filter (fun y => y.f.name != n)) (hp : OwnN 66 w' A' c' zs) (hk : New w w') (hb : ∀ k, Bk A' k → w.heap.size ≤ k) (hm : notedM (ys.map FV.f) o = outF n (ys.map FV.f)) :
    NotedPost w A ys o (.returned (.slice A' zs.length c')) w' := by
  refine ⟨A', c', zs, rfl, hp, ?_, hk.mono fun _ _ h => h.elim, fun k hk => ?_⟩
  · rw [hm, hz]
    unfold outF
    rw [List.filter_map]
    rfl
  · rcases List.mem_append.1 hk with hk | hk
    · exact .inr (hb k (mem_bks.1 hk))
    · exact .inl (List.mem_append_right _ ((fblks_sub (hz ▸ List.filter_sublist)).subset hk))

set_option maxRecDepth 100000 in
set_option maxHeartbeats 4000000 in
theorem noted_3 (w : World) (A : Option Addr) (c : Nat) (ys : List FV) (o : OpV) (h : OwnN 66 w A c ys) (ho : o.Ok w) (hl : ys.length ≤ 64) (hnd : ((ys.map FV.f).map (·.name)).Nodup) (hk : o.kind = 3) :
    Calls Try.prog 14 #[.slice A ys.length c, o.val] w (NotedPost w A ys o) := by
  have HI := Lib.hid h
  have HO := Lib.hid ho
  have HN := Lib.hid hnd
  have hmo : Try.prog.follows Departure.mixedOrders = true := by kernel_rfl
  have hpl1 := pressed_len o.name
  have hpl2 := pressed_len o.to
  have hbl := ho.bodyLen
  have hnp : NotedPost w A ys o = NotedPost w A ys o := rfl
  unfold OpV.val
  rw [hk]
  have HK := Lib.hid hk
  clear h ho hnd hk hnp
  go_enter Try.func14, Try.ntmps14
  go_wp2_with fail
  obtain ⟨W, hW⟩ : ∃ W, w.alloc (.cells #[.int .i64 o.disk, .int .i64 3, .string (bstr o.name), .string (bstr o.to), .slice o.bA o.body.length o.bc, .int .i64 o.at_, .int .i64 o.n, .slice o.kA o.keep.length o.kc, .int .i64 o.cap, .slice o.fA o.fn o.fc, .int .i64 o.fuse, .bool o.down] 34) = W := ⟨_, rfl⟩
  rw [hW]
  have nW : New w W := hW ▸ Kp.alloc _ _ _
  have bW : W.heap[w.heap.size]? = some (.cells #[.int .i64 o.disk, .int .i64 3, .string (bstr o.name), .string (bstr o.to), .slice o.bA o.body.length o.bc, .int .i64 o.at_, .int .i64 o.n, .slice o.kA o.keep.length o.kc, .int .i64 o.cap, .slice o.fA o.fn o.fc, .int .i64 o.fuse, .bool o.down] 34 (0, 0)) := hW ▸ heap_alloc_new w _
  clear hW
  refine (pressed_calls W o.name HO.out.name).mono ?_
  rintro e w1 ⟨rfl, n1⟩
  have b1 := heap_kp bW n1 id
  have f3 : w1.cell? ⟨w.heap.size, 3, none⟩ = some (.string (bstr o.to)) := (cell_of_block b1).trans rfl
  have HW := Lib.hid (And.intro nW (And.intro n1 b1))
  clear nW bW n1 b1
  go_wp2_with fail
  refine (pressed_calls w1 o.to HO.out.to).mono ?_
  rintro e w2 ⟨rfl, n2⟩
  have b2 := heap_kp HW.out.2.2 n2 id
  have g1 : w2.cell? ⟨w.heap.size, 1, none⟩ = some (.int .i64 3) := (cell_of_block b2).trans rfl
  have g4 : w2.cell? ⟨w.heap.size, 4, none⟩ = some (.slice o.bA o.body.length o.bc) := (cell_of_block b2).trans rfl
  have n02 : New w w2 := (HW.out.1.trans HW.out.2.1 (fun _ _ h => h) (fun _ _ h => h)).trans n2 (fun _ _ h => h) (fun _ _ h => h)
  have H2 := Lib.hid n02
  clear n02 n2 b2 HW f3
  go_wp2_with fail
  refine (find_calls w2 A c ys (pressed o.name) (HI.out.kp H2.out (fun _ _ => id)) (by omega)).mono ?_
  rintro e x ⟨rfl, rfl⟩
  have hfz : findZ (ys.map FV.f) (pressed o.name) = findZ (ys.map FV.f) (pressed o.name) := rfl
  clear hfz
  generalize findZ (ys.map FV.f) (pressed o.name) = zi
  go_wp2_with (at_builtin; refine wpList_append_src _ rfl (.tmp 21) (.tmp 24) 27 27 rfl 66 _ 3 48 Try.underlying27 Try.info_note rfl A c ys.length (FV.flat ys) rfl ((HI.out.kp H2.out (fun _ _ => id)).1.new (Kp.alloc _ _ _)) _ rfl 1 _ (Src.ofNew w2 Try.underlying27 #[.string (bstr (pressed o.name)), .slice none 0 0, .int .i64 0] 66 3 1 1 rfl (by simp [Value.oneCell'])) (by omega) (by omega) ?_; intro A2 c2 w3 q1 q2 q3; have H3 := Lib.hid (And.intro q1 (And.intro q2 q3)); clear q1 q2 q3)
  go_ret
  have k13 : Kp (Bk A) w w3 := (H2.out.trans (Kp.alloc (Bk A) w2 (.cells #[.string (bstr (pressed o.name)), .slice none 0 0, .int .i64 0] 66)) (fun _ _ h => h.elim) (fun _ _ h => h)).trans H3.out.2.1 (fun _ _ h => h) (fun _ _ h => h)
  have z2 := H2.out.size
  have hb : ∀ k, Bk A2 k → Bk A k ∨ w.heap.size ≤ k := fun k hk => (H3.out.2.2 k hk).imp id fun e => by rw [e]; simp; omega
  refine ⟨A2, c2, ys ++ [⟨⟨pressed o.name, [], 0⟩, none, 0⟩], by rw [List.length_append]; rfl, HI.out.push ⟨⟨pressed o.name, [], 0⟩, none, 0⟩ (Own.nil _ _ _) H3.out.1 (fun k hk => k13.block k (HI.out.lt k (List.mem_append_right _ hk)) fun hb => (List.nodup_append.1 HI.out.2.2).2.2 k (mem_bks.2 hb) k hk rfl) (fun k hk => absurd hk Bk.none_) (fun k hk => (hb k hk).imp id fun h => ⟨h, Bk.none_⟩), ?_, k13.mono fun i _ hi => List.mem_append_left _ (mem_bks.2 hi), fun k hk => ?_⟩
  · unfold notedM
    rw [if_pos HK.out, List.map_append]
    rfl
  · rcases List.mem_append.1 hk with hk | hk
    · exact (hb k (mem_bks.1 hk)).imp (fun h => List.mem_append_left _ (mem_bks.2 h)) id
    · rw [fblks_snoc] at hk
      rcases List.mem_append.1 hk with hk | hk
      · exact .inl (List.mem_append_right _ hk)
      · simp [bks] at hk

set_option maxRecDepth 100000 in
set_option maxHeartbeats 4000000 in
theorem noted_4 (w : World) (A : Option Addr) (c : Nat) (ys : List FV) (o : OpV) (h : OwnN 66 w A c ys) (ho : o.Ok w) (hl : ys.length ≤ 64) (hnd : ((ys.map FV.f).map (·.name)).Nodup) (hk : o.kind = 4) (hf : ((ys.map FV.f).find? (fun f => f.name == pressed o.name)).isSome = true) (hdat : ∀ y ∈ ys, y.f.data.length + o.body.length ≤ 140737488355328) :
    Calls Try.prog 14 #[.slice A ys.length c, o.val] w (NotedPost w A ys o) := by
  have HI := Lib.hid h
  have HO := Lib.hid ho
  have HN := Lib.hid hnd
  have hmo : Try.prog.follows Departure.mixedOrders = true := by kernel_rfl
  have hpl1 := pressed_len o.name
  have hpl2 := pressed_len o.to
  have hbl := ho.bodyLen
  have hnp : NotedPost w A ys o = NotedPost w A ys o := rfl
  unfold OpV.val
  rw [hk]
  have HK := Lib.hid hk
  clear h ho hnd hk hnp
  go_enter Try.func14, Try.ntmps14
  go_wp2_with fail
  obtain ⟨W, hW⟩ : ∃ W, w.alloc (.cells #[.int .i64 o.disk, .int .i64 4, .string (bstr o.name), .string (bstr o.to), .slice o.bA o.body.length o.bc, .int .i64 o.at_, .int .i64 o.n, .slice o.kA o.keep.length o.kc, .int .i64 o.cap, .slice o.fA o.fn o.fc, .int .i64 o.fuse, .bool o.down] 34) = W := ⟨_, rfl⟩
  rw [hW]
  have nW : New w W := hW ▸ Kp.alloc _ _ _
  have bW : W.heap[w.heap.size]? = some (.cells #[.int .i64 o.disk, .int .i64 4, .string (bstr o.name), .string (bstr o.to), .slice o.bA o.body.length o.bc, .int .i64 o.at_, .int .i64 o.n, .slice o.kA o.keep.length o.kc, .int .i64 o.cap, .slice o.fA o.fn o.fc, .int .i64 o.fuse, .bool o.down] 34 (0, 0)) := hW ▸ heap_alloc_new w _
  clear hW
  refine (pressed_calls W o.name HO.out.name).mono ?_
  rintro e w1 ⟨rfl, n1⟩
  have b1 := heap_kp bW n1 id
  have f3 : w1.cell? ⟨w.heap.size, 3, none⟩ = some (.string (bstr o.to)) := (cell_of_block b1).trans rfl
  have HW := Lib.hid (And.intro nW (And.intro n1 b1))
  clear nW bW n1 b1
  go_wp2_with fail
  refine (pressed_calls w1 o.to HO.out.to).mono ?_
  rintro e w2 ⟨rfl, n2⟩
  have b2 := heap_kp HW.out.2.2 n2 id
  have g1 : w2.cell? ⟨w.heap.size, 1, none⟩ = some (.int .i64 4) := (cell_of_block b2).trans rfl
  have g4 : w2.cell? ⟨w.heap.size, 4, none⟩ = some (.slice o.bA o.body.length o.bc) := (cell_of_block b2).trans rfl
  have n02 : New w w2 := (HW.out.1.trans HW.out.2.1 (fun _ _ h => h) (fun _ _ h => h)).trans n2 (fun _ _ h => h) (fun _ _ h => h)
  have H2 := Lib.hid n02
  clear n02 n2 b2 HW f3
  go_wp2_with fail
  refine (find_calls w2 A c ys (pressed o.name) (HI.out.kp H2.out (fun _ _ => id)) (by omega)).mono ?_
  rintro e x ⟨rfl, rfl⟩
  obtain ⟨fl, hfl⟩ := Option.isSome_iff_exists.1 hf
  obtain ⟨i, y, hy, rfl, hyn, hfz⟩ := findZ_some hfl
  rw [hfz]
  have hil : i < ys.length := (List.getElem?_eq_some_iff.1 hy).1
  have hi0 : (0 : Int) ≤ i := by omega
  have hin : (i : Int) < (ys.length : Int) := by omega
  obtain ⟨g, rfl, r0, r1, r2, rf⟩ := (HI.out.kp H2.out (fun _ _ => id)).at_ hy
  have hdl := (HI.out.2.1 y (List.mem_of_getElem? hy)).max
  simp only [maxLen] at hdl
  have HY := Lib.hid (And.intro hy (And.intro hyn (And.intro hfl rf)))
  clear hy hyn hfl rf hf hfz
  have hyd := hdat y (List.mem_of_getElem? HY.out.1)
  clear hdat
  go_wp2_with fail
  refine wp_region_line (fun w' => w'.cell? ⟨g, i * 3 + 1, none⟩ = some (.slice y.A y.f.data.length y.c) ∧ w'.cell? ⟨w.heap.size, 4, none⟩ = some (.slice o.bA o.body.length o.bc)) (pl := [(0, true), (1, true), (3, true), (4, true), (5, true), (6, true), (7, true), (9, true), (10, true), (2, false), (8, false), (11, false), (12, true), (13, true), (14, false)]) hmo (by kernel_rfl) ⟨by simpa using r1, by simpa using g4⟩ ?_
  iterate 9 (refine line_get rfl rfl (fun K hK => ?_); apply Exists.intro; refine ⟨fun w hS => ?_, ?_⟩; (first | (have hS' := hS rfl; go_simp; with_reducible rfl) | (go_simp; with_reducible rfl)); (go_simp; refine hK _ ?_; clear hK K))
  (refine line_do rfl rfl (fun K hK => ?_); go_simp)
  have na : New w2 (w2.alloc (.cells #[] 5)).drew := (Kp.alloc _ _ _).trans (Kp.drew _ _) (fun _ _ h => h) (fun _ _ h => h)
  refine hK _ _ (fun _ => ⟨na.cell r1, na.cell g4⟩) ?_
  clear hK K
  refine line_do rfl rfl (fun K hK => ?_)
  refine wp_append_src _ (.tmp 30) (.tmp 35) 28 28 rfl 5 (.int .u8 0) 1 1 Try.underlying28 Try.info_u8 rfl (some ⟨w2.heap.size, 0, none⟩) 0 0 [] rfl ((Own.bare w2 _ _).new (Kp.drew _ _)) _ rfl y.f.data.length (bcs y.f.data) (Src.ofRdB _ Try.underlying28 y.c ((((HI.out.2.1 y (List.mem_of_getElem? HY.out.1)).new H2.out).rd).new na)) (by omega) (by omega) ?_
  intro A3 c3 w3 q1 q2 q3
  have n3 : New w2 w3 := na.trans q2 (fun _ _ h => h) (fun j hj h => by have := Bk.some_.1 h; simp at this; omega)
  refine hK _ _ (fun _ => ⟨n3.cell r1, n3.cell g4⟩) ?_
  clear hK K
  have e3 : (0 : Nat) + y.f.data.length = y.f.data.length := Nat.zero_add _
  rw [e3] at q1 ⊢
  have z3 : ∀ k, Bk A3 k → w2.heap.size ≤ k := fun k hk => (q3 k hk).elim (fun h => by have := Bk.some_.1 h; simp at this; omega) (fun h => by rw [h]; simp)
  have H3 := Lib.hid (And.intro q1 (And.intro n3 z3))
  clear q1 q2 q3 n3 z3 e3 na
  refine line_do rfl rfl (fun K hK => ?_)
  refine wp_append_src _ (.tmp 36) (.tmp 38) 28 28 rfl 5 (.int .u8 0) 1 1 Try.underlying28 Try.info_u8 rfl A3 c3 y.f.data.length (bcs y.f.data) rfl H3.out.1 _ rfl o.body.length (bcs o.body) (Src.ofRdB _ Try.underlying28 o.bc ((HO.out.body.new H2.out).new H3.out.2.1)) (by omega) (by omega) ?_
  intro A4 c4 w4 q1 q2 q3
  have n4 : New w2 w4 := H3.out.2.1.trans q2 (fun _ _ h => h) (fun j hj h => by have := H3.out.2.2 j h; omega)
  have z4 : ∀ k, Bk A4 k → w2.heap.size ≤ k := fun k hk => (q3 k hk).elim (fun h => H3.out.2.2 k h) (fun h => by have := H3.out.2.1.size; omega)
  have rg : w4.cell? ⟨g, i * 3 + 1, none⟩ = some (.slice y.A y.f.data.length y.c) := n4.cell r1
  have rfz : w4.frozen? ⟨g, i * 3 + 1, none⟩ = false := by
    have := ((HI.out.kp H2.out (fun _ _ => id)).kp n4 (fun _ _ => id)).at_ HY.out.1
    obtain ⟨g', hg', -, -, -, hf⟩ := this
    obtain rfl : g = g' := by simpa using hg'
    exact hf _
  refine hK _ _ (fun _ => ⟨n4.cell r1, n4.cell g4⟩) ?_
  clear hK K
  have H4 := Lib.hid (And.intro q1 (And.intro n4 z4))
  clear q1 q2 q3 n4 z4 r0 r1 r2 g1 g4
  iterate 2 (refine line_get rfl rfl (fun K hK => ?_); apply Exists.intro; refine ⟨fun w hS => ?_, ?_⟩; (first | (have hS' := hS rfl; go_simp; with_reducible rfl) | (go_simp; with_reducible rfl)); (go_simp; refine hK _ ?_; clear hK K))
  (refine line_do rfl rfl (fun K hK => ?_); go_simp)
  refine hK _ _ (no_need (by kernel_rfl)) ?_
  clear hK K
  refine line_nil ?_
  go_wp2_with fail
  go_ret
  have zo : Own w4 5 1 A4 c4 (y.f.data ++ o.body).length (bcs (y.f.data ++ o.body)) := by rw [List.length_append, bcs_append]; exact H4.out.1
  have n04 := H2.out.trans H4.out.2.1 (fun _ _ h => h) (fun _ _ h => h)
  have z2 := H2.out.size
  have hp := HI.out.put HY.out.1 (m := 1) (z := ⟨⟨y.f.name, y.f.data ++ o.body, y.f.syn⟩, A4, c4⟩) (by omega) (.slice A4 (y.f.data.length + o.body.length) c4) (by simp [FV.cells]) n04 (fun _ _ => id) zo (fun k hk => .inl (by have := H4.out.2.2 k hk; omega))
  exact noted_set HI.out HN.out HY.out.1 HY.out.2.1 hp rfl (n04.trans (Kp.setCell (S := (· ∈ nblks (some ⟨g, 0, none⟩) ys)) _ _ _ (List.mem_append_left _ (mem_bks.2 (Bk.some_.2 rfl)))) (fun _ _ h => h.elim) (fun _ _ h => h)) (fun k hk => .inr (by have := H4.out.2.2 k hk; omega)) (u := fun f => { f with data := f.data ++ o.body }) rfl (by unfold notedM; rw [if_neg (by rw [HK.out]; decide), if_pos HK.out])

set_option maxRecDepth 100000 in
set_option maxHeartbeats 4000000 in
theorem noted_5 (w : World) (A : Option Addr) (c : Nat) (ys : List FV) (o : OpV) (h : OwnN 66 w A c ys) (ho : o.Ok w) (hl : ys.length ≤ 64) (hnd : ((ys.map FV.f).map (·.name)).Nodup) (hk : o.kind = 5) (hf : ((ys.map FV.f).find? (fun f => f.name == pressed o.name)).isSome = true) :
    Calls Try.prog 14 #[.slice A ys.length c, o.val] w (NotedPost w A ys o) := by
  have HI := Lib.hid h
  have HO := Lib.hid ho
  have HN := Lib.hid hnd
  have hmo : Try.prog.follows Departure.mixedOrders = true := by kernel_rfl
  have hpl1 := pressed_len o.name
  have hpl2 := pressed_len o.to
  have hbl := ho.bodyLen
  have hnp : NotedPost w A ys o = NotedPost w A ys o := rfl
  unfold OpV.val
  rw [hk]
  have HK := Lib.hid hk
  clear h ho hnd hk hnp
  go_enter Try.func14, Try.ntmps14
  go_wp2_with fail
  obtain ⟨W, hW⟩ : ∃ W, w.alloc (.cells #[.int .i64 o.disk, .int .i64 5, .string (bstr o.name), .string (bstr o.to), .slice o.bA o.body.length o.bc, .int .i64 o.at_, .int .i64 o.n, .slice o.kA o.keep.length o.kc, .int .i64 o.cap, .slice o.fA o.fn o.fc, .int .i64 o.fuse, .bool o.down] 34) = W := ⟨_, rfl⟩
  rw [hW]
  have nW : New w W := hW ▸ Kp.alloc _ _ _
  have bW : W.heap[w.heap.size]? = some (.cells #[.int .i64 o.disk, .int .i64 5, .string (bstr o.name), .string (bstr o.to), .slice o.bA o.body.length o.bc, .int .i64 o.at_, .int .i64 o.n, .slice o.kA o.keep.length o.kc, .int .i64 o.cap, .slice o.fA o.fn o.fc, .int .i64 o.fuse, .bool o.down] 34 (0, 0)) := hW ▸ heap_alloc_new w _
  clear hW
  refine (pressed_calls W o.name HO.out.name).mono ?_
  rintro e w1 ⟨rfl, n1⟩
  have b1 := heap_kp bW n1 id
  have f3 : w1.cell? ⟨w.heap.size, 3, none⟩ = some (.string (bstr o.to)) := (cell_of_block b1).trans rfl
  have HW := Lib.hid (And.intro nW (And.intro n1 b1))
  clear nW bW n1 b1
  go_wp2_with fail
  refine (pressed_calls w1 o.to HO.out.to).mono ?_
  rintro e w2 ⟨rfl, n2⟩
  have b2 := heap_kp HW.out.2.2 n2 id
  have g1 : w2.cell? ⟨w.heap.size, 1, none⟩ = some (.int .i64 5) := (cell_of_block b2).trans rfl
  have g4 : w2.cell? ⟨w.heap.size, 4, none⟩ = some (.slice o.bA o.body.length o.bc) := (cell_of_block b2).trans rfl
  have n02 : New w w2 := (HW.out.1.trans HW.out.2.1 (fun _ _ h => h) (fun _ _ h => h)).trans n2 (fun _ _ h => h) (fun _ _ h => h)
  have H2 := Lib.hid n02
  clear n02 n2 b2 HW f3
  go_wp2_with fail
  refine (find_calls w2 A c ys (pressed o.name) (HI.out.kp H2.out (fun _ _ => id)) (by omega)).mono ?_
  rintro e x ⟨rfl, rfl⟩
  obtain ⟨fl, hfl⟩ := Option.isSome_iff_exists.1 hf
  obtain ⟨i, y, hy, rfl, hyn, hfz⟩ := findZ_some hfl
  rw [hfz]
  have hil : i < ys.length := (List.getElem?_eq_some_iff.1 hy).1
  have hi0 : (0 : Int) ≤ i := by omega
  have hin : (i : Int) < (ys.length : Int) := by omega
  obtain ⟨g, rfl, r0, r1, r2, rf⟩ := (HI.out.kp H2.out (fun _ _ => id)).at_ hy
  have hdl := (HI.out.2.1 y (List.mem_of_getElem? hy)).max
  simp only [maxLen] at hdl
  have HY := Lib.hid (And.intro hy (And.intro hyn (And.intro hfl rf)))
  clear hy hyn hfl rf hf hfz
  have hrf := HY.out.2.2.2 (i * 3 + 2)
  go_wp2_with fail
  go_ret
  have hp := HI.out.put HY.out.1 (m := 2) (z := ⟨⟨y.f.name, y.f.data, y.f.data.length⟩, y.A, y.c⟩) (by omega) (.int .i64 (y.f.data.length : Int)) rfl H2.out (fun _ _ => id) ((HI.out.2.1 y (List.mem_of_getElem? HY.out.1)).new H2.out) (fun _ h => .inr h)
  exact noted_set HI.out HN.out HY.out.1 HY.out.2.1 hp rfl (H2.out.trans (Kp.setCell (S := (· ∈ nblks (some ⟨g, 0, none⟩) ys)) _ _ _ (List.mem_append_left _ (mem_bks.2 (Bk.some_.2 rfl)))) (fun _ _ h => h.elim) (fun _ _ h => h)) (fun k hk => .inl hk) (u := fun f => { f with syn := f.data.length }) rfl (by unfold notedM; rw [if_neg (by rw [HK.out]; decide), if_neg (by rw [HK.out]; decide), if_pos HK.out])

set_option maxRecDepth 100000 in
set_option maxHeartbeats 4000000 in
theorem noted_6 (w : World) (A : Option Addr) (c : Nat) (ys : List FV) (o : OpV) (h : OwnN 66 w A c ys) (ho : o.Ok w) (hl : ys.length ≤ 64) (hnd : ((ys.map FV.f).map (·.name)).Nodup) (hk : o.kind = 6) (hf : ((ys.map FV.f).find? (fun f => f.name == pressed o.name)).isSome = true) :
    Calls Try.prog 14 #[.slice A ys.length c, o.val] w (NotedPost w A ys o) := by
  have HI := Lib.hid h
  have HO := Lib.hid ho
  have HN := Lib.hid hnd
  have hmo : Try.prog.follows Departure.mixedOrders = true := by kernel_rfl
  have hpl1 := pressed_len o.name
  have hpl2 := pressed_len o.to
  have hbl := ho.bodyLen
  have hnp : NotedPost w A ys o = NotedPost w A ys o := rfl
  unfold OpV.val
  rw [hk]
  have HK := Lib.hid hk
  clear h ho hnd hk hnp
  go_enter Try.func14, Try.ntmps14
  go_wp2_with fail
  obtain ⟨W, hW⟩ : ∃ W, w.alloc (.cells #[.int .i64 o.disk, .int .i64 6, .string (bstr o.name), .string (bstr o.to), .slice o.bA o.body.length o.bc, .int .i64 o.at_, .int .i64 o.n, .slice o.kA o.keep.length o.kc, .int .i64 o.cap, .slice o.fA o.fn o.fc, .int .i64 o.fuse, .bool o.down] 34) = W := ⟨_, rfl⟩
  rw [hW]
  have nW : New w W := hW ▸ Kp.alloc _ _ _
  have bW : W.heap[w.heap.size]? = some (.cells #[.int .i64 o.disk, .int .i64 6, .string (bstr o.name), .string (bstr o.to), .slice o.bA o.body.length o.bc, .int .i64 o.at_, .int .i64 o.n, .slice o.kA o.keep.length o.kc, .int .i64 o.cap, .slice o.fA o.fn o.fc, .int .i64 o.fuse, .bool o.down] 34 (0, 0)) := hW ▸ heap_alloc_new w _
  clear hW
  refine (pressed_calls W o.name HO.out.name).mono ?_
  rintro e w1 ⟨rfl, n1⟩
  have b1 := heap_kp bW n1 id
  have f3 : w1.cell? ⟨w.heap.size, 3, none⟩ = some (.string (bstr o.to)) := (cell_of_block b1).trans rfl
  have HW := Lib.hid (And.intro nW (And.intro n1 b1))
  clear nW bW n1 b1
  go_wp2_with fail
  refine (pressed_calls w1 o.to HO.out.to).mono ?_
  rintro e w2 ⟨rfl, n2⟩
  have b2 := heap_kp HW.out.2.2 n2 id
  have g1 : w2.cell? ⟨w.heap.size, 1, none⟩ = some (.int .i64 6) := (cell_of_block b2).trans rfl
  have g4 : w2.cell? ⟨w.heap.size, 4, none⟩ = some (.slice o.bA o.body.length o.bc) := (cell_of_block b2).trans rfl
  have n02 : New w w2 := (HW.out.1.trans HW.out.2.1 (fun _ _ h => h) (fun _ _ h => h)).trans n2 (fun _ _ h => h) (fun _ _ h => h)
  have H2 := Lib.hid n02
  clear n02 n2 b2 HW f3
  go_wp2_with fail
  refine (find_calls w2 A c ys (pressed o.name) (HI.out.kp H2.out (fun _ _ => id)) (by omega)).mono ?_
  rintro e x ⟨rfl, rfl⟩
  by_cases hab : pressed o.name = pressed o.to
  · have hb : ((bstr (pressed o.name)).toList == (bstr (pressed o.to)).toList) = true := by rw [bstr_beq, decide_eq_true hab]
    have hb2 : ((bstr (pressed o.name)).toList != (bstr (pressed o.to)).toList) = false := by unfold bne; rw [hb]; rfl
    generalize findZ (ys.map FV.f) (pressed o.name) = zi
    have HA := Lib.hid hab
    clear hab hf
    go_wp2_with fail
    go_ret
    exact ⟨A, c, ys, rfl, HI.out.kp H2.out (fun _ _ => id), by unfold notedM; rw [if_neg (by rw [HK.out]; decide), if_neg (by rw [HK.out]; decide), if_neg (by rw [HK.out]; decide), if_pos HK.out, if_pos HA.out], H2.out.mono fun _ _ h => h.elim, fun _ h => .inl h⟩
  · have hb := bstr_ne hab
    have hb2 : ((bstr (pressed o.name)).toList != (bstr (pressed o.to)).toList) = true := by unfold bne; rw [hb]; rfl
    have HF := Lib.hid hf
    generalize findZ (ys.map FV.f) (pressed o.name) = zi
    have HA := Lib.hid hab
    clear hab hf
    go_wp2_with fail
    refine (dropped_calls w2 A c ys (pressed o.to) (HI.out.kp H2.out (fun _ _ => id)) hl).mono ?_
    rintro e w3 ⟨A3, c3, zs, hzs, rfl, o3, n3, f3⟩
    have hzl : zs.length ≤ ys.length := by rw [hzs]; exact List.length_filter_le _ _
    have H3 := Lib.hid (And.intro hzs (And.intro o3 (And.intro n3 f3)))
    clear hzs o3 n3 f3
    go_wp2_with fail
    refine (find_calls w3 A3 c3 zs (pressed o.name) H3.out.2.1 (by omega)).mono ?_
    rintro e x ⟨rfl, rfl⟩
    have hzm : zs.map FV.f = outF (pressed o.to) (ys.map FV.f) := by rw [H3.out.1]; unfold outF; rw [List.filter_map]; rfl
    have hzn : ((zs.map FV.f).map (·.name)).Nodup := by
      rw [hzm]
      exact HN.out.sublist ((List.filter_sublist).map _)
    have hfs : ((zs.map FV.f).find? (fun f => f.name == pressed o.name)).isSome = true := by
      rw [hzm]
      obtain ⟨f, hf⟩ := Option.isSome_iff_exists.1 HF.out
      rw [List.find?_isSome]
      exact ⟨f, List.mem_filter.2 ⟨List.mem_of_find?_eq_some hf, by have h1 := List.find?_some hf; simp at h1; simp [h1, HA.out]⟩, by have h1 := List.find?_some hf; simpa using h1⟩
    obtain ⟨fl, hfl⟩ := Option.isSome_iff_exists.1 hfs
    obtain ⟨i, y, hy, rfl, hyn, hfz⟩ := findZ_some hfl
    rw [hfz]
    have hil : i < zs.length := (List.getElem?_eq_some_iff.1 hy).1
    have hi0 : (0 : Int) ≤ i := by omega
    have hin : (i : Int) < (zs.length : Int) := by omega
    obtain ⟨g, rfl, r0, r1, r2, rf⟩ := H3.out.2.1.at_ hy
    have hrf := rf (i * 3)
    have HY := Lib.hid (And.intro hy (And.intro hyn (And.intro hzm hzn)))
    clear hy hyn hfl rf hfs hfz hzm hzn r1 r2
    go_wp2_with fail
    go_ret
    have n03 := H2.out.trans H3.out.2.2.1 (fun _ _ h => h) (fun _ _ h => h)
    have hp := H3.out.2.1.put HY.out.1 (m := 0) (z := ⟨⟨pressed o.to, y.f.data, y.f.syn⟩, y.A, y.c⟩) (by omega) (.string (bstr (pressed o.to))) rfl (Kp.refl (fun _ => False) w3) (fun _ _ => id) (H3.out.2.1.2.1 y (List.mem_of_getElem? HY.out.1)) (fun _ h => .inr h)
    have hgn : w.heap.size ≤ g := by have h1 := H3.out.2.2.2 g (Bk.some_.2 rfl); have h2 := H2.out.size; omega
    refine ⟨some ⟨g, 0, none⟩, c3, zs.set i ⟨⟨pressed o.to, y.f.data, y.f.syn⟩, y.A, y.c⟩, by rw [List.length_set]; rfl, hp, ?_, (n03.mono (U := (· ∈ nblks A ys)) (fun _ _ h => h.elim)).trans (Kp.setCell (S := fun j => j = g) _ _ _ rfl) (fun _ _ h => h) (fun j hj e => by omega), fun k hk => ?_⟩
    · rw [map_set_updF HY.out.2.2.2 HY.out.1 HY.out.2.1 (u := fun f => { f with name := pressed o.to }) rfl, HY.out.2.2.1]
      unfold notedM
      rw [if_neg (by rw [HK.out]; decide), if_neg (by rw [HK.out]; decide), if_neg (by rw [HK.out]; decide), if_pos HK.out, if_neg HA.out]
    · rcases List.mem_append.1 hk with hk | hk
      · obtain rfl : g = k := Bk.some_.1 (mem_bks.1 hk)
        exact .inr hgn
      · rcases fblks_set_cases hk with hk | hk
        · exact .inl (List.mem_append_right _ ((fblks_sub (H3.out.1 ▸ List.filter_sublist)).subset hk))
        · exact .inl (List.mem_append_right _ ((fblks_sub (H3.out.1 ▸ List.filter_sublist)).subset (mem_fblks.2 ⟨y, List.mem_of_getElem? HY.out.1, hk⟩)))

set_option maxRecDepth 100000 in
set_option maxHeartbeats 4000000 in
theorem noted_7 (w : World) (A : Option Addr) (c : Nat) (ys : List FV) (o : OpV) (h : OwnN 66 w A c ys) (ho : o.Ok w) (hl : ys.length ≤ 64) (hnd : ((ys.map FV.f).map (·.name)).Nodup) (hk : o.kind = 7) (hf : ((ys.map FV.f).find? (fun f => f.name == pressed o.name)).isSome = true) :
    Calls Try.prog 14 #[.slice A ys.length c, o.val] w (NotedPost w A ys o) := by
  have HI := Lib.hid h
  have HO := Lib.hid ho
  have HN := Lib.hid hnd
  have hmo : Try.prog.follows Departure.mixedOrders = true := by kernel_rfl
  have hpl1 := pressed_len o.name
  have hpl2 := pressed_len o.to
  have hbl := ho.bodyLen
  have hnp : NotedPost w A ys o = NotedPost w A ys o := rfl
  unfold OpV.val
  rw [hk]
  have HK := Lib.hid hk
  clear h ho hnd hk hnp
  go_enter Try.func14, Try.ntmps14
  go_wp2_with fail
  obtain ⟨W, hW⟩ : ∃ W, w.alloc (.cells #[.int .i64 o.disk, .int .i64 7, .string (bstr o.name), .string (bstr o.to), .slice o.bA o.body.length o.bc, .int .i64 o.at_, .int .i64 o.n, .slice o.kA o.keep.length o.kc, .int .i64 o.cap, .slice o.fA o.fn o.fc, .int .i64 o.fuse, .bool o.down] 34) = W := ⟨_, rfl⟩
  rw [hW]
  have nW : New w W := hW ▸ Kp.alloc _ _ _
  have bW : W.heap[w.heap.size]? = some (.cells #[.int .i64 o.disk, .int .i64 7, .string (bstr o.name), .string (bstr o.to), .slice o.bA o.body.length o.bc, .int .i64 o.at_, .int .i64 o.n, .slice o.kA o.keep.length o.kc, .int .i64 o.cap, .slice o.fA o.fn o.fc, .int .i64 o.fuse, .bool o.down] 34 (0, 0)) := hW ▸ heap_alloc_new w _
  clear hW
  refine (pressed_calls W o.name HO.out.name).mono ?_
  rintro e w1 ⟨rfl, n1⟩
  have b1 := heap_kp bW n1 id
  have f3 : w1.cell? ⟨w.heap.size, 3, none⟩ = some (.string (bstr o.to)) := (cell_of_block b1).trans rfl
  have HW := Lib.hid (And.intro nW (And.intro n1 b1))
  clear nW bW n1 b1
  go_wp2_with fail
  refine (pressed_calls w1 o.to HO.out.to).mono ?_
  rintro e w2 ⟨rfl, n2⟩
  have b2 := heap_kp HW.out.2.2 n2 id
  have g1 : w2.cell? ⟨w.heap.size, 1, none⟩ = some (.int .i64 7) := (cell_of_block b2).trans rfl
  have g4 : w2.cell? ⟨w.heap.size, 4, none⟩ = some (.slice o.bA o.body.length o.bc) := (cell_of_block b2).trans rfl
  have n02 : New w w2 := (HW.out.1.trans HW.out.2.1 (fun _ _ h => h) (fun _ _ h => h)).trans n2 (fun _ _ h => h) (fun _ _ h => h)
  have H2 := Lib.hid n02
  clear n02 n2 b2 HW f3
  go_wp2_with fail
  refine (find_calls w2 A c ys (pressed o.name) (HI.out.kp H2.out (fun _ _ => id)) (by omega)).mono ?_
  rintro e x ⟨rfl, rfl⟩
  obtain ⟨fl, hfl⟩ := Option.isSome_iff_exists.1 hf
  obtain ⟨i, y, hy, rfl, hyn, hfz⟩ := findZ_some hfl
  rw [hfz]
  have hil : i < ys.length := (List.getElem?_eq_some_iff.1 hy).1
  have hi0 : (0 : Int) ≤ i := by omega
  have hin : (i : Int) < (ys.length : Int) := by omega
  obtain ⟨g, rfl, r0, r1, r2, rf⟩ := (HI.out.kp H2.out (fun _ _ => id)).at_ hy
  have hdl := (HI.out.2.1 y (List.mem_of_getElem? hy)).max
  simp only [maxLen] at hdl
  have HY := Lib.hid (And.intro hy (And.intro hyn (And.intro hfl rf)))
  clear hy hyn hfl rf hf hfz
  clear r0 r1 r2
  go_wp2_with fail
  refine (dropped_calls w2 (some ⟨g, 0, none⟩) c ys (pressed o.name) (HI.out.kp H2.out (fun _ _ => id)) hl).mono ?_
  rintro e w3 ⟨A3, c3, zs, hzs, rfl, o3, n3, f3⟩
  have H3 := Lib.hid (And.intro hzs (And.intro o3 (And.intro n3 f3)))
  clear hzs o3 n3 f3
  go_wp2_with fail
  go_ret
  exact noted_drop (H3.out.1) H3.out.2.1 (H2.out.trans H3.out.2.2.1 (fun _ _ h => h) (fun _ _ h => h)) (fun k hk => by have h1 := H3.out.2.2.2 k hk; have h2 := H2.out.size; omega) (by unfold notedM; rw [if_neg (by rw [HK.out]; decide), if_neg (by rw [HK.out]; decide), if_neg (by rw [HK.out]; decide), if_neg (by rw [HK.out]; decide), if_pos HK.out])

theorem noted_calls (w : World) (A : Option Addr) (c : Nat) (ys : List FV) (o : OpV) (h : OwnN 66 w A c ys) (ho : o.Ok w) (hl : ys.length ≤ 64) (hnd : ((ys.map FV.f).map (·.name)).Nodup) (hk : 3 ≤ o.kind ∧ o.kind ≤ 7) (hf : o.kind ≠ 3 → ((ys.map FV.f).find? (fun f => f.name == pressed o.name)).isSome = true) (hdat : o.kind = 4 → ∀ y ∈ ys, y.f.data.length + o.body.length ≤ 140737488355328) :
    Calls Try.prog 14 #[.slice A ys.length c, o.val] w (NotedPost w A ys o) := by
  by_cases h3 : o.kind = 3
  · exact noted_3 w A c ys o h ho hl hnd h3
  by_cases h4 : o.kind = 4
  · exact noted_4 w A c ys o h ho hl hnd h4 (hf h3) (hdat h4)
  by_cases h5 : o.kind = 5
  · exact noted_5 w A c ys o h ho hl hnd h5 (hf h3)
  by_cases h6 : o.kind = 6
  · exact noted_6 w A c ys o h ho hl hnd h6 (hf h3)
  · exact noted_7 w A c ys o h ho hl hnd (by omega) (hf h3)
end Go.Proofs.Ytekcoeonlfmebaa.Kit
