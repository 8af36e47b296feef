/- 1 texts in one: PRINTED by gen_playd.py. The play of the laws of the disk: made: New and From. -/
import Derived.Test.YtekcoeonlfmebaaGreatDoorM37
import Derived.Test.YtekcoeonlfmebaaGreatDoorM40
import Derived.Test.YtekcoeonlfmebaaGreatDoorM11
namespace Go.Proofs.YtekcoeonlfmebaaGreatDoor.Kit
open Go Go.RowKit
theorem tel_fl {ys zs : List FI} (h : zs.map FI.tel = ys.map FI.tel) : zs.map FI.fl = ys.map FI.fl := by
 have : ∀ l : List FI, l.map FI.fl = (l.map FI.tel).map fun t => (⟨t.1, t.2.1, t.2.2.toNat⟩ : Fl) := fun l => by rw [List.map_map]; rfl
 rw [this, this, h]
theorem tel_syn {ys zs : List FI} (h : zs.map FI.tel = ys.map FI.tel) {P : Int → Prop} (hy : ∀ y ∈ ys, P y.syn) : ∀ z ∈ zs, P z.syn := by
 intro z hz
 have hm : z.tel ∈ ys.map FI.tel := h ▸ List.mem_map_of_mem hz
 obtain ⟨y, hy1, he⟩ := List.mem_map.1 hm
 have : z.syn = y.syn := by have := congrArg (fun t : Nm × List UInt8 × Int => t.2.2) he; exact this.symm
 rw [this]
 exact hy y hy1
theorem tel_name {ys zs : List FI} (h : zs.map FI.tel = ys.map FI.tel) {P : Nm → List UInt8 → Prop} (hy : ∀ y ∈ ys, P y.name y.data) : ∀ z ∈ zs, P z.name z.data := by
 intro z hz
 have hm : z.tel ∈ ys.map FI.tel := h ▸ List.mem_map_of_mem hz
 obtain ⟨y, hy1, he⟩ := List.mem_map.1 hm
 have h1 : z.name = y.name := by have := congrArg (fun t : Nm × List UInt8 × Int => t.1) he; exact this.symm
 have h2 : z.data = y.data := by have := congrArg (fun t : Nm × List UInt8 × Int => t.2.1) he; exact this.symm
 rw [h1, h2]
 exact hy y hy1
theorem FromOk_tel {cap fuse : Int} {down : Bool} {ys zs : List FI} (h : zs.map FI.tel = ys.map FI.tel) : FromOk cap fuse down zs ↔ FromOk cap fuse down ys := by
 have hf := tel_fl h
 have hl : zs.length = ys.length := by have := congrArg List.length h; simpa using this
 unfold FromOk VPre
 rw [hf, hl]
 constructor
 ·rintro ⟨h1, h2, h3, h4, h5, h6, h7, h8⟩
  exact ⟨h1, h2, h3, h4, h5, h6, h7, tel_syn h.symm h8⟩
 ·rintro ⟨h1, h2, h3, h4, h5, h6, h7, h8⟩
  exact ⟨h1, h2, h3, h4, h5, h6, h7, tel_syn h h8⟩
theorem InF.new {w w' : World} {A : Option Addr} {ys : List FI} (h : InF w A ys) (hk : New w w') : InF w' A ys := ⟨h.rd.new hk, h.len, h.name, h.data, h.syn⟩
theorem InF.low {W w : World} {A : Option Addr} {ys : List FI} (h : InF W A ys) (hk : Low W w) : InF w A ys := ⟨h.rd.low hk, h.len, h.name, h.data, h.syn⟩
theorem LooseOk.rdI {w w' : World} {ys zs : List FI} {A2 A3 : Option Addr} {c2 c3 : Nat} {xs : List BSl} (h : LooseOk w ys w' A2 c2 xs A3 c3 zs) : RdI w' A3 zs := by
 refine ⟨fun hne => ?_, fun z hz => ?_⟩
 ·obtain ⟨b, off, rfl, hc⟩ := h.row.rdC (by intro e; have := congrArg List.length e; rw [List.length_append, FI.flat_length] at this; simp at this; exact hne (List.eq_nil_of_length_eq_zero (by omega)))
  exact ⟨b, off, rfl, fun j u hu => hc j u (by rw [List.getElem?_append_left (List.getElem?_eq_some_iff.1 hu).1]; exact hu)⟩
 ·obtain ⟨x, hx, h1, r, h2⟩ := h.at_ z hz
  have := (h.own.2.1 x hx).rd
  rw [h2] at this
  have h3 := this.upto z.data.length
  rw [List.take_left] at h3
  rw [h1]
  exact h3
theorem LooseOk.sim {w w' : World} {ys zs : List FI} {A2 A3 : Option Addr} {c2 c3 : Nat} {xs : List BSl} (h : LooseOk w ys w' A2 c2 xs A3 c3 zs) : ∀ i, i < ys.length → ∃ nm fA fB fn fc fd sy, elt (zs.flatMap FI.cells) kFiles.sz i = cellsFiles nm fA fn fc sy ∧ elt (ys.flatMap FI.cells) kFiles.sz i = cellsFiles nm fB fn fd sy := by
 intro i hi
 have hz : i < zs.length := by rw [h.len.1]; exact hi
 have he := congrArg (fun l => l[i]?) h.tel
 simp only [List.getElem?_map, List.getElem?_eq_getElem hz, List.getElem?_eq_getElem hi, Option.map_some, Option.some.injEq, FI.tel, Prod.mk.injEq] at he
 refine ⟨zs[i].name, zs[i].A, ys[i].A, zs[i].data.length, zs[i].c, ys[i].c, zs[i].syn, FI.elt_flat (List.getElem?_eq_getElem hz), ?_⟩
 rw [he.1, he.2.1, he.2.2]
 exact FI.elt_flat (List.getElem?_eq_getElem hi)
theorem DiskAt.inF {w : World} {A : Option Addr} {c : Nat} {ys : List FV} {s : DS} (h : OwnF w A c ys) (ok : s.Ok) (hy : ys.map FV.f = s.files) : InF w A (ys.map FV.fi) := by
 have hfew := congrArg List.length hy
 rw [List.length_map] at hfew
 have h1 := ok.few
 have hone : ∀ f ∈ s.files, f.data.length ≤ 1048576 := fun f hf => by
  obtain ⟨l1, l2, he⟩ := List.append_of_mem hf
  have h3 : f.data.length ≤ s.used := by
   unfold DS.used
   rw [he, used_app, used_cons]
   omega
  have := ok.used
  have := ok.cap
  omega
 have hin : ∀ y ∈ ys.map FV.fi, ∃ z ∈ ys, z.f ∈ s.files ∧ y = z.fi := fun y hy' => by
  obtain ⟨z, hz, rfl⟩ := List.mem_map.1 hy'
  exact ⟨z, hz, hy ▸ List.mem_map_of_mem hz, rfl⟩
 refine ⟨(h.toN.rd).toI, by rw [List.length_map]; omega, fun y hy' => ?_, fun y hy' => ?_, fun y hy' => ?_⟩
 ·obtain ⟨z, hz, hf, rfl⟩ := hin y hy'
  have := ok.good _ hf
  unfold goodN at this
  rw [Bool.and_eq_true, decide_eq_true_eq] at this
  show z.f.name.length ≤ _
  omega
 ·obtain ⟨z, hz, hf, rfl⟩ := hin y hy'
  have := hone _ hf
  show z.f.data.length ≤ _
  omega
 ·obtain ⟨z, hz, hf, rfl⟩ := hin y hy'
  have h2 := hone _ hf
  have h3 := ok.syn _ hf
  show -9223372036854775808 ≤ (z.f.syn : Int) ∧ (z.f.syn : Int) ≤ _
  omega
set_option maxRecDepth 100000 in
set_option maxHeartbeats 8000000 in
theorem made_1 (W0 w : World) (g i : Nat) (D : Pairs) (Φ : Nat → Prop) (o : OpS) (h : Inv W0 g D Φ w) (hA : Alike D) (ho : o.Ok W0) (hi3 : i < 3) :
  Calls Tryz.prog 17 #[.pointer (some ⟨g, 0, none⟩), .agg (o.with i 1)] w (StepPost W0 g) := by
 unfold OpS.with
 have hmo : Tryz.prog.follows Departure.mixedOrders = true := by kernel_rfl
 have HH := Lib.hid (And.intro h (And.intro hA ho))
 have hi0 : (0 : Int) ≤ i := by omega
 have hi3' : (i : Int) < 3 := by omega
 clear h hA ho
 by_cases hn : 0 ≤ o.n ∧ o.n ≤ 1048576
 ·have HN := Lib.hid hn
  clear hn
  go_enter Tryz.func17, Tryz.ntmps17
  go_wp2_with fail
  obtain ⟨V, hV⟩ : ∃ V, w.alloc (.cells #[.int .i64 (i : Int), .int .i64 1, .string (bstr o.name), .string (bstr o.to), .slice o.bA o.body.length o.bc, .int .i64 o.at_, .int .i64 o.n, .slice o.kA o.keep.length o.kc, .int .i64 o.cap, .slice o.fA o.files.length o.fc, .int .i64 o.fuse, .bool o.down] 61) = V := ⟨_, rfl⟩
  rw [hV]
  have nV : New w V := hV ▸ Kp.alloc _ _ _
  have bV : V.heap[w.heap.size]? = some (.cells #[.int .i64 (i : Int), .int .i64 1, .string (bstr o.name), .string (bstr o.to), .slice o.bA o.body.length o.bc, .int .i64 o.at_, .int .i64 o.n, .slice o.kA o.keep.length o.kc, .int .i64 o.cap, .slice o.fA o.files.length o.fc, .int .i64 o.fuse, .bool o.down] 61 (0, 0)) := hV ▸ heap_alloc_new w _
  have zV : V.heap.size = w.heap.size + 1 := by rw [← hV]; simp
  have HV := Lib.hid (And.intro nV (And.intro bV (And.intro (HH.out.1.new nV) zV)))
  have c0 : V.cell? ⟨w.heap.size, 0, none⟩ = some (.int .i64 (i : Int)) := (cell_of_block bV).trans rfl
  have c1 : V.cell? ⟨w.heap.size, 1, none⟩ = some (.int .i64 1) := (cell_of_block bV).trans rfl
  have c6 : V.cell? ⟨w.heap.size, 6, none⟩ = some (.int .i64 o.n) := (cell_of_block bV).trans rfl
  have c8 : V.cell? ⟨w.heap.size, 8, none⟩ = some (.int .i64 o.cap) := (cell_of_block bV).trans rfl
  have c9 : V.cell? ⟨w.heap.size, 9, none⟩ = some (.slice o.fA o.files.length o.fc) := (cell_of_block bV).trans rfl
  have c10 : V.cell? ⟨w.heap.size, 10, none⟩ = some (.int .i64 o.fuse) := (cell_of_block bV).trans rfl
  have c11 : V.cell? ⟨w.heap.size, 11, none⟩ = some (.bool o.down) := (cell_of_block bV).trans rfl
  clear hV nV bV zV
  go_wp2_with fail
  refine (New_calls V o.n o.n.toNat (by have := HN.out; omega) (by have := HN.out; omega)).mono ?_
  rintro e w5 ⟨d, F, rfl, hd, n5, f5⟩
  have H5 := Lib.hid (And.intro hd (And.intro n5 f5))
  have c0 := New.cell n5 c0
  have c6 := New.cell n5 c6
  clear hd n5 f5 c1 c8 c9 c10 c11
  go_wp2_with fail
  refine (RNew_calls w5 o.n).mono ?_
  rintro e w6 hr
  rcases hr with ⟨_, _, r, G, rfl, hr, n6, f6⟩ | ⟨hn, _⟩
  case inr => exact absurd HN.out hn
  have H6 := Lib.hid (And.intro hr (And.intro n6 f6))
  have c0 := New.cell n6 c0
  have hI6 := (HV.out.2.2.1.new H5.out.2.1).new n6
  have HI6 := Lib.hid hI6
  clear hr n6 f6 c6 hI6
  go_wp2_with fail
  have g0 : w6.cell? ⟨g, i, none⟩ = some (dp D i) := (HI6.out.dpc hi3).1
  have y0 : w6.frozen? ⟨g, i, none⟩ = false := (HI6.out.dpc hi3).2
  have hbg : w.heap.size ≠ g := fun e => by have := HH.out.1.book.lt g HH.out.1.book.g; omega
  have HBG := Lib.hid hbg
  clear hbg
  refine wp_region_line (fun w' => w'.cell? ⟨w.heap.size, 0, none⟩ = some (.int .i64 (i : Int))) (pl := [(0, true), (1, true), (2, true), (3, true), (4, true), (5, true), (6, true), (7, false)]) hmo (by kernel_rfl) (by simpa using c0) ?_
  iterate 7 (refine line_get rfl rfl (fun K hK => ?_); apply Exists.intro; refine ⟨fun w s => ?_, ?_⟩; (first | (have q := s rfl; go_simp; with_reducible rfl) | (go_simp; with_reducible rfl)); (go_simp; refine hK _ ?_; clear hK K))
  have g0d : w6.drew.cell? ⟨g, i, none⟩ = some (dp D i) := New.cell (Kp.drew _ _) g0
  have y0d : w6.drew.frozen? ⟨g, i, none⟩ = false := y0
  (refine line_do rfl rfl (fun K hK => ?_); go_simp)
  refine hK _ _ (no_need (by kernel_rfl)) ?_
  clear hK K
  refine line_nil ?_
  obtain ⟨s1, hs1⟩ : ∃ s1, (w6.setCell ⟨g, i, none⟩ (.pointer (some ⟨d, 0, none⟩))).drew = s1 := ⟨_, rfl⟩
  have hs1' : w6.drew.setCell ⟨g, i, none⟩ (.pointer (some ⟨d, 0, none⟩)) = s1 := hs1
  first | rw [hs1] | rw [hs1']
  have hb1 : BX book3 (fun _ => 0) s1 g ((pcOf D).set i (.pointer (some ⟨d, 0, none⟩))) Φ := hs1 ▸ (HI6.out.book.setPc book3_ok (j := i) (by simp [pcOf]; omega) (.pointer (some ⟨d, 0, none⟩))).new book3_ok (Kp.drew _ _)
  have ks1 : Kp (fun x => x = g) w6 s1 := hs1 ▸ (Kp.setCell (S := fun x => x = g) w6 ⟨g, i, none⟩ (.pointer (some ⟨d, 0, none⟩)) rfl).trans (Kp.drew _ _) fid fid
  have c0s : s1.cell? ⟨w.heap.size, 0, none⟩ = some (.int .i64 (i : Int)) := ks1.cell_of c0 (fun e => HBG.out e)
  have g1 := (hb1.cell (j := 3 + i) (v := rp D i) (by rw [List.getElem?_set_ne (by omega)]; exact pcOf_rp D hi3)).1
  have y1 := (hb1.cell (j := 3 + i) (v := rp D i) (by rw [List.getElem?_set_ne (by omega)]; exact pcOf_rp D hi3)).2
  have HS1 := Lib.hid (And.intro hb1 ks1)
  clear hs1 hs1' hb1 ks1 g0 y0 g0d y0d
  go_wp2_with fail
  refine wp_region_line (fun w' => w'.cell? ⟨w.heap.size, 0, none⟩ = some (.int .i64 (i : Int))) (pl := [(0, true), (1, true), (2, true), (3, true), (4, true), (5, true), (6, true), (7, false)]) hmo (by kernel_rfl) (by simpa using c0s) ?_
  iterate 7 (refine line_get rfl rfl (fun K hK => ?_); apply Exists.intro; refine ⟨fun w s => ?_, ?_⟩; (first | (have q := s rfl; go_simp; with_reducible rfl) | (go_simp; with_reducible rfl)); (go_simp; refine hK _ ?_; clear hK K))
  have g1d : s1.drew.cell? ⟨g, 3 + i, none⟩ = some (rp D i) := New.cell (Kp.drew _ _) g1
  have y1d : s1.drew.frozen? ⟨g, 3 + i, none⟩ = false := y1
  (refine line_do rfl rfl (fun K hK => ?_); go_simp)
  refine hK _ _ (no_need (by kernel_rfl)) ?_
  clear hK K
  refine line_nil ?_
  obtain ⟨s2, hs2⟩ : ∃ s2, (s1.setCell ⟨g, 3 + i, none⟩ (.pointer (some ⟨r, 0, none⟩))).drew = s2 := ⟨_, rfl⟩
  have hs2' : s1.drew.setCell ⟨g, 3 + i, none⟩ (.pointer (some ⟨r, 0, none⟩)) = s2 := hs2
  first | rw [hs2] | rw [hs2']
  have hb2 : BX book3 (fun _ => 0) s2 g (((pcOf D).set i (.pointer (some ⟨d, 0, none⟩))).set (3 + i) (.pointer (some ⟨r, 0, none⟩))) Φ := hs2 ▸ (HS1.out.1.setPc book3_ok (j := 3 + i) (by simp [pcOf]; omega) (.pointer (some ⟨r, 0, none⟩))).new book3_ok (Kp.drew _ _)
  have ks2 : Kp (fun x => x = g) w6 s2 := HS1.out.2.trans (hs2 ▸ (Kp.setCell (S := fun x => x = g) s1 ⟨g, 3 + i, none⟩ (.pointer (some ⟨r, 0, none⟩)) rfl).trans (Kp.drew _ _) fid fid) fid fid
  have HS2 := Lib.hid (And.intro hb2 ks2)
  clear hs2 hs2' hb2 ks2 g1 y1 g1d y1d c0s
  clear c0
  go_wp2_with fail
  refine (num_calls _ _).mono ?_
  rintro e w' ⟨rfl, rfl⟩
  go_wp2_with fail
  refine (num_calls _ _).mono ?_
  rintro e w' ⟨rfl, rfl⟩
  go_wp2_with fail
  go_ret
  refine ⟨by simp, upD D i (some ⟨d, r, DS.new o.n.toNat, DS.new o.n.toNat, F, G⟩), Φ, ?_, HH.out.2.1.up rfl⟩
  have hb := HS2.out.1
  have e0 := pcOf_set D hi3 (some ⟨d, r, DS.new o.n.toNat, DS.new o.n.toNat, F, G⟩)
  rw [show ((pcOf D).set i (.pointer (some ⟨d, 0, none⟩))).set (3 + i) (.pointer (some ⟨r, 0, none⟩)) = pcOf (upD D i (some ⟨d, r, DS.new o.n.toNat, DS.new o.n.toNat, F, G⟩)) from e0] at hb
  have hz5 := H5.out.2.1.size
  have hfr : ∀ k, PD.Fp ⟨d, r, DS.new o.n.toNat, DS.new o.n.toNat, F, G⟩ k → V.heap.size ≤ k := fun k hk => hk.elim (H5.out.2.2 k) (fun hk => by have := H6.out.2.2 k hk; omega)
  have hlow := HV.out.2.2.1.low.size
  refine HI6.out.reset hb HS2.out.2 (fun x hx => ?_) (fun x hx k hk hf => ?_) (fun x hx j z _ hz k hk hf => ?_) (fun x hx k hk => ?_)
  ·cases hx
   exact ⟨H5.out.1.new H6.out.2.1, H6.out.1, fun k hk hg => by have := H5.out.1.lt k hk; have := H6.out.2.2 k hg; omega⟩
  ·cases hx
   have := hfr k hk
   have := HV.out.2.2.1.book.lt k hf
   omega
  ·cases hx
   have := hfr k hk
   have := (HV.out.2.2.1.at_ j z hz).lt k hf
   omega
  ·cases hx
   have := hfr k hk
   omega
 ·have HN := Lib.hid hn
  clear hn
  go_enter Tryz.func17, Tryz.ntmps17
  go_wp2_with fail
  obtain ⟨V, hV⟩ : ∃ V, w.alloc (.cells #[.int .i64 (i : Int), .int .i64 1, .string (bstr o.name), .string (bstr o.to), .slice o.bA o.body.length o.bc, .int .i64 o.at_, .int .i64 o.n, .slice o.kA o.keep.length o.kc, .int .i64 o.cap, .slice o.fA o.files.length o.fc, .int .i64 o.fuse, .bool o.down] 61) = V := ⟨_, rfl⟩
  rw [hV]
  have nV : New w V := hV ▸ Kp.alloc _ _ _
  have bV : V.heap[w.heap.size]? = some (.cells #[.int .i64 (i : Int), .int .i64 1, .string (bstr o.name), .string (bstr o.to), .slice o.bA o.body.length o.bc, .int .i64 o.at_, .int .i64 o.n, .slice o.kA o.keep.length o.kc, .int .i64 o.cap, .slice o.fA o.files.length o.fc, .int .i64 o.fuse, .bool o.down] 61 (0, 0)) := hV ▸ heap_alloc_new w _
  have zV : V.heap.size = w.heap.size + 1 := by rw [← hV]; simp
  have HV := Lib.hid (And.intro nV (And.intro bV (And.intro (HH.out.1.new nV) zV)))
  have c0 : V.cell? ⟨w.heap.size, 0, none⟩ = some (.int .i64 (i : Int)) := (cell_of_block bV).trans rfl
  have c1 : V.cell? ⟨w.heap.size, 1, none⟩ = some (.int .i64 1) := (cell_of_block bV).trans rfl
  have c6 : V.cell? ⟨w.heap.size, 6, none⟩ = some (.int .i64 o.n) := (cell_of_block bV).trans rfl
  have c8 : V.cell? ⟨w.heap.size, 8, none⟩ = some (.int .i64 o.cap) := (cell_of_block bV).trans rfl
  have c9 : V.cell? ⟨w.heap.size, 9, none⟩ = some (.slice o.fA o.files.length o.fc) := (cell_of_block bV).trans rfl
  have c10 : V.cell? ⟨w.heap.size, 10, none⟩ = some (.int .i64 o.fuse) := (cell_of_block bV).trans rfl
  have c11 : V.cell? ⟨w.heap.size, 11, none⟩ = some (.bool o.down) := (cell_of_block bV).trans rfl
  clear hV nV bV zV
  go_wp2_with fail
  refine (New_bad V o.n (by have := HN.out; omega)).mono ?_
  rintro e w5 ⟨rfl, rfl⟩
  clear c1 c8 c9 c10 c11
  go_wp2_with fail
  refine (RNew_calls V o.n).mono ?_
  rintro e w6 hr
  rcases hr with ⟨h1, h2, _⟩ | ⟨_, rfl, n6⟩
  case inl => exact absurd ⟨h1, h2⟩ HN.out
  have c0 := New.cell n6 c0
  have hI6 := HV.out.2.2.1.new n6
  have HI6 := Lib.hid hI6
  clear n6 c6 hI6
  go_wp2_with fail
  have g0 : w6.cell? ⟨g, i, none⟩ = some (dp D i) := (HI6.out.dpc hi3).1
  have y0 : w6.frozen? ⟨g, i, none⟩ = false := (HI6.out.dpc hi3).2
  have hbg : w.heap.size ≠ g := fun e => by have := HH.out.1.book.lt g HH.out.1.book.g; omega
  have HBG := Lib.hid hbg
  clear hbg
  refine wp_region_line (fun w' => w'.cell? ⟨w.heap.size, 0, none⟩ = some (.int .i64 (i : Int))) (pl := [(0, true), (1, true), (2, true), (3, true), (4, true), (5, true), (6, true), (7, false)]) hmo (by kernel_rfl) (by simpa using c0) ?_
  iterate 7 (refine line_get rfl rfl (fun K hK => ?_); apply Exists.intro; refine ⟨fun w s => ?_, ?_⟩; (first | (have q := s rfl; go_simp; with_reducible rfl) | (go_simp; with_reducible rfl)); (go_simp; refine hK _ ?_; clear hK K))
  have g0d : w6.drew.cell? ⟨g, i, none⟩ = some (dp D i) := New.cell (Kp.drew _ _) g0
  have y0d : w6.drew.frozen? ⟨g, i, none⟩ = false := y0
  (refine line_do rfl rfl (fun K hK => ?_); go_simp)
  refine hK _ _ (no_need (by kernel_rfl)) ?_
  clear hK K
  refine line_nil ?_
  obtain ⟨s1, hs1⟩ : ∃ s1, (w6.setCell ⟨g, i, none⟩ (.pointer none)).drew = s1 := ⟨_, rfl⟩
  have hs1' : w6.drew.setCell ⟨g, i, none⟩ (.pointer none) = s1 := hs1
  first | rw [hs1] | rw [hs1']
  have hb1 : BX book3 (fun _ => 0) s1 g ((pcOf D).set i (.pointer none)) Φ := hs1 ▸ (HI6.out.book.setPc book3_ok (j := i) (by simp [pcOf]; omega) (.pointer none)).new book3_ok (Kp.drew _ _)
  have ks1 : Kp (fun x => x = g) w6 s1 := hs1 ▸ (Kp.setCell (S := fun x => x = g) w6 ⟨g, i, none⟩ (.pointer none) rfl).trans (Kp.drew _ _) fid fid
  have c0s : s1.cell? ⟨w.heap.size, 0, none⟩ = some (.int .i64 (i : Int)) := ks1.cell_of c0 (fun e => HBG.out e)
  have g1 := (hb1.cell (j := 3 + i) (v := rp D i) (by rw [List.getElem?_set_ne (by omega)]; exact pcOf_rp D hi3)).1
  have y1 := (hb1.cell (j := 3 + i) (v := rp D i) (by rw [List.getElem?_set_ne (by omega)]; exact pcOf_rp D hi3)).2
  have HS1 := Lib.hid (And.intro hb1 ks1)
  clear hs1 hs1' hb1 ks1 g0 y0 g0d y0d
  go_wp2_with fail
  refine wp_region_line (fun w' => w'.cell? ⟨w.heap.size, 0, none⟩ = some (.int .i64 (i : Int))) (pl := [(0, true), (1, true), (2, true), (3, true), (4, true), (5, true), (6, true), (7, false)]) hmo (by kernel_rfl) (by simpa using c0s) ?_
  iterate 7 (refine line_get rfl rfl (fun K hK => ?_); apply Exists.intro; refine ⟨fun w s => ?_, ?_⟩; (first | (have q := s rfl; go_simp; with_reducible rfl) | (go_simp; with_reducible rfl)); (go_simp; refine hK _ ?_; clear hK K))
  have g1d : s1.drew.cell? ⟨g, 3 + i, none⟩ = some (rp D i) := New.cell (Kp.drew _ _) g1
  have y1d : s1.drew.frozen? ⟨g, 3 + i, none⟩ = false := y1
  (refine line_do rfl rfl (fun K hK => ?_); go_simp)
  refine hK _ _ (no_need (by kernel_rfl)) ?_
  clear hK K
  refine line_nil ?_
  obtain ⟨s2, hs2⟩ : ∃ s2, (s1.setCell ⟨g, 3 + i, none⟩ (.pointer none)).drew = s2 := ⟨_, rfl⟩
  have hs2' : s1.drew.setCell ⟨g, 3 + i, none⟩ (.pointer none) = s2 := hs2
  first | rw [hs2] | rw [hs2']
  have hb2 : BX book3 (fun _ => 0) s2 g (((pcOf D).set i (.pointer none)).set (3 + i) (.pointer none)) Φ := hs2 ▸ (HS1.out.1.setPc book3_ok (j := 3 + i) (by simp [pcOf]; omega) (.pointer none)).new book3_ok (Kp.drew _ _)
  have ks2 : Kp (fun x => x = g) w6 s2 := HS1.out.2.trans (hs2 ▸ (Kp.setCell (S := fun x => x = g) s1 ⟨g, 3 + i, none⟩ (.pointer none) rfl).trans (Kp.drew _ _) fid fid) fid fid
  have HS2 := Lib.hid (And.intro hb2 ks2)
  clear hs2 hs2' hb2 ks2 g1 y1 g1d y1d c0s
  clear c0
  go_wp2_with fail
  refine (num_calls _ _).mono ?_
  rintro e w' ⟨rfl, rfl⟩
  go_wp2_with fail
  refine (num_calls _ _).mono ?_
  rintro e w' ⟨rfl, rfl⟩
  go_wp2_with fail
  go_ret
  refine ⟨by simp, upD D i none, Φ, ?_, HH.out.2.1.upN⟩
  have hb := HS2.out.1
  rw [show ((pcOf D).set i (.pointer none)).set (3 + i) (.pointer none) = pcOf (upD D i none) from pcOf_set D hi3 none] at hb
  exact HI6.out.reset hb HS2.out.2 (fun x hx => by cases hx) (fun x hx => by cases hx) (fun x hx => by cases hx) (fun x hx => by cases hx)
set_option maxRecDepth 100000 in
set_option maxHeartbeats 8000000 in
theorem made_2_ok (W0 w : World) (g i : Nat) (D : Pairs) (Φ : Nat → Prop) (o : OpS) (h : Inv W0 g D Φ w) (hA : Alike D) (ho : o.Ok W0) (hi3 : i < 3) (hF : FromOk o.cap o.fuse o.down o.files) :
  Calls Tryz.prog 17 #[.pointer (some ⟨g, 0, none⟩), .agg (o.with i 2)] w (StepPost W0 g) := by
 unfold OpS.with
 have hmo : Tryz.prog.follows Departure.mixedOrders = true := by kernel_rfl
 have HH := Lib.hid (And.intro h (And.intro hA ho))
 have hi0 : (0 : Int) ≤ i := by omega
 have hi3' : (i : Int) < 3 := by omega
 clear h hA ho
 have HF := Lib.hid hF
 clear hF
 go_enter Tryz.func17, Tryz.ntmps17
 go_wp2_with fail
 obtain ⟨V, hV⟩ : ∃ V, w.alloc (.cells #[.int .i64 (i : Int), .int .i64 2, .string (bstr o.name), .string (bstr o.to), .slice o.bA o.body.length o.bc, .int .i64 o.at_, .int .i64 o.n, .slice o.kA o.keep.length o.kc, .int .i64 o.cap, .slice o.fA o.files.length o.fc, .int .i64 o.fuse, .bool o.down] 61) = V := ⟨_, rfl⟩
 rw [hV]
 have nV : New w V := hV ▸ Kp.alloc _ _ _
 have bV : V.heap[w.heap.size]? = some (.cells #[.int .i64 (i : Int), .int .i64 2, .string (bstr o.name), .string (bstr o.to), .slice o.bA o.body.length o.bc, .int .i64 o.at_, .int .i64 o.n, .slice o.kA o.keep.length o.kc, .int .i64 o.cap, .slice o.fA o.files.length o.fc, .int .i64 o.fuse, .bool o.down] 61 (0, 0)) := hV ▸ heap_alloc_new w _
 have zV : V.heap.size = w.heap.size + 1 := by rw [← hV]; simp
 have HV := Lib.hid (And.intro nV (And.intro bV (And.intro (HH.out.1.new nV) zV)))
 have c0 : V.cell? ⟨w.heap.size, 0, none⟩ = some (.int .i64 (i : Int)) := (cell_of_block bV).trans rfl
 have c1 : V.cell? ⟨w.heap.size, 1, none⟩ = some (.int .i64 2) := (cell_of_block bV).trans rfl
 have c6 : V.cell? ⟨w.heap.size, 6, none⟩ = some (.int .i64 o.n) := (cell_of_block bV).trans rfl
 have c8 : V.cell? ⟨w.heap.size, 8, none⟩ = some (.int .i64 o.cap) := (cell_of_block bV).trans rfl
 have c9 : V.cell? ⟨w.heap.size, 9, none⟩ = some (.slice o.fA o.files.length o.fc) := (cell_of_block bV).trans rfl
 have c10 : V.cell? ⟨w.heap.size, 10, none⟩ = some (.int .i64 o.fuse) := (cell_of_block bV).trans rfl
 have c11 : V.cell? ⟨w.heap.size, 11, none⟩ = some (.bool o.down) := (cell_of_block bV).trans rfl
 clear hV nV bV zV
 go_wp2_with fail
 obtain ⟨w3, hw3⟩ : ∃ w3, V.alloc (.cells #[.int .i64 o.cap, .slice o.fA o.files.length o.fc, .int .i64 o.fuse, .bool o.down] 59) = w3 := ⟨_, rfl⟩
 rw [hw3]
 have n3 : New V w3 := hw3 ▸ Kp.alloc _ _ _
 have b3 : w3.heap[w.heap.size + 1]? = some (.cells #[.int .i64 o.cap, .slice o.fA o.files.length o.fc, .int .i64 o.fuse, .bool o.down] 59 (0, 0)) := by
  have := hw3 ▸ heap_alloc_new V (.cells #[.int .i64 o.cap, .slice o.fA o.files.length o.fc, .int .i64 o.fuse, .bool o.down] 59)
  rwa [HV.out.2.2.2] at this
 have z3 : w3.heap.size = V.heap.size + 1 := by rw [← hw3]; simp
 have HS := Lib.hid (And.intro (HV.out.2.2.1.new n3) (And.intro ((HH.out.2.2.files.low HV.out.2.2.1.low).new n3) (And.intro b3 (And.intro (heap_kp' HV.out.2.1 n3 id) (show w.heap.size < w3.heap.size by have := HV.out.2.2.2; omega)))))
 have t0 : w3.cell? ⟨w.heap.size + 1, 0, none⟩ = some (.int .i64 o.cap) := (cell_of_block b3).trans rfl
 have t1 : w3.cell? ⟨w.heap.size + 1, 1, none⟩ = some (.slice o.fA o.files.length o.fc) := (cell_of_block b3).trans rfl
 have t2 : w3.cell? ⟨w.heap.size + 1, 2, none⟩ = some (.int .i64 o.fuse) := (cell_of_block b3).trans rfl
 have t3 : w3.cell? ⟨w.heap.size + 1, 3, none⟩ = some (.bool o.down) := (cell_of_block b3).trans rfl
 clear hw3 n3 b3 z3 c0 c1 c6 c8 c9 c10 c11
 refine (loosened_calls w3 o.cap o.fuse o.down o.fA o.fc o.files HS.out.2.1 HS.out.1.tab).mono ?_
 rintro e w5 ⟨A2, c2, xs, A3, c3, zs, rfl, hlo⟩
 have hll := hlo.len
 have HL := Lib.hid (And.intro hlo hll)
 clear hlo hll t0 t1 t2 t3
 go_wp2_with fail
 obtain ⟨w6, hw6⟩ : ∃ w6, w5.alloc (.cells #[.int .i64 o.cap, .slice A3 zs.length c3, .int .i64 o.fuse, .bool o.down] 59) = w6 := ⟨_, rfl⟩
 rw [hw6]
 have n6 : New w5 w6 := hw6 ▸ Kp.alloc _ _ _
 have b6 : w6.heap[w5.heap.size]? = some (.cells #[.int .i64 o.cap, .slice A3 zs.length c3, .int .i64 o.fuse, .bool o.down] 59 (0, 0)) := hw6 ▸ heap_alloc_new w5 _
 have z6 : w6.heap.size = w5.heap.size + 1 := by rw [← hw6]; simp
 have H6 := Lib.hid (And.intro n6 (And.intro b6 z6))
 clear hw6 n6 b6 z6
 refine (From_calls w6 o.cap o.fuse o.down A3 c3 zs.length zs rfl (HL.out.1.rdI.new H6.out.1) (by have := HL.out.2.1; have := HS.out.2.1.len; omega) (tel_name HL.out.1.tel (P := fun a b => a.length ≤ 9223372036854775807 ∧ b.length ≤ 9223372036854775807) (fun y hy => ⟨HS.out.2.1.name y hy, by have := HS.out.2.1.data y hy; omega⟩)) (tel_syn HL.out.1.tel (P := fun v => -9223372036854775808 ≤ v ∧ v ≤ 9223372036854775807) HS.out.2.1.syn)).mono ?_
 rintro e w7 hf7
 rcases hf7 with ⟨_, d, F, rfl, hd, n7, f7⟩ | ⟨hno, _⟩
 case inr => exact absurd ((FromOk_tel HL.out.1.tel).2 HF.out) hno
 rw [tel_fl HL.out.1.tel] at hd
 have H7 := Lib.hid (And.intro hd (And.intro n7 f7))
 clear hd f7
 have n37 : New w3 w7 := (HL.out.1.new.trans H6.out.1 fid fid).trans n7 fid fid
 have N37 := Lib.hid (And.intro n37 n7)
 have b9 := heap_kp' HS.out.2.2.1 n37 id
 have t0 : w7.cell? ⟨w.heap.size + 1, 0, none⟩ = some (.int .i64 o.cap) := (cell_of_block b9).trans rfl
 have t1 : w7.cell? ⟨w.heap.size + 1, 1, none⟩ = some (.slice o.fA o.files.length o.fc) := (cell_of_block b9).trans rfl
 have t2 : w7.cell? ⟨w.heap.size + 1, 2, none⟩ = some (.int .i64 o.fuse) := (cell_of_block b9).trans rfl
 have t3 : w7.cell? ⟨w.heap.size + 1, 3, none⟩ = some (.bool o.down) := (cell_of_block b9).trans rfl
 clear n7 n37 b9
 go_wp2_with fail
 refine (RFrom_calls w7 o.cap o.fuse o.down o.fA o.fc o.files (HS.out.2.1.rd.new N37.out.1) (by have := HS.out.2.1.len; omega) (fun y hy => by have := HS.out.2.1.data y hy; omega) HS.out.2.1.name).mono ?_
 rintro e w8 hf8
 rcases hf8 with ⟨_, r, G, rfl, hr, n8, f8⟩ | ⟨hno, _⟩
 case inr => exact absurd HF.out hno
 have H8 := Lib.hid (And.intro hr (And.intro n8 f8))
 clear hr f8
 clear t0 t1 t2 t3
 have n38 : New w3 w8 := N37.out.1.trans n8 fid fid
 have n68 : New w6 w8 := N37.out.2.trans n8 fid fid
 have b9 := heap_kp' HS.out.2.2.1 n38 id
 have b10 := heap_kp' H6.out.2.1 n68 id
 have t0 : w8.cell? ⟨w.heap.size + 1, 0, none⟩ = some (.int .i64 o.cap) := (cell_of_block b9).trans rfl
 have t1 : w8.cell? ⟨w.heap.size + 1, 1, none⟩ = some (.slice o.fA o.files.length o.fc) := (cell_of_block b9).trans rfl
 have t2 : w8.cell? ⟨w.heap.size + 1, 2, none⟩ = some (.int .i64 o.fuse) := (cell_of_block b9).trans rfl
 have t3 : w8.cell? ⟨w.heap.size + 1, 3, none⟩ = some (.bool o.down) := (cell_of_block b9).trans rfl
 have u0 : w8.cell? ⟨w5.heap.size, 0, none⟩ = some (.int .i64 o.cap) := (cell_of_block b10).trans rfl
 have u1 : w8.cell? ⟨w5.heap.size, 1, none⟩ = some (.slice A3 zs.length c3) := (cell_of_block b10).trans rfl
 have u2 : w8.cell? ⟨w5.heap.size, 2, none⟩ = some (.int .i64 o.fuse) := (cell_of_block b10).trans rfl
 have u3 : w8.cell? ⟨w5.heap.size, 3, none⟩ = some (.bool o.down) := (cell_of_block b10).trans rfl
 have N8 := Lib.hid (And.intro n38 (And.intro n68 (And.intro (H6.out.1.trans n68 fid fid) n8)))
 clear n38 n68 n8 b9 b10
 go_wp2_with fail
 refine (num_calls _ _).mono ?_
 rintro e w' ⟨rfl, rfl⟩
 go_wp2_with fail
 refine (num_calls _ _).mono ?_
 rintro e w' ⟨rfl, rfl⟩
 go_wp2_with fail
 refine (SameI_calls w8 o.cap o.fuse o.down A3 o.fA zs.length o.files.length c3 o.fc zs o.files (HL.out.1.rdI.new N8.out.2.2.1) (HS.out.2.1.rd.new N8.out.1) HL.out.1.tel rfl (by have := HL.out.2.1; omega) (by have := HL.out.2.1; have := HS.out.2.1.len; omega)).mono ?_
 rintro e w9 ⟨rfl, n9⟩
 have HN9 := Lib.hid n9
 clear n9 t0 t1 t2 t3 u0 u1 u2 u3
 have hxl : xs.length = o.files.length := by have := HL.out.2.2; omega
 have hyl : o.files.length ≤ 2932031007317 := HS.out.2.1.len
 have HXL := Lib.hid hxl
 clear hxl
 go_wp2_with fail
 go_loopw [17, 18] (fun q j wr => ∃ k : Nat, k ≤ o.files.length ∧ j = .int .i64 (k : Int) ∧ q = .bool true ∧ Hid (New w9 wr)) (fun _ j _ => o.files.length - (intOf j).toNat)
 case atStart => exact ⟨0, Nat.zero_le _, rfl, rfl, Lib.hid (Kp.refl _ _)⟩
 case round =>
  obtain ⟨k, hk, rfl, rfl, HK⟩ := hrel
  have hk0 : (0 : Int) ≤ k := by omega
  have n3r : New w3 wr := (N8.out.1.trans HN9.out fid fid).trans HK.out fid fid
  have n5r : New w5 wr := (N8.out.2.2.1.trans HN9.out fid fid).trans HK.out fid fid
  have b9 := heap_kp' HS.out.2.2.1 n3r id
  have t0 : wr.cell? ⟨w.heap.size + 1, 0, none⟩ = some (.int .i64 o.cap) := (cell_of_block b9).trans rfl
  have t1 : wr.cell? ⟨w.heap.size + 1, 1, none⟩ = some (.slice o.fA o.files.length o.fc) := (cell_of_block b9).trans rfl
  have t2 : wr.cell? ⟨w.heap.size + 1, 2, none⟩ = some (.int .i64 o.fuse) := (cell_of_block b9).trans rfl
  have t3 : wr.cell? ⟨w.heap.size + 1, 3, none⟩ = some (.bool o.down) := (cell_of_block b9).trans rfl
  have HNR := Lib.hid (And.intro n3r n5r)
  clear n3r n5r b9 t0 t2 t3
  rw [HXL.out]
  by_cases hlt : k < o.files.length
  ·have hki : (k : Int) < (o.files.length : Int) := by omega
   obtain ⟨y, hy⟩ : ∃ y, (o.files)[k]? = some y := ⟨_, List.getElem?_eq_getElem (by simpa using hlt)⟩
   obtain ⟨xk, hxk⟩ : ∃ xk, xs[k]? = some xk := ⟨_, List.getElem?_eq_getElem (by have := HXL.out; omega)⟩
   have hxy : xk.l = y.data ++ marksB 700000 64 := by
    have := congrArg (fun l => l[k]?) HL.out.1.lists
    simp only [List.getElem?_map] at this
    rw [hxk] at this
    rw [hy] at this
    simpa using this
   have hrd := (HS.out.2.1.rd.new HNR.out.1)
   obtain ⟨bq, oq, hbq, r0, r1, r2⟩ := hrd.at_ hy
   have hyr := hrd.2 y (List.mem_of_getElem? hy)
   have hyl2 := HS.out.2.1.data y (List.mem_of_getElem? hy)
   have hxo := (HL.out.1.own.2.1 xk (List.mem_of_getElem? hxk)).new HNR.out.2
   rw [hxy] at hxo
   have hrow := HL.out.1.own.1.new HNR.out.2
   obtain ⟨gx, hgx⟩ := hrow.some_ (by have := HXL.out; omega)
   have s1 : wr.cell? ⟨gx, k, none⟩ = some (.slice xk.A (y.data.length + 64) xk.c) := by
    rw [hgx] at hrow
    have := hrow.cell (j := k) (u := xk.val) (by rw [List.getElem?_map, hxk]; rfl)
    rw [this]
    unfold BSl.val
    rw [hxy, List.length_append, marksB_length]
   have HG := Lib.hid (And.intro hgx hbq)
   have HY := Lib.hid (And.intro hyr hxo)
   rw [hgx]
   rw [hbq] at t1
   clear hy hxk hxy hrd r0 r2 hyr hxo hrow hgx hbq
   go_wp2_with fail
   refine wp_region_line (fun w' => w'.cell? ⟨gx, k, none⟩ = some (.slice xk.A (y.data.length + 64) xk.c) ∧ w'.cell? ⟨w.heap.size + 1, 1, none⟩ = some (.slice (some ⟨bq, oq, none⟩) o.files.length o.fc) ∧ w'.cell? ⟨bq, oq + k * 3 + 1, none⟩ = some (.slice y.A y.data.length y.c)) (pl := [(0, true), (1, true), (2, true), (3, true), (4, true), (5, true), (6, true), (7, true), (8, true), (9, true), (10, true), (11, true), (12, false), (13, true), (14, true)]) hmo (by kernel_rfl) ⟨by simpa using s1, by simpa using t1, by simpa using r1⟩ ?_
   iterate 12 (refine line_get rfl rfl (fun K hK => ?_); apply Exists.intro; refine ⟨fun w s => ?_, ?_⟩; (first | (have q := s rfl; go_simp; with_reducible rfl) | (go_simp; with_reducible rfl)); (go_simp; refine hK _ ?_; clear hK K))
   (refine line_do rfl rfl (fun K hK => ?_); go_simp)
   have nd : New wr wr.drew := Kp.drew _ _
   refine (KeptB_calls wr.drew xk.A y.A (y.data.length + 64) y.data.length xk.c y.c y.data (HY.out.2.new nd |>.rd2 (l := y.data ++ marksB 700000 64)) (HY.out.1.new nd) rfl rfl hyl2).mono ?_
   rintro e wq ⟨rfl, qq, rfl⟩
   refine hK _ _ (no_need (by kernel_rfl)) ?_
   clear hK K nd s1 t1 r1
   iterate 2 (refine line_get rfl rfl (fun K hK => ?_); apply Exists.intro; refine ⟨fun w s => ?_, ?_⟩; (first | (have q := s rfl; go_simp; with_reducible rfl) | (go_simp; with_reducible rfl)); (go_simp; refine hK _ ?_; clear hK K))
   refine line_nil ?_
   go_wp2_with fail
   refine ⟨⟨k + 1, by omega, by go_num, rfl, Lib.hid (HK.out.trans (Kp.drewN (fun _ => False) wr _) fid fid)⟩, by simp [intOf]; omega⟩
  ·obtain rfl : k = o.files.length := by omega
   have hkd : decide (o.files.length < o.files.length) = false := by simp
   go_wp2_with fail
   rw [show zs.length = o.files.length from HL.out.2.1]
   refine (KeptF_calls wr A3 o.fA o.files.length c3 o.fc (zs.flatMap FI.cells) (o.files.flatMap FI.cells) (by have := HL.out.1.row.new HNR.out.2; exact this.rdC) (fun hne => (HS.out.2.1.rd.new HNR.out.1).1 (by intro e; rw [e] at hne; exact hne rfl)) (by rw [FI.flat_length, HL.out.2.1]; rfl) (by rw [FI.flat_length]; rfl) (by have := HL.out.1.sim; exact this) hyl (HS.out.1.tab.new HNR.out.1)).mono ?_
   rintro e wb ⟨rfl, nb⟩
   have NRB := Lib.hid nb
   have NB := Lib.hid (And.intro (HNR.out.1.trans nb fid fid) (HNR.out.2.trans nb fid fid))
   clear nb t1
   go_wp2_with fail
   have hov := over_calls wb A2 A3 c2 c3 (zs.length + 64) xs (zs.flatMap FI.cells ++ kFiles.marks 700000 64) ((HL.out.1.own.keep fun k hk => NB.out.2.block k (HL.out.1.own.lt k hk) id).wr) (HL.out.1.row.new NB.out.2) (fun k hk hm => HL.out.1.apart k hk (List.mem_append_right _ hm))
   rw [HXL.out, show zs.length = o.files.length from HL.out.2.1] at hov
   have HO := Lib.hid hov
   clear hov
   refine HO.out.mono ?_
   rintro e wc ⟨rfl, kc⟩
   have hSf : ∀ k, (k ∈ blks xs ∨ Bk A3 k) → w3.heap.size ≤ k ∧ k < w5.heap.size := fun k hk => ⟨HL.out.1.fresh k (hk.elim (fun h => .inr (List.mem_append_right _ h)) .inl), hk.elim (fun h => HL.out.1.own.lt k (List.mem_append_right _ h)) (fun h => HL.out.1.row.lt k h)⟩
   have hI3 := HS.out.1
   have hIb := hI3.new NB.out.1
   have hIc := hIb.free kc (fun k hs hf => by have := hSf k hs; have := hI3.book.lt k hf; omega) (fun j z hz k hf hs => by have := hSf k hs; have := (hI3.at_ j z hz).lt k hf; omega) (fun k hs => by have := hSf k hs; have := hI3.low.size; omega)
   have bb := heap_kp' (heap_kp' HS.out.2.2.2.1 NB.out.1 id) kc (fun hs => by have := hSf _ hs; have := HS.out.2.2.2.2; omega)
   have cz : wc.cell? ⟨w.heap.size, 0, none⟩ = some (.int .i64 (i : Int)) := (cell_of_block bb).trans rfl
   have HC := Lib.hid (And.intro hIc (And.intro kc hSf))
   clear hSf hI3 hIb hIc bb kc HO
   go_wp2_with fail
   have g0 : wc.cell? ⟨g, i, none⟩ = some (dp D i) := (HC.out.1.dpc hi3).1
   have y0 : wc.frozen? ⟨g, i, none⟩ = false := (HC.out.1.dpc hi3).2
   have hbg : w.heap.size ≠ g := fun e => by have := HH.out.1.book.lt g HH.out.1.book.g; omega
   have HBG := Lib.hid hbg
   clear hbg
   refine wp_region_line (fun w' => w'.cell? ⟨w.heap.size, 0, none⟩ = some (.int .i64 (i : Int))) (pl := [(0, true), (1, true), (2, true), (3, true), (4, true), (5, true), (6, true), (7, false)]) hmo (by kernel_rfl) (by simpa using cz) ?_
   iterate 7 (refine line_get rfl rfl (fun K hK => ?_); apply Exists.intro; refine ⟨fun w s => ?_, ?_⟩; (first | (have q := s rfl; go_simp; with_reducible rfl) | (go_simp; with_reducible rfl)); (go_simp; refine hK _ ?_; clear hK K))
   have g0d : wc.drew.cell? ⟨g, i, none⟩ = some (dp D i) := New.cell (Kp.drew _ _) g0
   have y0d : wc.drew.frozen? ⟨g, i, none⟩ = false := y0
   (refine line_do rfl rfl (fun K hK => ?_); go_simp)
   refine hK _ _ (no_need (by kernel_rfl)) ?_
   clear hK K
   refine line_nil ?_
   obtain ⟨s1, hs1⟩ : ∃ s1, (wc.setCell ⟨g, i, none⟩ (.pointer (some ⟨d, 0, none⟩))).drew = s1 := ⟨_, rfl⟩
   have hs1' : wc.drew.setCell ⟨g, i, none⟩ (.pointer (some ⟨d, 0, none⟩)) = s1 := hs1
   first | rw [hs1] | rw [hs1']
   have hb1 : BX book3 (fun _ => 0) s1 g ((pcOf D).set i (.pointer (some ⟨d, 0, none⟩))) Φ := hs1 ▸ (HC.out.1.book.setPc book3_ok (j := i) (by simp [pcOf]; omega) (.pointer (some ⟨d, 0, none⟩))).new book3_ok (Kp.drew _ _)
   have ks1 : Kp (fun x => x = g) wc s1 := hs1 ▸ (Kp.setCell (S := fun x => x = g) wc ⟨g, i, none⟩ (.pointer (some ⟨d, 0, none⟩)) rfl).trans (Kp.drew _ _) fid fid
   have c0s : s1.cell? ⟨w.heap.size, 0, none⟩ = some (.int .i64 (i : Int)) := ks1.cell_of cz (fun e => HBG.out e)
   have g1 := (hb1.cell (j := 3 + i) (v := rp D i) (by rw [List.getElem?_set_ne (by omega)]; exact pcOf_rp D hi3)).1
   have y1 := (hb1.cell (j := 3 + i) (v := rp D i) (by rw [List.getElem?_set_ne (by omega)]; exact pcOf_rp D hi3)).2
   have HS1 := Lib.hid (And.intro hb1 ks1)
   clear hs1 hs1' hb1 ks1 g0 y0 g0d y0d
   go_wp2_with fail
   refine wp_region_line (fun w' => w'.cell? ⟨w.heap.size, 0, none⟩ = some (.int .i64 (i : Int))) (pl := [(0, true), (1, true), (2, true), (3, true), (4, true), (5, true), (6, true), (7, false)]) hmo (by kernel_rfl) (by simpa using c0s) ?_
   iterate 7 (refine line_get rfl rfl (fun K hK => ?_); apply Exists.intro; refine ⟨fun w s => ?_, ?_⟩; (first | (have q := s rfl; go_simp; with_reducible rfl) | (go_simp; with_reducible rfl)); (go_simp; refine hK _ ?_; clear hK K))
   have g1d : s1.drew.cell? ⟨g, 3 + i, none⟩ = some (rp D i) := New.cell (Kp.drew _ _) g1
   have y1d : s1.drew.frozen? ⟨g, 3 + i, none⟩ = false := y1
   (refine line_do rfl rfl (fun K hK => ?_); go_simp)
   refine hK _ _ (no_need (by kernel_rfl)) ?_
   clear hK K
   refine line_nil ?_
   obtain ⟨s2, hs2⟩ : ∃ s2, (s1.setCell ⟨g, 3 + i, none⟩ (.pointer (some ⟨r, 0, none⟩))).drew = s2 := ⟨_, rfl⟩
   have hs2' : s1.drew.setCell ⟨g, 3 + i, none⟩ (.pointer (some ⟨r, 0, none⟩)) = s2 := hs2
   first | rw [hs2] | rw [hs2']
   have hb2 : BX book3 (fun _ => 0) s2 g (((pcOf D).set i (.pointer (some ⟨d, 0, none⟩))).set (3 + i) (.pointer (some ⟨r, 0, none⟩))) Φ := hs2 ▸ (HS1.out.1.setPc book3_ok (j := 3 + i) (by simp [pcOf]; omega) (.pointer (some ⟨r, 0, none⟩))).new book3_ok (Kp.drew _ _)
   have ks2 : Kp (fun x => x = g) wc s2 := HS1.out.2.trans (hs2 ▸ (Kp.setCell (S := fun x => x = g) s1 ⟨g, 3 + i, none⟩ (.pointer (some ⟨r, 0, none⟩)) rfl).trans (Kp.drew _ _) fid fid) fid fid
   have HS2 := Lib.hid (And.intro hb2 ks2)
   clear hs2 hs2' hb2 ks2 g1 y1 g1d y1d c0s
   clear cz
   go_wp2_with fail
   go_ret
   refine ⟨by simp, upD D i (some ⟨d, r, ⟨o.cap.toNat, o.files.map FI.fl, o.fuse, o.down⟩, ⟨o.cap.toNat, o.files.map FI.fl, o.fuse, o.down⟩, F, G⟩), Φ, ?_, HH.out.2.1.up rfl⟩
   have hb := HS2.out.1
   have e0 := pcOf_set D hi3 (some ⟨d, r, ⟨o.cap.toNat, o.files.map FI.fl, o.fuse, o.down⟩, ⟨o.cap.toNat, o.files.map FI.fl, o.fuse, o.down⟩, F, G⟩)
   rw [show ((pcOf D).set i (.pointer (some ⟨d, 0, none⟩))).set (3 + i) (.pointer (some ⟨r, 0, none⟩)) = pcOf (upD D i (some ⟨d, r, ⟨o.cap.toNat, o.files.map FI.fl, o.fuse, o.down⟩, ⟨o.cap.toNat, o.files.map FI.fl, o.fuse, o.down⟩, F, G⟩)) from e0] at hb
   have h56 := H6.out.2.2
   have h67 := H7.out.2.1.size
   have h35 := HL.out.1.new.size
   have hfr : ∀ k, PD.Fp ⟨d, r, ⟨o.cap.toNat, o.files.map FI.fl, o.fuse, o.down⟩, ⟨o.cap.toNat, o.files.map FI.fl, o.fuse, o.down⟩, F, G⟩ k → w6.heap.size ≤ k := fun k hk => hk.elim (H7.out.2.2 k) (fun hk => by have := H8.out.2.2 k hk; omega)
   have hlow := HS.out.1.low.size
   have n8c : Kp (fun k => k ∈ blks xs ∨ Bk A3 k) w8 wc := ((HN9.out.trans HK.out fid fid).trans (S := fun _ => False) (T := fun _ => False) (U := fun _ => False) NRB.out fid fid).trans HC.out.2.1 (fun _ _ h => h.elim) fid
   refine HC.out.1.reset hb HS2.out.2 (fun x hx => ?_) (fun x hx k hk hf => ?_) (fun x hx j z _ hz k hk hf => ?_) (fun x hx k hk => ?_)
   ·cases hx
    exact ⟨(H7.out.1.new N8.out.2.2.2).kp n8c (fun k hk hs => by have := HC.out.2.2 k hs; have := H7.out.2.2 k hk; omega), H8.out.1.kp n8c (fun k hk hs => by have := HC.out.2.2 k hs; have := H8.out.2.2 k hk; omega), fun k hk hg => by have := H7.out.1.lt k hk; have := H8.out.2.2 k hg; omega⟩
   ·cases hx
    have := hfr k hk
    have := HS.out.1.book.lt k hf
    omega
   ·cases hx
    have := hfr k hk
    have := (HS.out.1.at_ j z hz).lt k hf
    omega
   ·cases hx
    have := hfr k hk
    omega
set_option maxRecDepth 100000 in
set_option maxHeartbeats 8000000 in
theorem made_2_no (W0 w : World) (g i : Nat) (D : Pairs) (Φ : Nat → Prop) (o : OpS) (h : Inv W0 g D Φ w) (hA : Alike D) (ho : o.Ok W0) (hi3 : i < 3) (hF : ¬ FromOk o.cap o.fuse o.down o.files) :
  Calls Tryz.prog 17 #[.pointer (some ⟨g, 0, none⟩), .agg (o.with i 2)] w (StepPost W0 g) := by
 unfold OpS.with
 have hmo : Tryz.prog.follows Departure.mixedOrders = true := by kernel_rfl
 have HH := Lib.hid (And.intro h (And.intro hA ho))
 have hi0 : (0 : Int) ≤ i := by omega
 have hi3' : (i : Int) < 3 := by omega
 clear h hA ho
 have HF := Lib.hid hF
 clear hF
 go_enter Tryz.func17, Tryz.ntmps17
 go_wp2_with fail
 obtain ⟨V, hV⟩ : ∃ V, w.alloc (.cells #[.int .i64 (i : Int), .int .i64 2, .string (bstr o.name), .string (bstr o.to), .slice o.bA o.body.length o.bc, .int .i64 o.at_, .int .i64 o.n, .slice o.kA o.keep.length o.kc, .int .i64 o.cap, .slice o.fA o.files.length o.fc, .int .i64 o.fuse, .bool o.down] 61) = V := ⟨_, rfl⟩
 rw [hV]
 have nV : New w V := hV ▸ Kp.alloc _ _ _
 have bV : V.heap[w.heap.size]? = some (.cells #[.int .i64 (i : Int), .int .i64 2, .string (bstr o.name), .string (bstr o.to), .slice o.bA o.body.length o.bc, .int .i64 o.at_, .int .i64 o.n, .slice o.kA o.keep.length o.kc, .int .i64 o.cap, .slice o.fA o.files.length o.fc, .int .i64 o.fuse, .bool o.down] 61 (0, 0)) := hV ▸ heap_alloc_new w _
 have zV : V.heap.size = w.heap.size + 1 := by rw [← hV]; simp
 have HV := Lib.hid (And.intro nV (And.intro bV (And.intro (HH.out.1.new nV) zV)))
 have c0 : V.cell? ⟨w.heap.size, 0, none⟩ = some (.int .i64 (i : Int)) := (cell_of_block bV).trans rfl
 have c1 : V.cell? ⟨w.heap.size, 1, none⟩ = some (.int .i64 2) := (cell_of_block bV).trans rfl
 have c6 : V.cell? ⟨w.heap.size, 6, none⟩ = some (.int .i64 o.n) := (cell_of_block bV).trans rfl
 have c8 : V.cell? ⟨w.heap.size, 8, none⟩ = some (.int .i64 o.cap) := (cell_of_block bV).trans rfl
 have c9 : V.cell? ⟨w.heap.size, 9, none⟩ = some (.slice o.fA o.files.length o.fc) := (cell_of_block bV).trans rfl
 have c10 : V.cell? ⟨w.heap.size, 10, none⟩ = some (.int .i64 o.fuse) := (cell_of_block bV).trans rfl
 have c11 : V.cell? ⟨w.heap.size, 11, none⟩ = some (.bool o.down) := (cell_of_block bV).trans rfl
 clear hV nV bV zV
 go_wp2_with fail
 obtain ⟨w3, hw3⟩ : ∃ w3, V.alloc (.cells #[.int .i64 o.cap, .slice o.fA o.files.length o.fc, .int .i64 o.fuse, .bool o.down] 59) = w3 := ⟨_, rfl⟩
 rw [hw3]
 have n3 : New V w3 := hw3 ▸ Kp.alloc _ _ _
 have b3 : w3.heap[w.heap.size + 1]? = some (.cells #[.int .i64 o.cap, .slice o.fA o.files.length o.fc, .int .i64 o.fuse, .bool o.down] 59 (0, 0)) := by
  have := hw3 ▸ heap_alloc_new V (.cells #[.int .i64 o.cap, .slice o.fA o.files.length o.fc, .int .i64 o.fuse, .bool o.down] 59)
  rwa [HV.out.2.2.2] at this
 have z3 : w3.heap.size = V.heap.size + 1 := by rw [← hw3]; simp
 have HS := Lib.hid (And.intro (HV.out.2.2.1.new n3) (And.intro ((HH.out.2.2.files.low HV.out.2.2.1.low).new n3) (And.intro b3 (And.intro (heap_kp' HV.out.2.1 n3 id) (show w.heap.size < w3.heap.size by have := HV.out.2.2.2; omega)))))
 have t0 : w3.cell? ⟨w.heap.size + 1, 0, none⟩ = some (.int .i64 o.cap) := (cell_of_block b3).trans rfl
 have t1 : w3.cell? ⟨w.heap.size + 1, 1, none⟩ = some (.slice o.fA o.files.length o.fc) := (cell_of_block b3).trans rfl
 have t2 : w3.cell? ⟨w.heap.size + 1, 2, none⟩ = some (.int .i64 o.fuse) := (cell_of_block b3).trans rfl
 have t3 : w3.cell? ⟨w.heap.size + 1, 3, none⟩ = some (.bool o.down) := (cell_of_block b3).trans rfl
 clear hw3 n3 b3 z3 c0 c1 c6 c8 c9 c10 c11
 refine (loosened_calls w3 o.cap o.fuse o.down o.fA o.fc o.files HS.out.2.1 HS.out.1.tab).mono ?_
 rintro e w5 ⟨A2, c2, xs, A3, c3, zs, rfl, hlo⟩
 have hll := hlo.len
 have HL := Lib.hid (And.intro hlo hll)
 clear hlo hll t0 t1 t2 t3
 go_wp2_with fail
 obtain ⟨w6, hw6⟩ : ∃ w6, w5.alloc (.cells #[.int .i64 o.cap, .slice A3 zs.length c3, .int .i64 o.fuse, .bool o.down] 59) = w6 := ⟨_, rfl⟩
 rw [hw6]
 have n6 : New w5 w6 := hw6 ▸ Kp.alloc _ _ _
 have b6 : w6.heap[w5.heap.size]? = some (.cells #[.int .i64 o.cap, .slice A3 zs.length c3, .int .i64 o.fuse, .bool o.down] 59 (0, 0)) := hw6 ▸ heap_alloc_new w5 _
 have z6 : w6.heap.size = w5.heap.size + 1 := by rw [← hw6]; simp
 have H6 := Lib.hid (And.intro n6 (And.intro b6 z6))
 clear hw6 n6 b6 z6
 refine (From_calls w6 o.cap o.fuse o.down A3 c3 zs.length zs rfl (HL.out.1.rdI.new H6.out.1) (by have := HL.out.2.1; have := HS.out.2.1.len; omega) (tel_name HL.out.1.tel (P := fun a b => a.length ≤ 9223372036854775807 ∧ b.length ≤ 9223372036854775807) (fun y hy => ⟨HS.out.2.1.name y hy, by have := HS.out.2.1.data y hy; omega⟩)) (tel_syn HL.out.1.tel (P := fun v => -9223372036854775808 ≤ v ∧ v ≤ 9223372036854775807) HS.out.2.1.syn)).mono ?_
 rintro e w7 hf7
 rcases hf7 with ⟨hyes, _⟩ | ⟨_, rfl, n7⟩
 case inl => exact absurd ((FromOk_tel HL.out.1.tel).1 hyes) HF.out
 have n37 : New w3 w7 := (HL.out.1.new.trans H6.out.1 fid fid).trans n7 fid fid
 have N37 := Lib.hid (And.intro n37 n7)
 have b9 := heap_kp' HS.out.2.2.1 n37 id
 have t0 : w7.cell? ⟨w.heap.size + 1, 0, none⟩ = some (.int .i64 o.cap) := (cell_of_block b9).trans rfl
 have t1 : w7.cell? ⟨w.heap.size + 1, 1, none⟩ = some (.slice o.fA o.files.length o.fc) := (cell_of_block b9).trans rfl
 have t2 : w7.cell? ⟨w.heap.size + 1, 2, none⟩ = some (.int .i64 o.fuse) := (cell_of_block b9).trans rfl
 have t3 : w7.cell? ⟨w.heap.size + 1, 3, none⟩ = some (.bool o.down) := (cell_of_block b9).trans rfl
 clear n7 n37 b9
 go_wp2_with fail
 refine (RFrom_calls w7 o.cap o.fuse o.down o.fA o.fc o.files (HS.out.2.1.rd.new N37.out.1) (by have := HS.out.2.1.len; omega) (fun y hy => by have := HS.out.2.1.data y hy; omega) HS.out.2.1.name).mono ?_
 rintro e w8 hf8
 rcases hf8 with ⟨hyes, _⟩ | ⟨_, rfl, n8⟩
 case inl => exact absurd hyes HF.out
 clear t0 t1 t2 t3
 have n38 : New w3 w8 := N37.out.1.trans n8 fid fid
 have n68 : New w6 w8 := N37.out.2.trans n8 fid fid
 have b9 := heap_kp' HS.out.2.2.1 n38 id
 have b10 := heap_kp' H6.out.2.1 n68 id
 have t0 : w8.cell? ⟨w.heap.size + 1, 0, none⟩ = some (.int .i64 o.cap) := (cell_of_block b9).trans rfl
 have t1 : w8.cell? ⟨w.heap.size + 1, 1, none⟩ = some (.slice o.fA o.files.length o.fc) := (cell_of_block b9).trans rfl
 have t2 : w8.cell? ⟨w.heap.size + 1, 2, none⟩ = some (.int .i64 o.fuse) := (cell_of_block b9).trans rfl
 have t3 : w8.cell? ⟨w.heap.size + 1, 3, none⟩ = some (.bool o.down) := (cell_of_block b9).trans rfl
 have u0 : w8.cell? ⟨w5.heap.size, 0, none⟩ = some (.int .i64 o.cap) := (cell_of_block b10).trans rfl
 have u1 : w8.cell? ⟨w5.heap.size, 1, none⟩ = some (.slice A3 zs.length c3) := (cell_of_block b10).trans rfl
 have u2 : w8.cell? ⟨w5.heap.size, 2, none⟩ = some (.int .i64 o.fuse) := (cell_of_block b10).trans rfl
 have u3 : w8.cell? ⟨w5.heap.size, 3, none⟩ = some (.bool o.down) := (cell_of_block b10).trans rfl
 have N8 := Lib.hid (And.intro n38 (And.intro n68 (And.intro (H6.out.1.trans n68 fid fid) n8)))
 clear n38 n68 n8 b9 b10
 go_wp2_with fail
 refine (num_calls _ _).mono ?_
 rintro e w' ⟨rfl, rfl⟩
 go_wp2_with fail
 refine (num_calls _ _).mono ?_
 rintro e w' ⟨rfl, rfl⟩
 go_wp2_with fail
 refine (SameI_calls w8 o.cap o.fuse o.down A3 o.fA zs.length o.files.length c3 o.fc zs o.files (HL.out.1.rdI.new N8.out.2.2.1) (HS.out.2.1.rd.new N8.out.1) HL.out.1.tel rfl (by have := HL.out.2.1; omega) (by have := HL.out.2.1; have := HS.out.2.1.len; omega)).mono ?_
 rintro e w9 ⟨rfl, n9⟩
 have HN9 := Lib.hid n9
 clear n9 t0 t1 t2 t3 u0 u1 u2 u3
 have hxl : xs.length = o.files.length := by have := HL.out.2.2; omega
 have hyl : o.files.length ≤ 2932031007317 := HS.out.2.1.len
 have HXL := Lib.hid hxl
 clear hxl
 go_wp2_with fail
 go_loopw [17, 18] (fun q j wr => ∃ k : Nat, k ≤ o.files.length ∧ j = .int .i64 (k : Int) ∧ q = .bool true ∧ Hid (New w9 wr)) (fun _ j _ => o.files.length - (intOf j).toNat)
 case atStart => exact ⟨0, Nat.zero_le _, rfl, rfl, Lib.hid (Kp.refl _ _)⟩
 case round =>
  obtain ⟨k, hk, rfl, rfl, HK⟩ := hrel
  have hk0 : (0 : Int) ≤ k := by omega
  have n3r : New w3 wr := (N8.out.1.trans HN9.out fid fid).trans HK.out fid fid
  have n5r : New w5 wr := (N8.out.2.2.1.trans HN9.out fid fid).trans HK.out fid fid
  have b9 := heap_kp' HS.out.2.2.1 n3r id
  have t0 : wr.cell? ⟨w.heap.size + 1, 0, none⟩ = some (.int .i64 o.cap) := (cell_of_block b9).trans rfl
  have t1 : wr.cell? ⟨w.heap.size + 1, 1, none⟩ = some (.slice o.fA o.files.length o.fc) := (cell_of_block b9).trans rfl
  have t2 : wr.cell? ⟨w.heap.size + 1, 2, none⟩ = some (.int .i64 o.fuse) := (cell_of_block b9).trans rfl
  have t3 : wr.cell? ⟨w.heap.size + 1, 3, none⟩ = some (.bool o.down) := (cell_of_block b9).trans rfl
  have HNR := Lib.hid (And.intro n3r n5r)
  clear n3r n5r b9 t0 t2 t3
  rw [HXL.out]
  by_cases hlt : k < o.files.length
  ·have hki : (k : Int) < (o.files.length : Int) := by omega
   obtain ⟨y, hy⟩ : ∃ y, (o.files)[k]? = some y := ⟨_, List.getElem?_eq_getElem (by simpa using hlt)⟩
   obtain ⟨xk, hxk⟩ : ∃ xk, xs[k]? = some xk := ⟨_, List.getElem?_eq_getElem (by have := HXL.out; omega)⟩
   have hxy : xk.l = y.data ++ marksB 700000 64 := by
    have := congrArg (fun l => l[k]?) HL.out.1.lists
    simp only [List.getElem?_map] at this
    rw [hxk] at this
    rw [hy] at this
    simpa using this
   have hrd := (HS.out.2.1.rd.new HNR.out.1)
   obtain ⟨bq, oq, hbq, r0, r1, r2⟩ := hrd.at_ hy
   have hyr := hrd.2 y (List.mem_of_getElem? hy)
   have hyl2 := HS.out.2.1.data y (List.mem_of_getElem? hy)
   have hxo := (HL.out.1.own.2.1 xk (List.mem_of_getElem? hxk)).new HNR.out.2
   rw [hxy] at hxo
   have hrow := HL.out.1.own.1.new HNR.out.2
   obtain ⟨gx, hgx⟩ := hrow.some_ (by have := HXL.out; omega)
   have s1 : wr.cell? ⟨gx, k, none⟩ = some (.slice xk.A (y.data.length + 64) xk.c) := by
    rw [hgx] at hrow
    have := hrow.cell (j := k) (u := xk.val) (by rw [List.getElem?_map, hxk]; rfl)
    rw [this]
    unfold BSl.val
    rw [hxy, List.length_append, marksB_length]
   have HG := Lib.hid (And.intro hgx hbq)
   have HY := Lib.hid (And.intro hyr hxo)
   rw [hgx]
   rw [hbq] at t1
   clear hy hxk hxy hrd r0 r2 hyr hxo hrow hgx hbq
   go_wp2_with fail
   refine wp_region_line (fun w' => w'.cell? ⟨gx, k, none⟩ = some (.slice xk.A (y.data.length + 64) xk.c) ∧ w'.cell? ⟨w.heap.size + 1, 1, none⟩ = some (.slice (some ⟨bq, oq, none⟩) o.files.length o.fc) ∧ w'.cell? ⟨bq, oq + k * 3 + 1, none⟩ = some (.slice y.A y.data.length y.c)) (pl := [(0, true), (1, true), (2, true), (3, true), (4, true), (5, true), (6, true), (7, true), (8, true), (9, true), (10, true), (11, true), (12, false), (13, true), (14, true)]) hmo (by kernel_rfl) ⟨by simpa using s1, by simpa using t1, by simpa using r1⟩ ?_
   iterate 12 (refine line_get rfl rfl (fun K hK => ?_); apply Exists.intro; refine ⟨fun w s => ?_, ?_⟩; (first | (have q := s rfl; go_simp; with_reducible rfl) | (go_simp; with_reducible rfl)); (go_simp; refine hK _ ?_; clear hK K))
   (refine line_do rfl rfl (fun K hK => ?_); go_simp)
   have nd : New wr wr.drew := Kp.drew _ _
   refine (KeptB_calls wr.drew xk.A y.A (y.data.length + 64) y.data.length xk.c y.c y.data (HY.out.2.new nd |>.rd2 (l := y.data ++ marksB 700000 64)) (HY.out.1.new nd) rfl rfl hyl2).mono ?_
   rintro e wq ⟨rfl, qq, rfl⟩
   refine hK _ _ (no_need (by kernel_rfl)) ?_
   clear hK K nd s1 t1 r1
   iterate 2 (refine line_get rfl rfl (fun K hK => ?_); apply Exists.intro; refine ⟨fun w s => ?_, ?_⟩; (first | (have q := s rfl; go_simp; with_reducible rfl) | (go_simp; with_reducible rfl)); (go_simp; refine hK _ ?_; clear hK K))
   refine line_nil ?_
   go_wp2_with fail
   refine ⟨⟨k + 1, by omega, by go_num, rfl, Lib.hid (HK.out.trans (Kp.drewN (fun _ => False) wr _) fid fid)⟩, by simp [intOf]; omega⟩
  ·obtain rfl : k = o.files.length := by omega
   have hkd : decide (o.files.length < o.files.length) = false := by simp
   go_wp2_with fail
   rw [show zs.length = o.files.length from HL.out.2.1]
   refine (KeptF_calls wr A3 o.fA o.files.length c3 o.fc (zs.flatMap FI.cells) (o.files.flatMap FI.cells) (by have := HL.out.1.row.new HNR.out.2; exact this.rdC) (fun hne => (HS.out.2.1.rd.new HNR.out.1).1 (by intro e; rw [e] at hne; exact hne rfl)) (by rw [FI.flat_length, HL.out.2.1]; rfl) (by rw [FI.flat_length]; rfl) (by have := HL.out.1.sim; exact this) hyl (HS.out.1.tab.new HNR.out.1)).mono ?_
   rintro e wb ⟨rfl, nb⟩
   have NB := Lib.hid (And.intro (HNR.out.1.trans nb fid fid) (HNR.out.2.trans nb fid fid))
   clear nb t1
   go_wp2_with fail
   have hov := over_calls wb A2 A3 c2 c3 (zs.length + 64) xs (zs.flatMap FI.cells ++ kFiles.marks 700000 64) ((HL.out.1.own.keep fun k hk => NB.out.2.block k (HL.out.1.own.lt k hk) id).wr) (HL.out.1.row.new NB.out.2) (fun k hk hm => HL.out.1.apart k hk (List.mem_append_right _ hm))
   rw [HXL.out, show zs.length = o.files.length from HL.out.2.1] at hov
   have HO := Lib.hid hov
   clear hov
   refine HO.out.mono ?_
   rintro e wc ⟨rfl, kc⟩
   have hSf : ∀ k, (k ∈ blks xs ∨ Bk A3 k) → w3.heap.size ≤ k ∧ k < w5.heap.size := fun k hk => ⟨HL.out.1.fresh k (hk.elim (fun h => .inr (List.mem_append_right _ h)) .inl), hk.elim (fun h => HL.out.1.own.lt k (List.mem_append_right _ h)) (fun h => HL.out.1.row.lt k h)⟩
   have hI3 := HS.out.1
   have hIb := hI3.new NB.out.1
   have hIc := hIb.free kc (fun k hs hf => by have := hSf k hs; have := hI3.book.lt k hf; omega) (fun j z hz k hf hs => by have := hSf k hs; have := (hI3.at_ j z hz).lt k hf; omega) (fun k hs => by have := hSf k hs; have := hI3.low.size; omega)
   have bb := heap_kp' (heap_kp' HS.out.2.2.2.1 NB.out.1 id) kc (fun hs => by have := hSf _ hs; have := HS.out.2.2.2.2; omega)
   have cz : wc.cell? ⟨w.heap.size, 0, none⟩ = some (.int .i64 (i : Int)) := (cell_of_block bb).trans rfl
   have HC := Lib.hid (And.intro hIc (And.intro kc hSf))
   clear hSf hI3 hIb hIc bb kc HO
   go_wp2_with fail
   have g0 : wc.cell? ⟨g, i, none⟩ = some (dp D i) := (HC.out.1.dpc hi3).1
   have y0 : wc.frozen? ⟨g, i, none⟩ = false := (HC.out.1.dpc hi3).2
   have hbg : w.heap.size ≠ g := fun e => by have := HH.out.1.book.lt g HH.out.1.book.g; omega
   have HBG := Lib.hid hbg
   clear hbg
   refine wp_region_line (fun w' => w'.cell? ⟨w.heap.size, 0, none⟩ = some (.int .i64 (i : Int))) (pl := [(0, true), (1, true), (2, true), (3, true), (4, true), (5, true), (6, true), (7, false)]) hmo (by kernel_rfl) (by simpa using cz) ?_
   iterate 7 (refine line_get rfl rfl (fun K hK => ?_); apply Exists.intro; refine ⟨fun w s => ?_, ?_⟩; (first | (have q := s rfl; go_simp; with_reducible rfl) | (go_simp; with_reducible rfl)); (go_simp; refine hK _ ?_; clear hK K))
   have g0d : wc.drew.cell? ⟨g, i, none⟩ = some (dp D i) := New.cell (Kp.drew _ _) g0
   have y0d : wc.drew.frozen? ⟨g, i, none⟩ = false := y0
   (refine line_do rfl rfl (fun K hK => ?_); go_simp)
   refine hK _ _ (no_need (by kernel_rfl)) ?_
   clear hK K
   refine line_nil ?_
   obtain ⟨s1, hs1⟩ : ∃ s1, (wc.setCell ⟨g, i, none⟩ (.pointer none)).drew = s1 := ⟨_, rfl⟩
   have hs1' : wc.drew.setCell ⟨g, i, none⟩ (.pointer none) = s1 := hs1
   first | rw [hs1] | rw [hs1']
   have hb1 : BX book3 (fun _ => 0) s1 g ((pcOf D).set i (.pointer none)) Φ := hs1 ▸ (HC.out.1.book.setPc book3_ok (j := i) (by simp [pcOf]; omega) (.pointer none)).new book3_ok (Kp.drew _ _)
   have ks1 : Kp (fun x => x = g) wc s1 := hs1 ▸ (Kp.setCell (S := fun x => x = g) wc ⟨g, i, none⟩ (.pointer none) rfl).trans (Kp.drew _ _) fid fid
   have c0s : s1.cell? ⟨w.heap.size, 0, none⟩ = some (.int .i64 (i : Int)) := ks1.cell_of cz (fun e => HBG.out e)
   have g1 := (hb1.cell (j := 3 + i) (v := rp D i) (by rw [List.getElem?_set_ne (by omega)]; exact pcOf_rp D hi3)).1
   have y1 := (hb1.cell (j := 3 + i) (v := rp D i) (by rw [List.getElem?_set_ne (by omega)]; exact pcOf_rp D hi3)).2
   have HS1 := Lib.hid (And.intro hb1 ks1)
   clear hs1 hs1' hb1 ks1 g0 y0 g0d y0d
   go_wp2_with fail
   refine wp_region_line (fun w' => w'.cell? ⟨w.heap.size, 0, none⟩ = some (.int .i64 (i : Int))) (pl := [(0, true), (1, true), (2, true), (3, true), (4, true), (5, true), (6, true), (7, false)]) hmo (by kernel_rfl) (by simpa using c0s) ?_
   iterate 7 (refine line_get rfl rfl (fun K hK => ?_); apply Exists.intro; refine ⟨fun w s => ?_, ?_⟩; (first | (have q := s rfl; go_simp; with_reducible rfl) | (go_simp; with_reducible rfl)); (go_simp; refine hK _ ?_; clear hK K))
   have g1d : s1.drew.cell? ⟨g, 3 + i, none⟩ = some (rp D i) := New.cell (Kp.drew _ _) g1
   have y1d : s1.drew.frozen? ⟨g, 3 + i, none⟩ = false := y1
   (refine line_do rfl rfl (fun K hK => ?_); go_simp)
   refine hK _ _ (no_need (by kernel_rfl)) ?_
   clear hK K
   refine line_nil ?_
   obtain ⟨s2, hs2⟩ : ∃ s2, (s1.setCell ⟨g, 3 + i, none⟩ (.pointer none)).drew = s2 := ⟨_, rfl⟩
   have hs2' : s1.drew.setCell ⟨g, 3 + i, none⟩ (.pointer none) = s2 := hs2
   first | rw [hs2] | rw [hs2']
   have hb2 : BX book3 (fun _ => 0) s2 g (((pcOf D).set i (.pointer none)).set (3 + i) (.pointer none)) Φ := hs2 ▸ (HS1.out.1.setPc book3_ok (j := 3 + i) (by simp [pcOf]; omega) (.pointer none)).new book3_ok (Kp.drew _ _)
   have ks2 : Kp (fun x => x = g) wc s2 := HS1.out.2.trans (hs2 ▸ (Kp.setCell (S := fun x => x = g) s1 ⟨g, 3 + i, none⟩ (.pointer none) rfl).trans (Kp.drew _ _) fid fid) fid fid
   have HS2 := Lib.hid (And.intro hb2 ks2)
   clear hs2 hs2' hb2 ks2 g1 y1 g1d y1d c0s
   clear cz
   go_wp2_with fail
   go_ret
   refine ⟨by simp, upD D i none, Φ, ?_, HH.out.2.1.upN⟩
   have hb := HS2.out.1
   rw [show ((pcOf D).set i (.pointer none)).set (3 + i) (.pointer none) = pcOf (upD D i none) from pcOf_set D hi3 none] at hb
   exact HC.out.1.reset hb HS2.out.2 (fun x hx => by cases hx) (fun x hx => by cases hx) (fun x hx => by cases hx) (fun x hx => by cases hx)
theorem FromOk_of {s : DS} (ok : s.Ok) {ys : List FV} (hy : ys.map FV.f = s.files) : FromOk (s.cap : Int) s.fuse s.down (ys.map FV.fi) := by
 have hl := congrArg List.length hy
 rw [List.length_map] at hl
 have h1 := ok.few
 have hf : (ys.map FV.fi).map FI.fl = s.files := by
  rw [List.map_map, ← hy]
  exact List.map_congr_left fun y _ => FV.fi_fl y
 have hc := ok.cap
 have hu := ok.fuse
 refine ⟨by omega, by omega, by rw [List.length_map]; omega, hu.1, hu.2, ok.fell, ?_, fun y hy' => ?_⟩
 ·rw [hf]
  exact ⟨by simpa using ok.cap, by show usedF s.files ≤ ((s.cap : Int)).toNat; have := ok.used; unfold DS.used at this; omega, ok.few, ok.rise, ok.good, ok.syn, by simp, by simp⟩
 ·obtain ⟨z, _, rfl⟩ := List.mem_map.1 hy'
  show (0 : Int) ≤ (z.f.syn : Int)
  omega
set_option maxRecDepth 100000 in
set_option maxHeartbeats 8000000 in
theorem made_16_no (W0 w : World) (g i : Nat) (D : Pairs) (Φ : Nat → Prop) (o : OpS) (h : Inv W0 g D Φ w) (hA : Alike D) (ho : o.Ok W0) (hi3 : i < 3) (hx : D i = none) :
  Calls Tryz.prog 17 #[.pointer (some ⟨g, 0, none⟩), .agg (o.with i 16)] w (StepPost W0 g) := by
 unfold OpS.with
 have hmo : Tryz.prog.follows Departure.mixedOrders = true := by kernel_rfl
 have HH := Lib.hid (And.intro h (And.intro hA ho))
 have hi0 : (0 : Int) ≤ i := by omega
 have hi3' : (i : Int) < 3 := by omega
 clear h hA ho
 have HX := Lib.hid hx
 clear hx
 go_enter Tryz.func17, Tryz.ntmps17
 go_wp2_with fail
 obtain ⟨V, hV⟩ : ∃ V, w.alloc (.cells #[.int .i64 (i : Int), .int .i64 16, .string (bstr o.name), .string (bstr o.to), .slice o.bA o.body.length o.bc, .int .i64 o.at_, .int .i64 o.n, .slice o.kA o.keep.length o.kc, .int .i64 o.cap, .slice o.fA o.files.length o.fc, .int .i64 o.fuse, .bool o.down] 61) = V := ⟨_, rfl⟩
 rw [hV]
 have nV : New w V := hV ▸ Kp.alloc _ _ _
 have bV : V.heap[w.heap.size]? = some (.cells #[.int .i64 (i : Int), .int .i64 16, .string (bstr o.name), .string (bstr o.to), .slice o.bA o.body.length o.bc, .int .i64 o.at_, .int .i64 o.n, .slice o.kA o.keep.length o.kc, .int .i64 o.cap, .slice o.fA o.files.length o.fc, .int .i64 o.fuse, .bool o.down] 61 (0, 0)) := hV ▸ heap_alloc_new w _
 have zV : V.heap.size = w.heap.size + 1 := by rw [← hV]; simp
 have HV := Lib.hid (And.intro nV (And.intro bV (And.intro (HH.out.1.new nV) zV)))
 have c0 : V.cell? ⟨w.heap.size, 0, none⟩ = some (.int .i64 (i : Int)) := (cell_of_block bV).trans rfl
 have c1 : V.cell? ⟨w.heap.size, 1, none⟩ = some (.int .i64 16) := (cell_of_block bV).trans rfl
 have c6 : V.cell? ⟨w.heap.size, 6, none⟩ = some (.int .i64 o.n) := (cell_of_block bV).trans rfl
 have c8 : V.cell? ⟨w.heap.size, 8, none⟩ = some (.int .i64 o.cap) := (cell_of_block bV).trans rfl
 have c9 : V.cell? ⟨w.heap.size, 9, none⟩ = some (.slice o.fA o.files.length o.fc) := (cell_of_block bV).trans rfl
 have c10 : V.cell? ⟨w.heap.size, 10, none⟩ = some (.int .i64 o.fuse) := (cell_of_block bV).trans rfl
 have c11 : V.cell? ⟨w.heap.size, 11, none⟩ = some (.bool o.down) := (cell_of_block bV).trans rfl
 clear hV nV bV zV
 go_wp2_with fail
 obtain ⟨v3, hv3⟩ : ∃ v3, V.alloc (.cells #[.int .i64 o.cap, .slice o.fA o.files.length o.fc, .int .i64 o.fuse, .bool o.down] 59) = v3 := ⟨_, rfl⟩
 rw [hv3]
 have n3 : New V v3 := hv3 ▸ Kp.alloc _ _ _
 have b3 : v3.heap[w.heap.size + 1]? = some (.cells #[.int .i64 o.cap, .slice o.fA o.files.length o.fc, .int .i64 o.fuse, .bool o.down] 59 (0, 0)) := by
  have := hv3 ▸ heap_alloc_new V (.cells #[.int .i64 o.cap, .slice o.fA o.files.length o.fc, .int .i64 o.fuse, .bool o.down] 59)
  rwa [HV.out.2.2.2] at this
 have z3 : v3.heap.size = V.heap.size + 1 := by rw [← hv3]; simp
 have hI3 := HV.out.2.2.1.new n3
 have q0 := New.cell n3 c0
 have p0 := (hI3.dpc hi3).1
 have p1 := (hI3.rpc hi3).1
 have H3 := Lib.hid (And.intro hI3 (And.intro b3 (And.intro (heap_kp' HV.out.2.1 n3 id) z3)))
 clear hv3 n3 b3 z3 hI3 c0 c1 c6 c8 c9 c10 c11
 rw [dp_none HX.out] at p0
 rw [rp_none HX.out] at p1
 refine wp_region_line (fun w' => w'.cell? ⟨w.heap.size, 0, none⟩ = some (.int .i64 (i : Int)) ∧ w'.cell? ⟨g, i, none⟩ = some (.pointer none) ∧ w'.cell? ⟨g, 3 + i, none⟩ = some (.pointer none)) (pl := [(0, true), (1, true), (2, true), (3, true), (4, true), (5, true), (6, true), (7, true), (8, true), (9, true), (10, true), (11, true), (12, true), (13, true), (14, true), (15, true), (16, true), (17, true)]) hmo (by kernel_rfl) ⟨by simpa using q0, by simpa using p0, by simpa using p1⟩ ?_
 iterate 9 (refine line_get rfl rfl (fun K hK => ?_); apply Exists.intro; refine ⟨fun w s => ?_, ?_⟩; (first | (have q := s rfl; go_simp; with_reducible rfl) | (go_simp; with_reducible rfl)); (go_simp; refine hK _ ?_; clear hK K))
 iterate 8 (refine line_past rfl rfl (fun K hK => ?_); go_simp; refine hK _ ?_; clear hK K)
 (refine line_get rfl rfl (fun K hK => ?_); apply Exists.intro; refine ⟨fun w s => ?_, ?_⟩; (first | (have q := s rfl; go_simp; with_reducible rfl) | (go_simp; with_reducible rfl)); (go_simp; refine hK _ ?_; clear hK K))
 refine line_nil ?_
 go_wp2_with fail
 go_ret
 exact ⟨rfl, (H3.out.1.new (Kp.drew _ _)).same HH.out.2.1⟩
set_option maxRecDepth 100000 in
set_option maxHeartbeats 8000000 in
theorem made_16_ok (W0 w : World) (g i : Nat) (D : Pairs) (Φ : Nat → Prop) (o : OpS) (h : Inv W0 g D Φ w) (hA : Alike D) (ho : o.Ok W0) (hi3 : i < 3) (x : PD) (hx : D i = some x) :
  Calls Tryz.prog 17 #[.pointer (some ⟨g, 0, none⟩), .agg (o.with i 16)] w (StepPost W0 g) := by
 unfold OpS.with
 have hmo : Tryz.prog.follows Departure.mixedOrders = true := by kernel_rfl
 have HH := Lib.hid (And.intro h (And.intro hA ho))
 have hi0 : (0 : Int) ≤ i := by omega
 have hi3' : (i : Int) < 3 := by omega
 clear h hA ho
 have HX := Lib.hid hx
 clear hx
 go_enter Tryz.func17, Tryz.ntmps17
 go_wp2_with fail
 obtain ⟨V, hV⟩ : ∃ V, w.alloc (.cells #[.int .i64 (i : Int), .int .i64 16, .string (bstr o.name), .string (bstr o.to), .slice o.bA o.body.length o.bc, .int .i64 o.at_, .int .i64 o.n, .slice o.kA o.keep.length o.kc, .int .i64 o.cap, .slice o.fA o.files.length o.fc, .int .i64 o.fuse, .bool o.down] 61) = V := ⟨_, rfl⟩
 rw [hV]
 have nV : New w V := hV ▸ Kp.alloc _ _ _
 have bV : V.heap[w.heap.size]? = some (.cells #[.int .i64 (i : Int), .int .i64 16, .string (bstr o.name), .string (bstr o.to), .slice o.bA o.body.length o.bc, .int .i64 o.at_, .int .i64 o.n, .slice o.kA o.keep.length o.kc, .int .i64 o.cap, .slice o.fA o.files.length o.fc, .int .i64 o.fuse, .bool o.down] 61 (0, 0)) := hV ▸ heap_alloc_new w _
 have zV : V.heap.size = w.heap.size + 1 := by rw [← hV]; simp
 have HV := Lib.hid (And.intro nV (And.intro bV (And.intro (HH.out.1.new nV) zV)))
 have c0 : V.cell? ⟨w.heap.size, 0, none⟩ = some (.int .i64 (i : Int)) := (cell_of_block bV).trans rfl
 have c1 : V.cell? ⟨w.heap.size, 1, none⟩ = some (.int .i64 16) := (cell_of_block bV).trans rfl
 have c6 : V.cell? ⟨w.heap.size, 6, none⟩ = some (.int .i64 o.n) := (cell_of_block bV).trans rfl
 have c8 : V.cell? ⟨w.heap.size, 8, none⟩ = some (.int .i64 o.cap) := (cell_of_block bV).trans rfl
 have c9 : V.cell? ⟨w.heap.size, 9, none⟩ = some (.slice o.fA o.files.length o.fc) := (cell_of_block bV).trans rfl
 have c10 : V.cell? ⟨w.heap.size, 10, none⟩ = some (.int .i64 o.fuse) := (cell_of_block bV).trans rfl
 have c11 : V.cell? ⟨w.heap.size, 11, none⟩ = some (.bool o.down) := (cell_of_block bV).trans rfl
 clear hV nV bV zV
 go_wp2_with fail
 obtain ⟨v3, hv3⟩ : ∃ v3, V.alloc (.cells #[.int .i64 o.cap, .slice o.fA o.files.length o.fc, .int .i64 o.fuse, .bool o.down] 59) = v3 := ⟨_, rfl⟩
 rw [hv3]
 have n3 : New V v3 := hv3 ▸ Kp.alloc _ _ _
 have b3 : v3.heap[w.heap.size + 1]? = some (.cells #[.int .i64 o.cap, .slice o.fA o.files.length o.fc, .int .i64 o.fuse, .bool o.down] 59 (0, 0)) := by
  have := hv3 ▸ heap_alloc_new V (.cells #[.int .i64 o.cap, .slice o.fA o.files.length o.fc, .int .i64 o.fuse, .bool o.down] 59)
  rwa [HV.out.2.2.2] at this
 have z3 : v3.heap.size = V.heap.size + 1 := by rw [← hv3]; simp
 have hI3 := HV.out.2.2.1.new n3
 have q0 := New.cell n3 c0
 have p0 := (hI3.dpc hi3).1
 have p1 := (hI3.rpc hi3).1
 have H3 := Lib.hid (And.intro hI3 (And.intro b3 (And.intro (heap_kp' HV.out.2.1 n3 id) z3)))
 clear hv3 n3 b3 z3 hI3 c0 c1 c6 c8 c9 c10 c11
 rw [dp_some HX.out] at p0
 rw [rp_some HX.out] at p1
 refine wp_region_line (fun w' => w'.cell? ⟨w.heap.size, 0, none⟩ = some (.int .i64 (i : Int)) ∧ w'.cell? ⟨g, i, none⟩ = some (.pointer (some ⟨x.d, 0, none⟩)) ∧ w'.cell? ⟨g, 3 + i, none⟩ = some (.pointer (some ⟨x.r, 0, none⟩))) (pl := [(0, true), (1, true), (2, true), (3, true), (4, true), (5, true), (6, true), (7, true), (8, true), (9, true), (10, true), (11, true), (12, true), (13, true), (14, true), (15, true), (16, true), (17, true)]) hmo (by kernel_rfl) ⟨by simpa using q0, by simpa using p0, by simpa using p1⟩ ?_
 iterate 18 (refine line_get rfl rfl (fun K hK => ?_); apply Exists.intro; refine ⟨fun w s => ?_, ?_⟩; (first | (have q := s rfl; go_simp; with_reducible rfl) | (go_simp; with_reducible rfl)); (go_simp; refine hK _ ?_; clear hK K))
 refine line_nil ?_
 obtain ⟨v4, hv4⟩ : ∃ v4, v3.drew = v4 := ⟨_, rfl⟩
 rw [hv4]
 have n4 : New v3 v4 := hv4 ▸ Kp.drew _ _
 have q0 := New.cell n4 q0
 have p1 := New.cell n4 p1
 have H4 := Lib.hid (And.intro (H3.out.1.new n4) (And.intro (heap_kp' H3.out.2.1 n4 id) (And.intro (heap_kp' H3.out.2.2.1 n4 id) n4)))
 clear hv4 n4 p0
 go_wp2_with fail
 refine wp_region_line (fun w' => w'.cell? ⟨w.heap.size, 0, none⟩ = some (.int .i64 (i : Int)) ∧ w'.cell? ⟨g, 3 + i, none⟩ = some (.pointer (some ⟨x.r, 0, none⟩))) (pl := [(0, true), (1, true), (2, true), (3, true), (4, true), (5, true), (6, true), (7, false), (8, false)]) hmo (by kernel_rfl) ⟨by simpa using q0, by simpa using p1⟩ ?_
 iterate 7 (refine line_get rfl rfl (fun K hK => ?_); apply Exists.intro; refine ⟨fun w s => ?_, ?_⟩; (first | (have q := s rfl; go_simp; with_reducible rfl) | (go_simp; with_reducible rfl)); (go_simp; refine hK _ ?_; clear hK K))
 (refine line_do rfl rfl (fun K hK => ?_); go_simp)
 have nd : New v4 v4.drew := Kp.drew _ _
 have hq := (H4.out.1.new nd).at_ i x HX.out
 have HQ := Lib.hid (And.intro hq nd)
 clear hq nd
 refine (RState_calls _ x.r x.t x.G HQ.out.1.q).mono ?_
 rintro e v5 ⟨A4, c4, ys4, rfl, o4, y4, f4, n4⟩
 have hinf := DiskAt.inF o4 HQ.out.1.q.ok y4
 have hok := FromOk_of HQ.out.1.q.ok y4
 have hlen : ys4.length = (ys4.map FV.fi).length := by simp
 have ho4 : ∀ k, k ∈ bks A4 ++ fblks ys4 → v4.heap.size ≤ k := f4
 have hin : ∀ k, RdI.In A4 (ys4.map FV.fi) k → v4.heap.size ≤ k := fun k hk => ho4 k (by
  rcases hk with hk | ⟨y, hy, hk⟩
  ·exact List.mem_append_left _ (mem_bks.2 hk)
  ·obtain ⟨z, hz, rfl⟩ := List.mem_map.1 hy
   exact List.mem_append_right _ (mem_fblks.2 ⟨z, hz, hk⟩))
 have hT4 : w.heap.size + 1 < v4.heap.size := (Array.getElem?_eq_some_iff.1 H4.out.2.1).1
 have n45 : New v4 v5 := HQ.out.2.trans n4 fid fid
 have b5 := heap_kp' H4.out.2.1 n45 id
 have d0 : v5.cell? ⟨w.heap.size + 1, 0, none⟩ = some (.int .i64 o.cap) := (cell_of_block b5).trans rfl
 have d1 : v5.cell? ⟨w.heap.size + 1, 1, none⟩ = some (.slice o.fA o.files.length o.fc) := (cell_of_block b5).trans rfl
 have d2 : v5.cell? ⟨w.heap.size + 1, 2, none⟩ = some (.int .i64 o.fuse) := (cell_of_block b5).trans rfl
 have d3 : v5.cell? ⟨w.heap.size + 1, 3, none⟩ = some (.bool o.down) := (cell_of_block b5).trans rfl
 have z0 : v5.frozen? ⟨w.heap.size + 1, 0, none⟩ = false := by simp [World.frozen?, b5]
 have z1 : v5.frozen? ⟨w.heap.size + 1, 1, none⟩ = false := by simp [World.frozen?, b5]
 have z2 : v5.frozen? ⟨w.heap.size + 1, 2, none⟩ = false := by simp [World.frozen?, b5]
 have z3 : v5.frozen? ⟨w.heap.size + 1, 3, none⟩ = false := by simp [World.frozen?, b5]
 rw [hlen]
 clear hlen o4 y4 f4 ho4 n4
 generalize ys4.map FV.fi = yl at *
 have HY := Lib.hid (And.intro hinf (And.intro hok (And.intro hin (And.intro hT4 (And.intro n45 b5)))))
 clear hinf hok hin hT4 n45 b5
 refine hK _ _ (no_need (by kernel_rfl)) ?_
 clear hK K
 (refine line_do rfl rfl (fun K hK => ?_); go_simp)
 refine hK _ _ (no_need (by kernel_rfl)) ?_
 clear hK K
 refine line_nil ?_
 have m0 := heap_setCell_row (j := 0) HY.out.2.2.2.2.2 (.int .i64 (x.t.cap : Int))
 have m1 := heap_setCell_row (j := 1) m0 (.slice A4 yl.length c4)
 have m2 := heap_setCell_row (j := 2) m1 (.int .i64 x.t.fuse)
 have m3 := heap_setCell_row (j := 3) m2 (.bool x.t.down)
 have kk : Kp (fun j => j = w.heap.size + 1) v5 ((((v5.setCell ⟨w.heap.size + 1, 0, none⟩ (.int .i64 (x.t.cap : Int))).setCell ⟨w.heap.size + 1, 1, none⟩ (.slice A4 yl.length c4)).setCell ⟨w.heap.size + 1, 2, none⟩ (.int .i64 x.t.fuse)).setCell ⟨w.heap.size + 1, 3, none⟩ (.bool x.t.down)) :=
  (((Kp.setCell (S := fun j => j = w.heap.size + 1) v5 ⟨w.heap.size + 1, 0, none⟩ _ rfl).trans (Kp.setCell (S := fun j => j = w.heap.size + 1) _ ⟨w.heap.size + 1, 1, none⟩ _ rfl) fid fid).trans (Kp.setCell (S := fun j => j = w.heap.size + 1) _ ⟨w.heap.size + 1, 2, none⟩ _ rfl) fid fid).trans (Kp.setCell (S := fun j => j = w.heap.size + 1) _ ⟨w.heap.size + 1, 3, none⟩ _ rfl) fid fid
 clear m0 m1 m2 d0 d1 d2 d3 z0 z1 z2 z3 q0 p1
 generalize ((((v5.setCell ⟨w.heap.size + 1, 0, none⟩ (.int .i64 (x.t.cap : Int))).setCell ⟨w.heap.size + 1, 1, none⟩ (.slice A4 yl.length c4)).setCell ⟨w.heap.size + 1, 2, none⟩ (.int .i64 x.t.fuse)).setCell ⟨w.heap.size + 1, 3, none⟩ (.bool x.t.down)) = w3 at *
 have hI5 := H4.out.1.new HY.out.2.2.2.2.1
 have hwT : w.heap.size < w.heap.size + 1 := Nat.lt_succ_self _
 have hIz := hI5.free kk (fun k e hf => by have := HH.out.1.book.lt k hf; omega) (fun j z hz k hk e => by have := (HH.out.1.at_ j z hz).lt k hk; omega) (fun k e => by have := HH.out.1.low.size; omega)
 have hinz : InF w3 A4 yl := ⟨HY.out.1.rd.kp kk (fun k hk e => by have := HY.out.2.2.1 k hk; have := HY.out.2.2.2.1; omega), HY.out.1.len, HY.out.1.name, HY.out.1.data, HY.out.1.syn⟩
 have hz5 := HY.out.2.2.2.2.1.size
 have hbz := heap_kp' (heap_kp' H4.out.2.2.1 HY.out.2.2.2.2.1 id) kk (by omega)
 have hsz : w.heap.size < w3.heap.size := (Array.getElem?_eq_some_iff.1 hbz).1
 have b3 : w3.heap[w.heap.size + 1]? = some (.cells #[.int .i64 (x.t.cap : Int), .slice A4 yl.length c4, .int .i64 x.t.fuse, .bool x.t.down] 59 (0, 0)) := m3
 have HS := Lib.hid (And.intro hIz (And.intro hinz (And.intro b3 (And.intro hbz hsz))))
 have HF := Lib.hid HY.out.2.1
 have t0 : w3.cell? ⟨w.heap.size + 1, 0, none⟩ = some (.int .i64 (x.t.cap : Int)) := (cell_of_block b3).trans rfl
 have t1 : w3.cell? ⟨w.heap.size + 1, 1, none⟩ = some (.slice A4 yl.length c4) := (cell_of_block b3).trans rfl
 have t2 : w3.cell? ⟨w.heap.size + 1, 2, none⟩ = some (.int .i64 x.t.fuse) := (cell_of_block b3).trans rfl
 have t3 : w3.cell? ⟨w.heap.size + 1, 3, none⟩ = some (.bool x.t.down) := (cell_of_block b3).trans rfl
 clear hIz hinz hbz hsz b3 m3 kk hI5 hwT hz5
 go_wp2_with fail
 refine (loosened_calls w3 (x.t.cap : Int) x.t.fuse x.t.down A4 c4 yl HS.out.2.1 HS.out.1.tab).mono ?_
 rintro e w5 ⟨A2, c2, xs, A3, c3, zs, rfl, hlo⟩
 have hll := hlo.len
 have HL := Lib.hid (And.intro hlo hll)
 clear hlo hll t0 t1 t2 t3
 go_wp2_with fail
 obtain ⟨w6, hw6⟩ : ∃ w6, w5.alloc (.cells #[.int .i64 (x.t.cap : Int), .slice A3 zs.length c3, .int .i64 x.t.fuse, .bool x.t.down] 59) = w6 := ⟨_, rfl⟩
 rw [hw6]
 have n6 : New w5 w6 := hw6 ▸ Kp.alloc _ _ _
 have b6 : w6.heap[w5.heap.size]? = some (.cells #[.int .i64 (x.t.cap : Int), .slice A3 zs.length c3, .int .i64 x.t.fuse, .bool x.t.down] 59 (0, 0)) := hw6 ▸ heap_alloc_new w5 _
 have z6 : w6.heap.size = w5.heap.size + 1 := by rw [← hw6]; simp
 have H6 := Lib.hid (And.intro n6 (And.intro b6 z6))
 clear hw6 n6 b6 z6
 refine (From_calls w6 (x.t.cap : Int) x.t.fuse x.t.down A3 c3 zs.length zs rfl (HL.out.1.rdI.new H6.out.1) (by have := HL.out.2.1; have := HS.out.2.1.len; omega) (tel_name HL.out.1.tel (P := fun a b => a.length ≤ 9223372036854775807 ∧ b.length ≤ 9223372036854775807) (fun y hy => ⟨HS.out.2.1.name y hy, by have := HS.out.2.1.data y hy; omega⟩)) (tel_syn HL.out.1.tel (P := fun v => -9223372036854775808 ≤ v ∧ v ≤ 9223372036854775807) HS.out.2.1.syn)).mono ?_
 rintro e w7 hf7
 rcases hf7 with ⟨_, d, F, rfl, hd, n7, f7⟩ | ⟨hno, _⟩
 case inr => exact absurd ((FromOk_tel HL.out.1.tel).2 HF.out) hno
 rw [tel_fl HL.out.1.tel] at hd
 have H7 := Lib.hid (And.intro hd (And.intro n7 f7))
 clear hd f7
 have n37 : New w3 w7 := (HL.out.1.new.trans H6.out.1 fid fid).trans n7 fid fid
 have N37 := Lib.hid (And.intro n37 n7)
 have b9 := heap_kp' HS.out.2.2.1 n37 id
 have t0 : w7.cell? ⟨w.heap.size + 1, 0, none⟩ = some (.int .i64 (x.t.cap : Int)) := (cell_of_block b9).trans rfl
 have t1 : w7.cell? ⟨w.heap.size + 1, 1, none⟩ = some (.slice A4 yl.length c4) := (cell_of_block b9).trans rfl
 have t2 : w7.cell? ⟨w.heap.size + 1, 2, none⟩ = some (.int .i64 x.t.fuse) := (cell_of_block b9).trans rfl
 have t3 : w7.cell? ⟨w.heap.size + 1, 3, none⟩ = some (.bool x.t.down) := (cell_of_block b9).trans rfl
 clear n7 n37 b9
 go_wp2_with fail
 refine (RFrom_calls w7 (x.t.cap : Int) x.t.fuse x.t.down A4 c4 yl (HS.out.2.1.rd.new N37.out.1) (by have := HS.out.2.1.len; omega) (fun y hy => by have := HS.out.2.1.data y hy; omega) HS.out.2.1.name).mono ?_
 rintro e w8 hf8
 rcases hf8 with ⟨_, r, G, rfl, hr, n8, f8⟩ | ⟨hno, _⟩
 case inr => exact absurd HF.out hno
 have H8 := Lib.hid (And.intro hr (And.intro n8 f8))
 clear hr f8
 clear t0 t1 t2 t3
 have n38 : New w3 w8 := N37.out.1.trans n8 fid fid
 have n68 : New w6 w8 := N37.out.2.trans n8 fid fid
 have b9 := heap_kp' HS.out.2.2.1 n38 id
 have b10 := heap_kp' H6.out.2.1 n68 id
 have t0 : w8.cell? ⟨w.heap.size + 1, 0, none⟩ = some (.int .i64 (x.t.cap : Int)) := (cell_of_block b9).trans rfl
 have t1 : w8.cell? ⟨w.heap.size + 1, 1, none⟩ = some (.slice A4 yl.length c4) := (cell_of_block b9).trans rfl
 have t2 : w8.cell? ⟨w.heap.size + 1, 2, none⟩ = some (.int .i64 x.t.fuse) := (cell_of_block b9).trans rfl
 have t3 : w8.cell? ⟨w.heap.size + 1, 3, none⟩ = some (.bool x.t.down) := (cell_of_block b9).trans rfl
 have u0 : w8.cell? ⟨w5.heap.size, 0, none⟩ = some (.int .i64 (x.t.cap : Int)) := (cell_of_block b10).trans rfl
 have u1 : w8.cell? ⟨w5.heap.size, 1, none⟩ = some (.slice A3 zs.length c3) := (cell_of_block b10).trans rfl
 have u2 : w8.cell? ⟨w5.heap.size, 2, none⟩ = some (.int .i64 x.t.fuse) := (cell_of_block b10).trans rfl
 have u3 : w8.cell? ⟨w5.heap.size, 3, none⟩ = some (.bool x.t.down) := (cell_of_block b10).trans rfl
 have N8 := Lib.hid (And.intro n38 (And.intro n68 (And.intro (H6.out.1.trans n68 fid fid) n8)))
 clear n38 n68 n8 b9 b10
 go_wp2_with fail
 refine (num_calls _ _).mono ?_
 rintro e w' ⟨rfl, rfl⟩
 go_wp2_with fail
 refine (num_calls _ _).mono ?_
 rintro e w' ⟨rfl, rfl⟩
 go_wp2_with fail
 refine (SameI_calls w8 (x.t.cap : Int) x.t.fuse x.t.down A3 A4 zs.length yl.length c3 c4 zs yl (HL.out.1.rdI.new N8.out.2.2.1) (HS.out.2.1.rd.new N8.out.1) HL.out.1.tel rfl (by have := HL.out.2.1; omega) (by have := HL.out.2.1; have := HS.out.2.1.len; omega)).mono ?_
 rintro e w9 ⟨rfl, n9⟩
 have HN9 := Lib.hid n9
 clear n9 t0 t1 t2 t3 u0 u1 u2 u3
 have hxl : xs.length = yl.length := by have := HL.out.2.2; omega
 have hyl : yl.length ≤ 2932031007317 := HS.out.2.1.len
 have HXL := Lib.hid hxl
 clear hxl
 go_wp2_with fail
 go_loopw [17, 18] (fun q j wr => ∃ k : Nat, k ≤ yl.length ∧ j = .int .i64 (k : Int) ∧ q = .bool true ∧ Hid (New w9 wr)) (fun _ j _ => yl.length - (intOf j).toNat)
 case atStart => exact ⟨0, Nat.zero_le _, rfl, rfl, Lib.hid (Kp.refl _ _)⟩
 case round =>
  obtain ⟨k, hk, rfl, rfl, HK⟩ := hrel
  have hk0 : (0 : Int) ≤ k := by omega
  have n3r : New w3 wr := (N8.out.1.trans HN9.out fid fid).trans HK.out fid fid
  have n5r : New w5 wr := (N8.out.2.2.1.trans HN9.out fid fid).trans HK.out fid fid
  have b9 := heap_kp' HS.out.2.2.1 n3r id
  have t0 : wr.cell? ⟨w.heap.size + 1, 0, none⟩ = some (.int .i64 (x.t.cap : Int)) := (cell_of_block b9).trans rfl
  have t1 : wr.cell? ⟨w.heap.size + 1, 1, none⟩ = some (.slice A4 yl.length c4) := (cell_of_block b9).trans rfl
  have t2 : wr.cell? ⟨w.heap.size + 1, 2, none⟩ = some (.int .i64 x.t.fuse) := (cell_of_block b9).trans rfl
  have t3 : wr.cell? ⟨w.heap.size + 1, 3, none⟩ = some (.bool x.t.down) := (cell_of_block b9).trans rfl
  have HNR := Lib.hid (And.intro n3r n5r)
  clear n3r n5r b9 t0 t2 t3
  rw [HXL.out]
  by_cases hlt : k < yl.length
  ·have hki : (k : Int) < (yl.length : Int) := by omega
   obtain ⟨y, hy⟩ : ∃ y, (yl)[k]? = some y := ⟨_, List.getElem?_eq_getElem (by simpa using hlt)⟩
   obtain ⟨xk, hxk⟩ : ∃ xk, xs[k]? = some xk := ⟨_, List.getElem?_eq_getElem (by have := HXL.out; omega)⟩
   have hxy : xk.l = y.data ++ marksB 700000 64 := by
    have := congrArg (fun l => l[k]?) HL.out.1.lists
    simp only [List.getElem?_map] at this
    rw [hxk] at this
    rw [hy] at this
    simpa using this
   have hrd := (HS.out.2.1.rd.new HNR.out.1)
   obtain ⟨bq, oq, hbq, r0, r1, r2⟩ := hrd.at_ hy
   have hyr := hrd.2 y (List.mem_of_getElem? hy)
   have hyl2 := HS.out.2.1.data y (List.mem_of_getElem? hy)
   have hxo := (HL.out.1.own.2.1 xk (List.mem_of_getElem? hxk)).new HNR.out.2
   rw [hxy] at hxo
   have hrow := HL.out.1.own.1.new HNR.out.2
   obtain ⟨gx, hgx⟩ := hrow.some_ (by have := HXL.out; omega)
   have s1 : wr.cell? ⟨gx, k, none⟩ = some (.slice xk.A (y.data.length + 64) xk.c) := by
    rw [hgx] at hrow
    have := hrow.cell (j := k) (u := xk.val) (by rw [List.getElem?_map, hxk]; rfl)
    rw [this]
    unfold BSl.val
    rw [hxy, List.length_append, marksB_length]
   have HG := Lib.hid (And.intro hgx hbq)
   have HY := Lib.hid (And.intro hyr hxo)
   rw [hgx]
   rw [hbq] at t1
   clear hy hxk hxy hrd r0 r2 hyr hxo hrow hgx hbq
   go_wp2_with fail
   refine wp_region_line (fun w' => w'.cell? ⟨gx, k, none⟩ = some (.slice xk.A (y.data.length + 64) xk.c) ∧ w'.cell? ⟨w.heap.size + 1, 1, none⟩ = some (.slice (some ⟨bq, oq, none⟩) yl.length c4) ∧ w'.cell? ⟨bq, oq + k * 3 + 1, none⟩ = some (.slice y.A y.data.length y.c)) (pl := [(0, true), (1, true), (2, true), (3, true), (4, true), (5, true), (6, true), (7, true), (8, true), (9, true), (10, true), (11, true), (12, false), (13, true), (14, true)]) hmo (by kernel_rfl) ⟨by simpa using s1, by simpa using t1, by simpa using r1⟩ ?_
   iterate 12 (refine line_get rfl rfl (fun K hK => ?_); apply Exists.intro; refine ⟨fun w s => ?_, ?_⟩; (first | (have q := s rfl; go_simp; with_reducible rfl) | (go_simp; with_reducible rfl)); (go_simp; refine hK _ ?_; clear hK K))
   (refine line_do rfl rfl (fun K hK => ?_); go_simp)
   have nd : New wr wr.drew := Kp.drew _ _
   refine (KeptB_calls wr.drew xk.A y.A (y.data.length + 64) y.data.length xk.c y.c y.data (HY.out.2.new nd |>.rd2 (l := y.data ++ marksB 700000 64)) (HY.out.1.new nd) rfl rfl hyl2).mono ?_
   rintro e wq ⟨rfl, qq, rfl⟩
   refine hK _ _ (no_need (by kernel_rfl)) ?_
   clear hK K nd s1 t1 r1
   iterate 2 (refine line_get rfl rfl (fun K hK => ?_); apply Exists.intro; refine ⟨fun w s => ?_, ?_⟩; (first | (have q := s rfl; go_simp; with_reducible rfl) | (go_simp; with_reducible rfl)); (go_simp; refine hK _ ?_; clear hK K))
   refine line_nil ?_
   go_wp2_with fail
   refine ⟨⟨k + 1, by omega, by go_num, rfl, Lib.hid (HK.out.trans (Kp.drewN (fun _ => False) wr _) fid fid)⟩, by simp [intOf]; omega⟩
  ·obtain rfl : k = yl.length := by omega
   have hkd : decide (yl.length < yl.length) = false := by simp
   go_wp2_with fail
   rw [show zs.length = yl.length from HL.out.2.1]
   refine (KeptF_calls wr A3 A4 yl.length c3 c4 (zs.flatMap FI.cells) (yl.flatMap FI.cells) (by have := HL.out.1.row.new HNR.out.2; exact this.rdC) (fun hne => (HS.out.2.1.rd.new HNR.out.1).1 (by intro e; rw [e] at hne; exact hne rfl)) (by rw [FI.flat_length, HL.out.2.1]; rfl) (by rw [FI.flat_length]; rfl) (by have := HL.out.1.sim; exact this) hyl (HS.out.1.tab.new HNR.out.1)).mono ?_
   rintro e wb ⟨rfl, nb⟩
   have NRB := Lib.hid nb
   have NB := Lib.hid (And.intro (HNR.out.1.trans nb fid fid) (HNR.out.2.trans nb fid fid))
   clear nb t1
   go_wp2_with fail
   have hov := over_calls wb A2 A3 c2 c3 (zs.length + 64) xs (zs.flatMap FI.cells ++ kFiles.marks 700000 64) ((HL.out.1.own.keep fun k hk => NB.out.2.block k (HL.out.1.own.lt k hk) id).wr) (HL.out.1.row.new NB.out.2) (fun k hk hm => HL.out.1.apart k hk (List.mem_append_right _ hm))
   rw [HXL.out, show zs.length = yl.length from HL.out.2.1] at hov
   have HO := Lib.hid hov
   clear hov
   refine HO.out.mono ?_
   rintro e wc ⟨rfl, kc⟩
   have hSf : ∀ k, (k ∈ blks xs ∨ Bk A3 k) → w3.heap.size ≤ k ∧ k < w5.heap.size := fun k hk => ⟨HL.out.1.fresh k (hk.elim (fun h => .inr (List.mem_append_right _ h)) .inl), hk.elim (fun h => HL.out.1.own.lt k (List.mem_append_right _ h)) (fun h => HL.out.1.row.lt k h)⟩
   have hI3 := HS.out.1
   have hIb := hI3.new NB.out.1
   have hIc := hIb.free kc (fun k hs hf => by have := hSf k hs; have := hI3.book.lt k hf; omega) (fun j z hz k hf hs => by have := hSf k hs; have := (hI3.at_ j z hz).lt k hf; omega) (fun k hs => by have := hSf k hs; have := hI3.low.size; omega)
   have bb := heap_kp' (heap_kp' HS.out.2.2.2.1 NB.out.1 id) kc (fun hs => by have := hSf _ hs; have := HS.out.2.2.2.2; omega)
   have cz : wc.cell? ⟨w.heap.size, 0, none⟩ = some (.int .i64 (i : Int)) := (cell_of_block bb).trans rfl
   have HC := Lib.hid (And.intro hIc (And.intro kc hSf))
   clear hSf hI3 hIb hIc bb kc HO
   go_wp2_with fail
   have g0 : wc.cell? ⟨g, i, none⟩ = some (dp D i) := (HC.out.1.dpc hi3).1
   have y0 : wc.frozen? ⟨g, i, none⟩ = false := (HC.out.1.dpc hi3).2
   have hbg : w.heap.size ≠ g := fun e => by have := HH.out.1.book.lt g HH.out.1.book.g; omega
   have HBG := Lib.hid hbg
   clear hbg
   refine wp_region_line (fun w' => w'.cell? ⟨w.heap.size, 0, none⟩ = some (.int .i64 (i : Int))) (pl := [(0, true), (1, true), (2, true), (3, true), (4, true), (5, true), (6, true), (7, false)]) hmo (by kernel_rfl) (by simpa using cz) ?_
   iterate 7 (refine line_get rfl rfl (fun K hK => ?_); apply Exists.intro; refine ⟨fun w s => ?_, ?_⟩; (first | (have q := s rfl; go_simp; with_reducible rfl) | (go_simp; with_reducible rfl)); (go_simp; refine hK _ ?_; clear hK K))
   have g0d : wc.drew.cell? ⟨g, i, none⟩ = some (dp D i) := New.cell (Kp.drew _ _) g0
   have y0d : wc.drew.frozen? ⟨g, i, none⟩ = false := y0
   (refine line_do rfl rfl (fun K hK => ?_); go_simp)
   refine hK _ _ (no_need (by kernel_rfl)) ?_
   clear hK K
   refine line_nil ?_
   obtain ⟨s1, hs1⟩ : ∃ s1, (wc.setCell ⟨g, i, none⟩ (.pointer (some ⟨d, 0, none⟩))).drew = s1 := ⟨_, rfl⟩
   have hs1' : wc.drew.setCell ⟨g, i, none⟩ (.pointer (some ⟨d, 0, none⟩)) = s1 := hs1
   first | rw [hs1] | rw [hs1']
   have hb1 : BX book3 (fun _ => 0) s1 g ((pcOf D).set i (.pointer (some ⟨d, 0, none⟩))) Φ := hs1 ▸ (HC.out.1.book.setPc book3_ok (j := i) (by simp [pcOf]; omega) (.pointer (some ⟨d, 0, none⟩))).new book3_ok (Kp.drew _ _)
   have ks1 : Kp (fun x => x = g) wc s1 := hs1 ▸ (Kp.setCell (S := fun x => x = g) wc ⟨g, i, none⟩ (.pointer (some ⟨d, 0, none⟩)) rfl).trans (Kp.drew _ _) fid fid
   have c0s : s1.cell? ⟨w.heap.size, 0, none⟩ = some (.int .i64 (i : Int)) := ks1.cell_of cz (fun e => HBG.out e)
   have g1 := (hb1.cell (j := 3 + i) (v := rp D i) (by rw [List.getElem?_set_ne (by omega)]; exact pcOf_rp D hi3)).1
   have y1 := (hb1.cell (j := 3 + i) (v := rp D i) (by rw [List.getElem?_set_ne (by omega)]; exact pcOf_rp D hi3)).2
   have HS1 := Lib.hid (And.intro hb1 ks1)
   clear hs1 hs1' hb1 ks1 g0 y0 g0d y0d
   go_wp2_with fail
   refine wp_region_line (fun w' => w'.cell? ⟨w.heap.size, 0, none⟩ = some (.int .i64 (i : Int))) (pl := [(0, true), (1, true), (2, true), (3, true), (4, true), (5, true), (6, true), (7, false)]) hmo (by kernel_rfl) (by simpa using c0s) ?_
   iterate 7 (refine line_get rfl rfl (fun K hK => ?_); apply Exists.intro; refine ⟨fun w s => ?_, ?_⟩; (first | (have q := s rfl; go_simp; with_reducible rfl) | (go_simp; with_reducible rfl)); (go_simp; refine hK _ ?_; clear hK K))
   have g1d : s1.drew.cell? ⟨g, 3 + i, none⟩ = some (rp D i) := New.cell (Kp.drew _ _) g1
   have y1d : s1.drew.frozen? ⟨g, 3 + i, none⟩ = false := y1
   (refine line_do rfl rfl (fun K hK => ?_); go_simp)
   refine hK _ _ (no_need (by kernel_rfl)) ?_
   clear hK K
   refine line_nil ?_
   obtain ⟨s2, hs2⟩ : ∃ s2, (s1.setCell ⟨g, 3 + i, none⟩ (.pointer (some ⟨r, 0, none⟩))).drew = s2 := ⟨_, rfl⟩
   have hs2' : s1.drew.setCell ⟨g, 3 + i, none⟩ (.pointer (some ⟨r, 0, none⟩)) = s2 := hs2
   first | rw [hs2] | rw [hs2']
   have hb2 : BX book3 (fun _ => 0) s2 g (((pcOf D).set i (.pointer (some ⟨d, 0, none⟩))).set (3 + i) (.pointer (some ⟨r, 0, none⟩))) Φ := hs2 ▸ (HS1.out.1.setPc book3_ok (j := 3 + i) (by simp [pcOf]; omega) (.pointer (some ⟨r, 0, none⟩))).new book3_ok (Kp.drew _ _)
   have ks2 : Kp (fun x => x = g) wc s2 := HS1.out.2.trans (hs2 ▸ (Kp.setCell (S := fun x => x = g) s1 ⟨g, 3 + i, none⟩ (.pointer (some ⟨r, 0, none⟩)) rfl).trans (Kp.drew _ _) fid fid) fid fid
   have HS2 := Lib.hid (And.intro hb2 ks2)
   clear hs2 hs2' hb2 ks2 g1 y1 g1d y1d c0s
   clear cz
   go_wp2_with fail
   go_ret
   refine ⟨by simp, upD D i (some ⟨d, r, ⟨(x.t.cap : Int).toNat, yl.map FI.fl, x.t.fuse, x.t.down⟩, ⟨(x.t.cap : Int).toNat, yl.map FI.fl, x.t.fuse, x.t.down⟩, F, G⟩), Φ, ?_, HH.out.2.1.up rfl⟩
   have hb := HS2.out.1
   have e0 := pcOf_set D hi3 (some ⟨d, r, ⟨(x.t.cap : Int).toNat, yl.map FI.fl, x.t.fuse, x.t.down⟩, ⟨(x.t.cap : Int).toNat, yl.map FI.fl, x.t.fuse, x.t.down⟩, F, G⟩)
   rw [show ((pcOf D).set i (.pointer (some ⟨d, 0, none⟩))).set (3 + i) (.pointer (some ⟨r, 0, none⟩)) = pcOf (upD D i (some ⟨d, r, ⟨(x.t.cap : Int).toNat, yl.map FI.fl, x.t.fuse, x.t.down⟩, ⟨(x.t.cap : Int).toNat, yl.map FI.fl, x.t.fuse, x.t.down⟩, F, G⟩)) from e0] at hb
   have h56 := H6.out.2.2
   have h67 := H7.out.2.1.size
   have h35 := HL.out.1.new.size
   have hfr : ∀ k, PD.Fp ⟨d, r, ⟨(x.t.cap : Int).toNat, yl.map FI.fl, x.t.fuse, x.t.down⟩, ⟨(x.t.cap : Int).toNat, yl.map FI.fl, x.t.fuse, x.t.down⟩, F, G⟩ k → w6.heap.size ≤ k := fun k hk => hk.elim (H7.out.2.2 k) (fun hk => by have := H8.out.2.2 k hk; omega)
   have hlow := HS.out.1.low.size
   have n8c : Kp (fun k => k ∈ blks xs ∨ Bk A3 k) w8 wc := ((HN9.out.trans HK.out fid fid).trans (S := fun _ => False) (T := fun _ => False) (U := fun _ => False) NRB.out fid fid).trans HC.out.2.1 (fun _ _ h => h.elim) fid
   refine HC.out.1.reset hb HS2.out.2 (fun x hx => ?_) (fun x hx k hk hf => ?_) (fun x hx j z _ hz k hk hf => ?_) (fun x hx k hk => ?_)
   ·cases hx
    exact ⟨(H7.out.1.new N8.out.2.2.2).kp n8c (fun k hk hs => by have := HC.out.2.2 k hs; have := H7.out.2.2 k hk; omega), H8.out.1.kp n8c (fun k hk hs => by have := HC.out.2.2 k hs; have := H8.out.2.2 k hk; omega), fun k hk hg => by have := H7.out.1.lt k hk; have := H8.out.2.2 k hg; omega⟩
   ·cases hx
    have := hfr k hk
    have := HS.out.1.book.lt k hf
    omega
   ·cases hx
    have := hfr k hk
    have := (HS.out.1.at_ j z hz).lt k hf
    omega
   ·cases hx
    have := hfr k hk
    omega
theorem made_2 (W0 w : World) (g i : Nat) (D : Pairs) (Φ : Nat → Prop) (o : OpS) (h : Inv W0 g D Φ w) (hA : Alike D) (ho : o.Ok W0) (hi3 : i < 3) :
  Calls Tryz.prog 17 #[.pointer (some ⟨g, 0, none⟩), .agg (o.with i 2)] w (StepPost W0 g) := by
 by_cases hF : FromOk o.cap o.fuse o.down o.files
 ·exact made_2_ok W0 w g i D Φ o h hA ho hi3 hF
 ·exact made_2_no W0 w g i D Φ o h hA ho hi3 hF
theorem made_16 (W0 w : World) (g i : Nat) (D : Pairs) (Φ : Nat → Prop) (o : OpS) (h : Inv W0 g D Φ w) (hA : Alike D) (ho : o.Ok W0) (hi3 : i < 3) :
  Calls Tryz.prog 17 #[.pointer (some ⟨g, 0, none⟩), .agg (o.with i 16)] w (StepPost W0 g) := by
 cases hx : D i with
 | none => exact made_16_no W0 w g i D Φ o h hA ho hi3 hx
 | some x => exact made_16_ok W0 w g i D Φ o h hA ho hi3 x hx
theorem made_calls (W0 w : World) (g i : Nat) (D : Pairs) (Φ : Nat → Prop) (o : OpS) (h : Inv W0 g D Φ w) (hA : Alike D) (ho : o.Ok W0) (hi3 : i < 3) (hi : o.disk = i) (hk : o.kind = 1 ∨ o.kind = 2 ∨ o.kind = 16) :
  Calls Tryz.prog 17 #[.pointer (some ⟨g, 0, none⟩), .agg o.arr] w (StepPost W0 g) := by
 rcases hk with hk | hk | hk <;> rw [OpS.arr_with hi hk]
 ·exact made_1 W0 w g i D Φ o h hA ho hi3
 ·exact made_2 W0 w g i D Φ o h hA ho hi3
 ·exact made_16 W0 w g i D Φ o h hA ho hi3
end Go.Proofs.YtekcoeonlfmebaaGreatDoor.Kit
