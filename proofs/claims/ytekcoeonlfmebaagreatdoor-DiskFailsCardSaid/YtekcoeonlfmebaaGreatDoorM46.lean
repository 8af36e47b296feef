/- 1 texts in one: PRINTED by gen_playq.py. The laws of the disk: play: the whole script, then all is settled. -/
import Derived.Test.YtekcoeonlfmebaaGreatDoorM44
import Derived.Test.YtekcoeonlfmebaaGreatDoorM45
namespace Go.Proofs.YtekcoeonlfmebaaGreatDoor.Kit
open Go Go.RowKit
def RdS (w : World) (A : Option Addr) (ys : List OpS) : Prop :=
 (ys ≠ [] → ∃ b off, A = some ⟨b, off, none⟩ ∧ ∀ (j : Nat) (u : Value), (ys.flatMap OpS.cells)[j]? = some u → w.cell? ⟨b, off + j, none⟩ = some u) ∧ ∀ y ∈ ys, y.Ok w
theorem OpS.flat_get (ys : List OpS) : ∀ (i j : Nat) (y : OpS), ys[i]? = some y → j < 12 → (ys.flatMap OpS.cells)[i * 12 + j]? = y.cells[j]? := by
 induction ys with
 | nil => intro i j y h; simp at h
 | cons q ys ih =>
  intro i j y h hj
  rw [List.flatMap_cons]
  cases i with
  | zero =>
   simp only [List.getElem?_cons_zero, Option.some.injEq] at h
   subst h
   rw [Nat.zero_mul, Nat.zero_add, List.getElem?_append_left (by simpa [OpS.cells] using hj)]
  | succ i =>
   rw [List.getElem?_cons_succ] at h
   rw [List.getElem?_append_right (by simp [OpS.cells]; omega), ← ih i j y h hj]
   congr 1
   simp [OpS.cells]
   omega
theorem RdS.at_ {W w : World} {A : Option Addr} {ys : List OpS} (h : RdS W A ys) (hk : Low W w) {i : Nat} {y : OpS} (hy : ys[i]? = some y) : ∃ b off, A = some ⟨b, off, none⟩ ∧ ∀ (j : Nat) (u : Value), j < 12 → y.cells[j]? = some u → w.cell? ⟨b, off + i * 12 + j, none⟩ = some u := by
 obtain ⟨b, off, rfl, hc⟩ := h.1 (by intro e; subst e; simp at hy)
 refine ⟨b, off, rfl, fun j u hj hu => ?_⟩
 rw [Nat.add_assoc]
 have hc1 := hc (i * 12 + j) u ((OpS.flat_get ys i j y hy hj).trans hu)
 refine hk.cell_of hc1 ?_
 have := World.block_lt_of_cell? W _ hc1
 simp only at this ⊢
 omega
structure Fin3 (ph : Nat → Nat) (W0 : World) (g : Nat) (D : Pairs) (Φ : Nat → Prop) (w : World) : Prop where
 book : BX book3 ph w g (pcOf D) Φ
 at_ : ∀ i x, D i = some x → x.at_ w
 out : ∀ i x, D i = some x → ∀ k, x.Fp k → ¬ Φ k
 low : Low W0 w
 lowB : ∀ k, Φ k → W0.heap.size ≤ k
 tab : Tab w
 tabL : 0 < W0.heap.size
theorem Inv.fin {W0 : World} {g : Nat} {D : Pairs} {Φ : Nat → Prop} {w : World} (h : Inv W0 g D Φ w) : Fin3 (fun _ => 0) W0 g D Φ w := ⟨h.book, h.at_, h.out, h.low, h.lowB, h.tab, h.tabL⟩
theorem Fin3.new {ph : Nat → Nat} {W0 : World} {g : Nat} {D : Pairs} {Φ : Nat → Prop} {w w' : World} (h : Fin3 ph W0 g D Φ w) (hk : New w w') : Fin3 ph W0 g D Φ w' :=
 ⟨h.book.new book3_ok hk, fun i x hx => (h.at_ i x hx).kp hk fun _ _ => id, h.out, h.low.trans hk fid (fun _ _ h => h.elim), h.lowB, h.tab.new hk, h.tabL⟩
theorem Fin3.sx {ph : Nat → Nat} {W0 : World} {g : Nat} {D : Pairs} {Φ : Nat → Prop} {w : World} (h : Fin3 ph W0 g D Φ w) : SX book3 ph g (pcOf D) Φ w w :=
 ⟨Φ, h.book, Kp.refl _ _, fun _ hx => .inl hx, h.tab, fun hf => by have := h.lowB _ hf; have := h.tabL; omega, Nat.lt_of_lt_of_le h.tabL h.low.size⟩
theorem Fin3.of_sx {ph ph' : Nat → Nat} {W0 : World} {g : Nat} {D : Pairs} {Φ : Nat → Prop} {w w' : World} (h : Fin3 ph W0 g D Φ w) (hs : SX book3 ph' g (pcOf D) Φ w w') : ∃ Φ', Fin3 ph' W0 g D Φ' w' := by
 obtain ⟨Φ', h1, h2, h3, h4, h5⟩ := hs
 have hz := h.low.size
 exact ⟨Φ', h1, fun i x hx => (h.at_ i x hx).kp h2 (h.out i x hx), fun i x hx k hk hf => (h3 k hf).elim (h.out i x hx k hk) (fun h' => by have := (h.at_ i x hx).lt k hk; omega), h.low.trans h2 fid (fun k _ hf => h.lowB k hf), fun k hk => (h3 k hk).elim (h.lowB k) (fun h' => by omega), h4, h.tabL⟩
theorem Inv.of_sx {W0 : World} {g : Nat} {D : Pairs} {Φ : Nat → Prop} {w w' : World} (h : Inv W0 g D Φ w) (hs : SX book3 (fun _ => 0) g (pcOf D) Φ w w') : ∃ Φ', Inv W0 g D Φ' w' := by
 obtain ⟨Φ', h1, h2, h3, h4, h5⟩ := hs
 exact ⟨Φ', h.books (S := fun _ => False) h1 (h2.mono fun _ _ h => .inl h) (fun x hx => (h3 x hx).imp id .inr) (fun _ h => h.elim) (fun _ _ _ _ _ h => h.elim)⟩
theorem Fin3.dpc {ph : Nat → Nat} {W0 : World} {g : Nat} {D : Pairs} {Φ : Nat → Prop} {w : World} (h : Fin3 ph W0 g D Φ w) {i : Nat} (hi : i < 3) : w.cell? ⟨g, i, none⟩ = some (dp D i) := (h.book.cell (pcOf_dp D hi)).1
theorem Fin3.rpc {ph : Nat → Nat} {W0 : World} {g : Nat} {D : Pairs} {Φ : Nat → Prop} {w : World} (h : Fin3 ph W0 g D Φ w) {i : Nat} (hi : i < 3) : w.cell? ⟨g, 3 + i, none⟩ = some (rp D i) := (h.book.cell (pcOf_rp D hi)).1
theorem PagesT.nil (pt : TypeId) (P : Nat → World → Pg → Prop) (w : World) (g : Nat) : PagesT pt P w g none 0 [] := ⟨Own.nil _ _ _, Bk.none_, fun i p h => by simp at h, fun i j p q h => by simp at h⟩
def playCells : Array Value := #[.pointer none, .pointer none, .pointer none, .pointer none, .pointer none, .pointer none, .int .i64 0, .slice none 0 0, .slice none 0 0, .slice none 0 0, .slice none 0 0, .slice none 0 0, .slice none 0 0, .slice none 0 0, .slice none 0 0, .slice none 0 0, .slice none 0 0, .slice none 0 0, .slice none 0 0, .slice none 0 0, .slice none 0 0, .slice none 0 0, .slice none 0 0, .slice none 0 0, .slice none 0 0, .slice none 0 0, .slice none 0 0]
theorem Inv.begin {W0 W : World} (hb : W.heap[W0.heap.size]? = some (.cells playCells 53 (0, 0))) (hn : New W0 W) (hT : Tab W0) : Inv W0 W0.heap.size (fun _ => none) (fun x => x = W0.heap.size) W := by
 have hB : ∀ i, i < 3 → BookE (bookK i) (bookAt i) (bookP i 0) W W0.heap.size playCells none 0 [] := by
  intro i hi
  refine ⟨hb, ?_, PagesT.nil _ _ _ _⟩
  rcases i with _ | _ | _ | i
  ·rfl
  ·rfl
  ·rfl
  ·omega
 refine ⟨⟨playCells, 0, fun _ => ⟨none, 0, []⟩, ⟨hB, fun i hi => by simp, hb, rfl, Nat.zero_le _, fun k h1 h2 h3 => ?_, fun j hj => ?_, by simp [pcOf], fun i j hi hj hij x hx => ?_⟩, fun x => ⟨fun h => .inl h, fun h => h.elim id (fun ⟨i, hi, hf⟩ => hf.elim (fun hf => absurd hf Bk.none_) (fun ⟨p, hp, _⟩ => by simp at hp))⟩⟩, (fun i x h => by cases h), (fun i x h => by cases h), (fun i j x y _ h => by cases h), hn.mono (fun _ _ h => h.elim), (fun k e => by omega), (fun i x h => by cases h), hT.new hn, Tab.lt hT⟩
 ·have key : ∀ k, k < 27 → 7 ≤ k → playCells[k]? = some (.slice none 0 0) := by
   intro k hk h7
   have : ∀ m, m < 20 → playCells[m + 7]? = some (.slice none 0 0) := by
    intro m hm
    rcases m with _ | _ | _ | _ | _ | _ | _ | _ | _ | _ | _ | _ | _ | _ | _ | _ | _ | _ | _ | _ | m <;> first | rfl | omega
   have h := this (k - 7) (by omega)
   rwa [show k - 7 + 7 = k by omega] at h
  exact key k (by omega) (by omega)
 ·simp only [pcOf, List.length_cons, List.length_nil] at hj
  rcases j with _ | _ | _ | _ | _ | _ | j <;> first | rfl | omega
 ·rcases hx with hx | ⟨p, hp, _⟩
  ·exact absurd hx Bk.none_
  ·simp at hp
set_option maxRecDepth 100000 in
set_option maxHeartbeats 8000000 in
theorem play_calls (W : World) (A : Option Addr) (n c : Nat) (part : Int) (ys : List OpS) (hO : RdS W A ys) (hn : n = ys.length) (hT : Tab W) :
  Calls Tryz.prog 8 #[.slice A n c, .int .i64 part] W fun e w' => e = .returned (.bool true) ∧ New W w' := by
 subst hn
 have hmo : Tryz.prog.follows Departure.mixedOrders = true := by kernel_rfl
 have H := Lib.hid (And.intro hO hT)
 clear hO hT
 go_enter Tryz.func8, Tryz.ntmps8
 go_wp2_with fail
 obtain ⟨w1, hw1⟩ : ∃ w1, W.alloc (.cells #[.pointer none, .pointer none, .pointer none, .pointer none, .pointer none, .pointer none, .int .i64 0, .slice none 0 0, .slice none 0 0, .slice none 0 0, .slice none 0 0, .slice none 0 0, .slice none 0 0, .slice none 0 0, .slice none 0 0, .slice none 0 0, .slice none 0 0, .slice none 0 0, .slice none 0 0, .slice none 0 0, .slice none 0 0, .slice none 0 0, .slice none 0 0, .slice none 0 0, .slice none 0 0, .slice none 0 0, .slice none 0 0] 53) = w1 := ⟨_, rfl⟩
 rw [hw1]
 have n1 : New W w1 := hw1 ▸ Kp.alloc _ _ _
 have b1 : w1.heap[W.heap.size]? = some (.cells playCells 53 (0, 0)) := hw1 ▸ heap_alloc_new W _
 have H1 := Lib.hid (Inv.begin b1 n1 H.out.2)
 clear hw1 n1 b1
 go_loopw [6] (fun i wr => ∃ k : Nat, k ≤ ys.length ∧ k ≤ 400 ∧ i = .int .i64 (k : Int) ∧ Hid (∃ D Φ, Inv W W.heap.size D Φ wr ∧ Alike D)) (fun i _ => ys.length - (intOf i).toNat)
 case atStart => exact ⟨0, Nat.zero_le _, Nat.zero_le _, rfl, Lib.hid ⟨_, _, H1.out, fun i x h => by cases h⟩⟩
 case round =>
  obtain ⟨k, hk, hk4, rfl, HK⟩ := hrel
  have hk0 : (0 : Int) ≤ k := by omega
  obtain ⟨D, Φ, hI, hA⟩ := HK.out
  have HI := Lib.hid hI
  have HAL := Lib.hid hA
  clear hI hA HK
  by_cases hlt : k < ys.length ∧ k < 400
  ·obtain ⟨hlt, hl4⟩ := hlt
   have hki : (k : Int) < (ys.length : Int) := by omega
   have hki4 : decide ((k : Int) < 400) = true := decide_eq_true (by omega)
   have hki5 : decide (k < 400) = true := decide_eq_true hl4
   obtain ⟨o, ho⟩ : ∃ o, ys[k]? = some o := ⟨_, List.getElem?_eq_getElem hlt⟩
   have hok := H.out.1.2 o (List.mem_of_getElem? ho)
   obtain ⟨b, off, hab, hc⟩ := H.out.1.at_ HI.out.low ho
   have c0 := hc 0 _ (by decide) rfl
   have c1 := hc 1 _ (by decide) rfl
   have c2 := hc 2 _ (by decide) rfl
   have c3 := hc 3 _ (by decide) rfl
   have c4 := hc 4 _ (by decide) rfl
   have c5 := hc 5 _ (by decide) rfl
   have c6 := hc 6 _ (by decide) rfl
   have c7 := hc 7 _ (by decide) rfl
   have c8 := hc 8 _ (by decide) rfl
   have c9 := hc 9 _ (by decide) rfl
   have c10 := hc 10 _ (by decide) rfl
   have c11 := hc 11 _ (by decide) rfl
   rw [Nat.add_zero] at c0
   have HO := Lib.hid hok
   rw [hab]
   clear hc ho hok hab
   go_wp2_with fail
   clear c0 c1 c2 c3 c4 c5 c6 c7 c8 c9 c10 c11
   refine (step_calls W wr W.heap.size D Φ o HI.out HAL.out HO.out).mono ?_
   rintro e w2 ⟨rfl, D2, Φ2, hI2, hA2⟩
   have HI2 := Lib.hid hI2
   have HA2 := Lib.hid hA2
   clear hI2 hA2
   go_wp2_with fail
   refine (intact3 W.heap.size (pcOf D2) Φ2 w2 (fun _ => 0) (fun _ => .inl rfl) w2 HI2.out.fin.sx).mono ?_
   rintro e w3 ⟨rfl, hs⟩
   obtain ⟨Φ3, hI3⟩ := HI2.out.of_sx hs
   have HI3 := Lib.hid hI3
   clear hs hI3
   go_wp2_with fail
   exact ⟨⟨k + 1, by omega, by omega, by go_num, Lib.hid ⟨D2, Φ3, HI3.out, HA2.out⟩⟩, by simp [intOf]; omega⟩
  ·have hkd : (decide (k < ys.length) && decide (k < 400)) = false := by
    rw [Bool.and_eq_false_iff, decide_eq_false_iff_not, decide_eq_false_iff_not]
    omega
   have hcs : (k < ys.length ∧ ¬ k < 400) ∨ ¬ k < ys.length := by omega
   rcases hcs with ⟨hlt2, h400⟩ | hlt2
   case' inl =>
    have hki : (k : Int) < (ys.length : Int) := by omega
    have hki4 : decide ((k : Int) < 400) = false := decide_eq_false (by omega)
    have hki5 : decide (k < 400) = false := decide_eq_false h400
    clear hkd hlt
   case' inr =>
    have hki : decide ((k : Int) < (ys.length : Int)) = false := decide_eq_false (by omega)
    have hki5 : decide (k < ys.length) = false := decide_eq_false hlt2
    clear hkd hlt
   all_goals
    go_wp2_with fail
    obtain ⟨wo, rfl⟩ : ∃ wo : World, wo = wr := ⟨_, rfl⟩
    go_loopw [7] (fun i wr => ∃ k : Nat, k ≤ 3 ∧ i = .int .i64 (k : Int) ∧ Hid (New wo wr)) (fun i _ => 3 - (intOf i).toNat)
    case atStart => exact ⟨0, Nat.zero_le _, rfl, Lib.hid (Kp.refl _ _)⟩
    case round =>
     obtain ⟨k, hk, rfl, HK⟩ := hrel
     have hk0 : (0 : Int) ≤ k := by omega
     by_cases hlt : k < 3
     ·have hki : (k : Int) < 3 := by omega
      have hf := HI.out.fin.new HK.out
      have p0 := hf.dpc hlt
      have p1 := hf.rpc hlt
      have HF := Lib.hid hf
      clear hf
      cases hx : D k with
      | none =>
       rw [dp_none hx] at p0
       rw [rp_none hx] at p1
       clear hx
       go_wp2_with fail
       refine wp_region_line (fun w' => w'.cell? ⟨W.heap.size, k, none⟩ = some (.pointer none) ∧ w'.cell? ⟨W.heap.size, 3 + k, none⟩ = some (.pointer none)) (pl := [(0, true), (1, true), (2, true), (3, true), (4, true), (5, true), (6, true), (7, true), (8, true), (9, true), (10, true), (11, true), (12, true), (13, true), (14, true), (15, true), (16, true), (17, true), (18, true), (19, true), (20, true), (21, true), (22, true), (24, true), (25, true), (26, true), (27, true), (28, true), (29, true), (23, false), (30, false), (31, false), (32, true), (33, true)]) hmo (by kernel_rfl) ⟨by simpa using p0, by simpa using p1⟩ ?_
       iterate 29 (first | (refine line_get rfl rfl (fun K hK => ?_); apply Exists.intro; refine ⟨fun w s => ?_, ?_⟩; (first | (have q := s rfl; go_simp; with_reducible rfl) | (go_simp; with_reducible rfl)); (go_simp; refine hK _ ?_; clear hK K)) | (refine line_past rfl rfl (fun K hK => ?_); go_simp; refine hK _ ?_; clear hK K))
       iterate 3 (refine line_miss rfl rfl (fun _ => ⟨by simpa using p0, by simpa using p1⟩) ?_; go_simp)
       (refine line_past rfl rfl (fun K hK => ?_); go_simp; refine hK _ ?_; clear hK K)
       (refine line_get rfl rfl (fun K hK => ?_); apply Exists.intro; refine ⟨fun w s => ?_, ?_⟩; (first | (have q := s rfl; go_simp; with_reducible rfl) | (go_simp; with_reducible rfl)); (go_simp; refine hK _ ?_; clear hK K))
       refine line_nil ?_
       go_wp2_with fail
       exact ⟨⟨k + 1, by omega, by go_num, Lib.hid (HK.out.trans (Kp.drew _ _) fid fid)⟩, by simp [intOf]; omega⟩
      | some x =>
       rw [dp_some hx] at p0
       rw [rp_some hx] at p1
       have hst := HAL.out k x hx
       have hat := HF.out.at_ k x hx
       have HX := Lib.hid (And.intro hst hat)
       clear hx hst hat
       go_wp2_with fail
       refine wp_region_line (fun w' => w'.cell? ⟨W.heap.size, k, none⟩ = some (.pointer (some ⟨x.d, 0, none⟩)) ∧ w'.cell? ⟨W.heap.size, 3 + k, none⟩ = some (.pointer (some ⟨x.r, 0, none⟩))) (pl := [(0, true), (1, true), (2, true), (3, true), (4, true), (5, true), (6, true), (7, true), (8, true), (9, true), (10, true), (11, true), (12, true), (13, true), (14, true), (15, true), (16, true), (17, true), (18, true), (19, true), (20, true), (21, true), (22, true), (24, true), (25, true), (26, true), (27, true), (28, true), (29, true), (23, false), (30, false), (31, false), (32, true), (33, true)]) hmo (by kernel_rfl) ⟨by simpa using p0, by simpa using p1⟩ ?_
       iterate 29 (refine line_get rfl rfl (fun K hK => ?_); apply Exists.intro; refine ⟨fun w s => ?_, ?_⟩; (first | (have q := s rfl; go_simp; with_reducible rfl) | (go_simp; with_reducible rfl)); (go_simp; refine hK _ ?_; clear hK K))
       (refine line_do rfl rfl (fun K hK => ?_); go_simp)
       have nd : New wr wr.drew := Kp.drew _ _
       have hat := HX.out.2.kp nd (fun _ _ => id)
       have HA := Lib.hid (And.intro hat nd)
       clear hat nd
       refine (State_calls _ x.d x.s x.F HA.out.1.p).mono ?_
       rintro e v5 ⟨A5, c5, ys5, rfl, o5, y5, f5, n5⟩
       have n05 : New wr v5 := HA.out.2.trans n5 fid fid
       have H5 := Lib.hid (And.intro o5 (And.intro y5 (And.intro n5 n05)))
       have p0 := New.cell n05 p0
       have p1 := New.cell n05 p1
       clear o5 y5 f5 n5 n05
       refine hK _ _ (fun _ => ⟨p0, p1⟩) ?_
       clear hK K
       (refine line_do rfl rfl (fun K hK => ?_); go_simp)
       refine (RState_calls _ x.r x.t x.G ((HA.out.1.q).new H5.out.2.2.1)).mono ?_
       rintro e v6 ⟨A6, c6, ys6, rfl, o6, y6, f6, n6⟩
       rw [← HX.out.1] at y6
       have H6 := Lib.hid (And.intro o6 (And.intro y6 n6))
       have p0 := New.cell n6 p0
       have p1 := New.cell n6 p1
       clear o6 y6 f6 n6
       refine hK _ _ (fun _ => ⟨p0, p1⟩) ?_
       clear hK K
       rw [← HX.out.1]
       (refine line_do rfl rfl (fun K hK => ?_); go_simp)
       have l56 : ys5.map FV.f = ys6.map FV.f := H5.out.2.1.trans H6.out.2.1.symm
       have hl5 := fl_len HX.out.2.p.ok H5.out.2.1
       have hn5 : ys6.length = (ys5.map FV.fi).length := by have := congrArg List.length l56; simpa using this.symm
       have HL := Lib.hid (And.intro l56 (And.intro hl5 hn5))
       clear l56 hl5 hn5
       refine (SameI_calls v6 (x.s.cap : Int) x.s.fuse x.s.down A5 A6 ys5.length ys6.length c5 c6 (ys5.map FV.fi) (ys6.map FV.fi) (H5.out.1.new H6.out.2.2).rdI H6.out.1.rdI (tel_eq HL.out.1) (by simp) HL.out.2.2 (by simp; have := HL.out.2.1.1; omega)).mono ?_
       rintro e v7 ⟨rfl, n7⟩
       have H7 := Lib.hid n7
       clear n7 p0 p1
       refine hK _ _ (no_need (by kernel_rfl)) ?_
       clear hK K
       iterate 2 (refine line_get rfl rfl (fun K hK => ?_); apply Exists.intro; refine ⟨fun w s => ?_, ?_⟩; (first | (have q := s rfl; go_simp; with_reducible rfl) | (go_simp; with_reducible rfl)); (go_simp; refine hK _ ?_; clear hK K))
       refine line_nil ?_
       go_wp2_with fail
       exact ⟨⟨k + 1, by omega, by go_num, Lib.hid (((HK.out.trans H5.out.2.2.2 fid fid).trans H6.out.2.2 fid fid).trans H7.out fid fid)⟩, by simp [intOf]; omega⟩
     ·obtain rfl : k = 3 := by omega
      have hf := HI.out.fin.new HK.out
      have HF := Lib.hid hf
      clear hf
      go_wp2_with fail
      refine (settle3 W.heap.size (pcOf D) Φ wr wr HF.out.sx).mono ?_
      rintro e ve ⟨rfl, hs⟩
      obtain ⟨Φe, he⟩ := HF.out.of_sx hs
      have HE := Lib.hid he
      clear hs he
      go_wp2_with fail
      go_loopw [8] (fun i wr => ∃ k : Nat, k ≤ 3 ∧ i = .int .i64 (k : Int) ∧ Hid (New ve wr)) (fun i _ => 3 - (intOf i).toNat)
      case atStart => exact ⟨0, Nat.zero_le _, rfl, Lib.hid (Kp.refl _ _)⟩
      case round =>
       obtain ⟨k, hk, rfl, HK⟩ := hrel
       have hk0 : (0 : Int) ≤ k := by omega
       by_cases hlt : k < 3
       ·have hki : (k : Int) < 3 := by omega
        have hf := HE.out.new HK.out
        have p0 := hf.dpc hlt
        have p1 := hf.rpc hlt
        have HF := Lib.hid hf
        clear hf
        cases hx : D k with
        | none =>
         rw [dp_none hx] at p0
         rw [rp_none hx] at p1
         clear hx
         go_wp2_with fail
         refine wp_region_line (fun w' => w'.cell? ⟨W.heap.size, k, none⟩ = some (.pointer none) ∧ w'.cell? ⟨W.heap.size, 3 + k, none⟩ = some (.pointer none)) (pl := [(0, true), (1, true), (2, true), (3, true), (4, true), (5, true), (6, true), (7, true), (8, true), (9, true), (10, true), (11, true), (12, true), (13, true), (14, true), (15, true), (16, true), (17, true), (18, true), (19, true), (20, true), (21, true), (22, true), (24, true), (25, true), (26, true), (27, true), (28, true), (29, true), (23, false), (30, false), (31, false), (32, true), (33, true)]) hmo (by kernel_rfl) ⟨by simpa using p0, by simpa using p1⟩ ?_
         iterate 29 (first | (refine line_get rfl rfl (fun K hK => ?_); apply Exists.intro; refine ⟨fun w s => ?_, ?_⟩; (first | (have q := s rfl; go_simp; with_reducible rfl) | (go_simp; with_reducible rfl)); (go_simp; refine hK _ ?_; clear hK K)) | (refine line_past rfl rfl (fun K hK => ?_); go_simp; refine hK _ ?_; clear hK K))
         iterate 3 (refine line_miss rfl rfl (fun _ => ⟨by simpa using p0, by simpa using p1⟩) ?_; go_simp)
         (refine line_past rfl rfl (fun K hK => ?_); go_simp; refine hK _ ?_; clear hK K)
         (refine line_get rfl rfl (fun K hK => ?_); apply Exists.intro; refine ⟨fun w s => ?_, ?_⟩; (first | (have q := s rfl; go_simp; with_reducible rfl) | (go_simp; with_reducible rfl)); (go_simp; refine hK _ ?_; clear hK K))
         refine line_nil ?_
         go_wp2_with fail
         exact ⟨⟨k + 1, by omega, by go_num, Lib.hid (HK.out.trans (Kp.drew _ _) fid fid)⟩, by simp [intOf]; omega⟩
        | some x =>
         rw [dp_some hx] at p0
         rw [rp_some hx] at p1
         have hst := HAL.out k x hx
         have hat := HF.out.at_ k x hx
         have HX := Lib.hid (And.intro hst hat)
         clear hx hst hat
         go_wp2_with fail
         refine wp_region_line (fun w' => w'.cell? ⟨W.heap.size, k, none⟩ = some (.pointer (some ⟨x.d, 0, none⟩)) ∧ w'.cell? ⟨W.heap.size, 3 + k, none⟩ = some (.pointer (some ⟨x.r, 0, none⟩))) (pl := [(0, true), (1, true), (2, true), (3, true), (4, true), (5, true), (6, true), (7, true), (8, true), (9, true), (10, true), (11, true), (12, true), (13, true), (14, true), (15, true), (16, true), (17, true), (18, true), (19, true), (20, true), (21, true), (22, true), (24, true), (25, true), (26, true), (27, true), (28, true), (29, true), (23, false), (30, false), (31, false), (32, true), (33, true)]) hmo (by kernel_rfl) ⟨by simpa using p0, by simpa using p1⟩ ?_
         iterate 29 (refine line_get rfl rfl (fun K hK => ?_); apply Exists.intro; refine ⟨fun w s => ?_, ?_⟩; (first | (have q := s rfl; go_simp; with_reducible rfl) | (go_simp; with_reducible rfl)); (go_simp; refine hK _ ?_; clear hK K))
         (refine line_do rfl rfl (fun K hK => ?_); go_simp)
         have nd : New wr wr.drew := Kp.drew _ _
         have hat := HX.out.2.kp nd (fun _ _ => id)
         have HA := Lib.hid (And.intro hat nd)
         clear hat nd
         refine (State_calls _ x.d x.s x.F HA.out.1.p).mono ?_
         rintro e v5 ⟨A5, c5, ys5, rfl, o5, y5, f5, n5⟩
         have n05 : New wr v5 := HA.out.2.trans n5 fid fid
         have H5 := Lib.hid (And.intro o5 (And.intro y5 (And.intro n5 n05)))
         have p0 := New.cell n05 p0
         have p1 := New.cell n05 p1
         clear o5 y5 f5 n5 n05
         refine hK _ _ (fun _ => ⟨p0, p1⟩) ?_
         clear hK K
         (refine line_do rfl rfl (fun K hK => ?_); go_simp)
         refine (RState_calls _ x.r x.t x.G ((HA.out.1.q).new H5.out.2.2.1)).mono ?_
         rintro e v6 ⟨A6, c6, ys6, rfl, o6, y6, f6, n6⟩
         rw [← HX.out.1] at y6
         have H6 := Lib.hid (And.intro o6 (And.intro y6 n6))
         have p0 := New.cell n6 p0
         have p1 := New.cell n6 p1
         clear o6 y6 f6 n6
         refine hK _ _ (fun _ => ⟨p0, p1⟩) ?_
         clear hK K
         rw [← HX.out.1]
         (refine line_do rfl rfl (fun K hK => ?_); go_simp)
         have l56 : ys5.map FV.f = ys6.map FV.f := H5.out.2.1.trans H6.out.2.1.symm
         have hl5 := fl_len HX.out.2.p.ok H5.out.2.1
         have hn5 : ys6.length = (ys5.map FV.fi).length := by have := congrArg List.length l56; simpa using this.symm
         have HL := Lib.hid (And.intro l56 (And.intro hl5 hn5))
         clear l56 hl5 hn5
         refine (SameI_calls v6 (x.s.cap : Int) x.s.fuse x.s.down A5 A6 ys5.length ys6.length c5 c6 (ys5.map FV.fi) (ys6.map FV.fi) (H5.out.1.new H6.out.2.2).rdI H6.out.1.rdI (tel_eq HL.out.1) (by simp) HL.out.2.2 (by simp; have := HL.out.2.1.1; omega)).mono ?_
         rintro e v7 ⟨rfl, n7⟩
         have H7 := Lib.hid n7
         clear n7 p0 p1
         refine hK _ _ (no_need (by kernel_rfl)) ?_
         clear hK K
         iterate 2 (refine line_get rfl rfl (fun K hK => ?_); apply Exists.intro; refine ⟨fun w s => ?_, ?_⟩; (first | (have q := s rfl; go_simp; with_reducible rfl) | (go_simp; with_reducible rfl)); (go_simp; refine hK _ ?_; clear hK K))
         refine line_nil ?_
         go_wp2_with fail
         exact ⟨⟨k + 1, by omega, by go_num, Lib.hid (((HK.out.trans H5.out.2.2.2 fid fid).trans H6.out.2.2 fid fid).trans H7.out fid fid)⟩, by simp [intOf]; omega⟩
       ·obtain rfl : k = 3 := by omega
        have hf := HE.out.new HK.out
        have HF := Lib.hid hf
        clear hf
        go_wp2_with fail
        refine (intact3 W.heap.size (pcOf D) Φe wr (fun _ => 2) (fun _ => .inr rfl) wr HF.out.sx).mono ?_
        rintro e v8 ⟨rfl, hs⟩
        obtain ⟨Φ8, h8⟩ := HF.out.of_sx hs
        have H8 := Lib.hid h8
        clear hs h8
        go_wp2_with fail
        refine (first_calls v8).mono ?_
        rintro e v9 ⟨rfl, n9⟩
        have H9 := Lib.hid n9
        clear n9
        go_wp2_with fail
        go_ret
        exact ⟨rfl, (H8.out.low.mono fun k hk h => absurd hk (Nat.not_lt.2 h)).trans H9.out fid fid⟩
end Go.Proofs.YtekcoeonlfmebaaGreatDoor.Kit
