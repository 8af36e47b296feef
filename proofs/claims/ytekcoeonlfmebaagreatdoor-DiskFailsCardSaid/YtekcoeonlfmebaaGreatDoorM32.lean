/- 2 texts in one: daybookref03: Left.; daybookref03: Crash. -/
import Derived.Test.YtekcoeonlfmebaaGreatDoorM31
import Derived.Test.YtekcoeonlfmebaaGreatDoorM25
namespace Go.Proofs.YtekcoeonlfmebaaGreatDoor.Kit
open Go Go.RowKit
set_option maxRecDepth 100000 in
set_option maxHeartbeats 2000000 in
theorem RLeft_calls (w : World) (y : FV) (i : Nat) (KA : Option Addr) (c : Nat) (keep : List Int) (hK : RdN w KA keep) (hs : y.f.syn ≤ y.f.data.length) (hd : y.f.data.length ≤ 1048576) (hkl : keep.length ≤ 4611686018427387904) :
  Calls Tryz.prog 214 #[.agg #[.string (bstr y.f.name), .slice y.A y.f.data.length y.c, .int .i64 (y.f.syn : Int)], .int .i64 (i : Int), .slice KA keep.length c] w fun e w' => e = .returned (.int .i64 (leftOf y.f i keep : Int)) ∧ New w w' := by
 have HK := Lib.hid hK
 clear hK
 have nW : New w (w.alloc (.cells #[.string (bstr y.f.name), .slice y.A y.f.data.length y.c, .int .i64 (y.f.syn : Int)] 82)) := Kp.alloc _ _ _
 have bW := heap_alloc_new w (.cells #[.string (bstr y.f.name), .slice y.A y.f.data.length y.c, .int .i64 (y.f.syn : Int)] 82)
 have f1 : (w.alloc (.cells #[.string (bstr y.f.name), .slice y.A y.f.data.length y.c, .int .i64 (y.f.syn : Int)] 82)).cell? ⟨w.heap.size, 1, none⟩ = some (.slice y.A y.f.data.length y.c) := (cell_of_block bW).trans rfl
 have f2 : (w.alloc (.cells #[.string (bstr y.f.name), .slice y.A y.f.data.length y.c, .int .i64 (y.f.syn : Int)] 82)).cell? ⟨w.heap.size, 2, none⟩ = some (.int .i64 (y.f.syn : Int)) := (cell_of_block bW).trans rfl
 have HN := Lib.hid nW
 clear bW
 by_cases hke : keep = []
 ·subst hke
  have hq : leftOf y.f i [] = y.f.syn := by unfold leftOf; rw [if_pos rfl]
  rw [hq]
  clear hq nW
  go_enter Tryz.func214, Tryz.ntmps214
  go_wp2_with fail
  go_ret
  exact ⟨rfl, HN.out⟩
 ·have hpos : 0 < keep.length := List.length_pos_iff.2 hke
  have hlt : i % keep.length < keep.length := Nat.mod_lt _ hpos
  obtain ⟨v, hv⟩ : ∃ v, keep[i % keep.length]? = some v := ⟨_, List.getElem?_eq_getElem hlt⟩
  obtain ⟨b, off, rfl, hc⟩ := HK.out hke
  have k0 := nW.cell (hc _ _ hv)
  have hq : leftOf y.f i keep = y.f.syn + min v.toNat (y.f.data.length - y.f.syn) := by
   unfold leftOf
   rw [if_neg hke, List.getD_eq_getElem?_getD, hv]
   rfl
  rw [hq]
  have hn0 : ((keep.length : Int) == 0) = false := by simp; omega
  have hn1 : ¬ (keep.length : Int) = 0 := by omega
  have hrem : (i : Int).tmod (keep.length : Int) = ((i % keep.length : Nat) : Int) := by rw [Int.ofNat_tmod]
  obtain ⟨j, hj⟩ : ∃ j, i % keep.length = j := ⟨_, rfl⟩
  rw [hj] at k0 hrem hlt
  have hjl : (j : Int) < (keep.length : Int) := by omega
  have hj0 : (0 : Int) ≤ j := by omega
  have HQ := Lib.hid (And.intro hq hj)
  have hw1 : IntKind.i64.wrap ((y.f.data.length : Int) - (y.f.syn : Int)) = (y.f.data.length : Int) - (y.f.syn : Int) := by rw [IntKind.wrap_i64]; omega
  clear hq hv hke nW hc hj
  by_cases h1 : v < 0
  ·have h1d : decide (v < 0) = true := decide_eq_true h1
   have e : min v.toNat (y.f.data.length - y.f.syn) = 0 := by omega
   have h2d : ¬ ((y.f.data.length : Int) - (y.f.syn : Int) < 0) := by omega
   rw [e]
   clear e
   go_enter Tryz.func214, Tryz.ntmps214
   go_wp2_with fail
   go_ret
   exact ⟨by simp, HN.out⟩
  ·have h1d : decide (v < 0) = false := decide_eq_false h1
   by_cases h2 : (y.f.data.length : Int) - (y.f.syn : Int) < v
   ·have e : min v.toNat (y.f.data.length - y.f.syn) = y.f.data.length - y.f.syn := by omega
    rw [e]
    clear e
    have hw2 : IntKind.i64.wrap ((y.f.syn : Int) + ((y.f.data.length : Int) - (y.f.syn : Int))) = (y.f.data.length : Int) := by rw [IntKind.wrap_i64]; omega
    go_enter Tryz.func214, Tryz.ntmps214
    go_wp2_with fail
    go_ret
    exact ⟨by simp, HN.out⟩
   ·obtain ⟨q, rfl⟩ : ∃ q : Nat, v = q := ⟨v.toNat, by omega⟩
    have e : min (q : Int).toNat (y.f.data.length - y.f.syn) = q := by omega
    rw [e]
    clear e
    go_enter Tryz.func214, Tryz.ntmps214
    go_wp2_with fail
    go_ret
    exact ⟨by simp, HN.out⟩
theorem RefX.putTwo {w w1 : World} {r g c : Nat} {s s' : DS} {ys : List FV} (h : RefX w r s (some ⟨g, 0, none⟩) c ys) {i : Nat} {y : FV} (hy : ys[i]? = some y) (l : List UInt8) (B : Option Addr) (d q : Nat)
  (n : New w w1) (hzo : Own w1 5 1 B d l.length (bcs l)) (hzb : ∀ k, Bk B k → w.heap.size ≤ k) (hcap : s'.cap = s.cap) (hfu : s'.fuse = s.fuse) (hdn : s'.down = s.down) (hfl : (ys.set i ⟨⟨y.f.name, l, q⟩, B, d⟩).map FV.f = s'.files) (ok : s'.Ok) :
  RefX ((w1.setCell ⟨g, i * 3 + 1, none⟩ (.slice B l.length d)).setCell ⟨g, i * 3 + 2, none⟩ (.int .i64 (q : Int))) r s' (some ⟨g, 0, none⟩) c (ys.set i ⟨⟨y.f.name, l, q⟩, B, d⟩) ∧ Kp (fun k => k = g) w ((w1.setCell ⟨g, i * 3 + 1, none⟩ (.slice B l.length d)).setCell ⟨g, i * 3 + 2, none⟩ (.int .i64 (q : Int))) ∧ (∀ k ∈ nblks (some ⟨g, 0, none⟩) (ys.set i ⟨⟨y.f.name, l, q⟩, B, d⟩), k ∈ nblks (some ⟨g, 0, none⟩) ys ∨ w.heap.size ≤ k) := by
 have hg : g ∈ nblks (some ⟨g, 0, none⟩) ys := List.mem_append_left _ (mem_bks.2 (Bk.some_.2 rfl))
 have hrg : r ≠ g := fun e => h.out (e ▸ hg)
 have hrl : r < w.heap.size := h.lt r List.mem_cons_self
 have hgl : g < w.heap.size := h.lt g (List.mem_cons_of_mem _ hg)
 have hil : i < ys.length := (List.getElem?_eq_some_iff.1 hy).1
 have k1 : Kp (fun k => k = g) w1 (w1.setCell ⟨g, i * 3 + 1, none⟩ (.slice B l.length d)) := Kp.setCell _ _ _ rfl
 have k2 : Kp (fun k => k = g) (w1.setCell ⟨g, i * 3 + 1, none⟩ (.slice B l.length d)) ((w1.setCell ⟨g, i * 3 + 1, none⟩ (.slice B l.length d)).setCell ⟨g, i * 3 + 2, none⟩ (.int .i64 (q : Int))) := Kp.setCell _ _ _ rfl
 have kk : Kp (fun k => k = g) w ((w1.setCell ⟨g, i * 3 + 1, none⟩ (.slice B l.length d)).setCell ⟨g, i * 3 + 2, none⟩ (.int .i64 (q : Int))) := (n.trans k1 (fun _ _ h => h.elim) fid).trans k2 fid fid
 have hp := h.own.put hy (m := 1) (z := ⟨⟨y.f.name, l, y.f.syn⟩, B, d⟩) (by omega) (.slice B l.length d) (by simp [FV.cells]) n (fun _ _ => id) hzo (fun k hk => .inl (hzb k hk))
 have hBg : ∀ k, Bk B k → k ≠ g := fun k hk e => by have := hzb k hk; omega
 have hp2 := hp.put (i := i) (y := ⟨⟨y.f.name, l, y.f.syn⟩, B, d⟩) (z := ⟨⟨y.f.name, l, q⟩, B, d⟩) (List.getElem?_set_self hil) (m := 2) (by omega) (.int .i64 (q : Int)) (by simp [FV.cells]) (Kp.refl (fun _ => False) _) (fun _ _ => id) (hzo.kp k1 hBg) (fun k hk => .inr hk)
 rw [List.set_set] at hp2
 have hsub : ∀ k ∈ nblks (some ⟨g, 0, none⟩) (ys.set i ⟨⟨y.f.name, l, q⟩, B, d⟩), k ∈ nblks (some ⟨g, 0, none⟩) ys ∨ w.heap.size ≤ k := fun k hk => by
  rcases List.mem_append.1 hk with hk | hk
  ·exact .inl (List.mem_append_left _ hk)
  ·rcases fblks_set_cases hk with hk | hk
   ·exact .inl (List.mem_append_right _ hk)
   ·exact .inr (hzb k hk)
 refine ⟨⟨?_, hp2, fun hm => (hsub r hm).elim h.out fun h => by omega, hfl, ok⟩, kk, hsub⟩
 rw [kk.block r hrl hrg, h.blk, hcap, hfu, hdn, List.length_set]
theorem RdB.pre' {w : World} {A : Option Addr} {l : List UInt8} (h : RdB w A l) (m : Nat) : RdB w A (l.take m) := by
 intro hne
 obtain ⟨b, off, rfl, hc⟩ := h (fun e => hne (by rw [e]; simp))
 refine ⟨b, off, rfl, fun j hj => ?_⟩
 rw [List.length_take] at hj
 rw [hc j (by omega)]
 congr 3
 rw [List.getElem_take]
theorem RdN.kp2 {w w' : World} {S : Nat → Prop} {A : Option Addr} {l : List Int} (h : RdN w A l) (hk : Kp S w w') (hS : l ≠ [] → ∀ k, Bk A k → ¬ S k) : RdN w' A l := fun hl => (h.kp hk (hS hl)) hl
set_option maxRecDepth 100000 in
set_option maxHeartbeats 8000000 in
theorem RCrash_calls (w : World) (r : Nat) (s : DS) (F : List Nat) (KA : Option Addr) (kc : Nat) (keep : List Int) (h : RefAt w r s F) (hK : RdN w KA keep) (hkl : keep.length ≤ 4611686018427387904) (hA : keep ≠ [] → ∀ k, Bk KA k → k ∉ F) :
  Calls Tryz.prog 111 #[.pointer (some ⟨r, 0, none⟩), .slice KA keep.length kc] w fun e w' => e = .returned (.tuple #[]) ∧ ∃ F', RefAt w' r (s.crash keep) F' ∧ Mv F F' w w' := by
 have hmo : Tryz.prog.follows Departure.mixedOrders = true := by kernel_rfl
 obtain ⟨A, c, ys, hX, rfl⟩ := h
 have hfew := hX.few
 have HX := Lib.hid hX
 have HK := Lib.hid (And.intro hK hA)
 clear hX hK hA
 go_enter Tryz.func111, Tryz.ntmps111
 go_wp2_with fail
 go_loopw [4] (fun i wr => ∃ (k : Nat) (zs : List FV), k ≤ ys.length ∧ zs.length = ys.length ∧ i = .int .i64 (k : Int) ∧ Hid (RefX wr r (s.part keep k) A c zs ∧ Kp (· ∈ r :: nblks A ys) w wr ∧ ∀ j ∈ nblks A zs, j ∈ nblks A ys ∨ w.heap.size ≤ j)) (fun i _ => ys.length - (intOf i).toNat)
 case atStart => exact ⟨0, ys, Nat.zero_le _, rfl, rfl, Lib.hid ⟨by rw [DS.part_zero]; exact HX.out, Kp.refl _ _, fun _ h => .inl h⟩⟩
 case round =>
  obtain ⟨k, zs, hk, hzl, rfl, HI⟩ := hrel
  have hk0 : (0 : Int) ≤ k := by omega
  have d1 : wr.cell? ⟨r, 1, none⟩ = some (.slice A ys.length c) := (cell_of_block HI.out.1.blk).trans (by rw [hzl]; rfl)
  by_cases hlt : k < ys.length
  ·have hki : (k : Int) < (ys.length : Int) := by omega
   obtain ⟨y, hy⟩ : ∃ y, zs[k]? = some y := ⟨_, List.getElem?_eq_getElem (by omega)⟩
   obtain ⟨g, rfl, r0, r1, r2, rf⟩ := HI.out.1.own.at_ hy
   have hfs : s.files[k]? = some y.f := by
    have h1 : (s.part keep k).files[k]? = some y.f := by rw [← HI.out.1.files, List.getElem?_map, hy]; rfl
    obtain ⟨f, hf⟩ : ∃ f, s.files[k]? = some f := ⟨_, List.getElem?_eq_getElem (by rw [← HX.out.files, List.length_map]; exact hlt)⟩
    rw [DS.part_at keep hf] at h1
    rw [hf, h1]
   have hym := List.mem_of_getElem? hy
   have hsy : y.f.syn ≤ y.f.data.length := HI.out.1.ok.syn y.f (HI.out.1.files ▸ List.mem_map_of_mem hym)
   have hdl := HI.out.1.copied.2.2 y hym
   have hql := leftOf_le hsy k keep
   have hKr : RdN wr KA keep := HK.out.1.kp2 HI.out.2.1 fun hne j hb hj => HK.out.2 hne j hb hj
   have hyo := HI.out.1.one hym
   have hcc := hyo.cap
   obtain ⟨q, hq⟩ : ∃ q, leftOf y.f k keep = q := ⟨_, rfl⟩
   rw [hq] at hql
   have HY := Lib.hid (And.intro hy (And.intro hfs (And.intro hKr (And.intro hyo (And.intro hq rf)))))
   clear hy hfs hym hKr hyo hq rf
   go_wp2_with fail
   refine (RLeft_calls wr y k KA kc keep HY.out.2.2.1 hsy hdl hkl).mono ?_
   rintro e w1 ⟨rfl, n1⟩
   rw [HY.out.2.2.2.2.1]
   have e1 := n1.cell d1
   have s1 := n1.cell r1
   have H1 := Lib.hid n1
   clear n1 d1 r0 r1 r2
   go_wp2_with fail
   have hs : ∀ w, (Instr.slice 55 (.slice y.A y.f.data.length y.c) none (some (.int .i64 (q : Int))) none).run Tryz.prog w = .ok (.slice y.A q y.c) w := run_slice_upto (P := Tryz.prog) 55 5 Tryz.underlying55 1 Tryz.size_u8 y.A y.f.data.length y.c q (by omega)
   refine wp_region_line (fun w' => w'.cell? ⟨r, 1, none⟩ = some (.slice (some ⟨g, 0, none⟩) ys.length c) ∧ w'.cell? ⟨g, k * 3 + 1, none⟩ = some (.slice y.A y.f.data.length y.c)) (pl := [(0, true), (1, true), (2, true), (3, true), (4, true), (5, true), (7, true), (8, true), (9, true), (10, true), (11, true), (12, true), (13, true), (14, true), (15, true), (16, true), (17, true), (6, false), (18, false), (19, true), (20, true), (21, false)]) hmo (by kernel_rfl) ⟨by simpa using e1, by simpa using s1⟩ ?_
   iterate 17 (refine line_get rfl rfl (fun K hK => ?_); apply Exists.intro; refine ⟨fun w s => ?_, ?_⟩; (first | (have q := s rfl; go_simp; with_reducible rfl) | (go_simp; with_reducible rfl)); (go_simp; refine hK _ ?_; clear hK K))
   (refine line_do rfl rfl (fun K hK => ?_); go_simp)
   have na : New w1 (w1.alloc (.cells #[] 5)).drew := (Kp.alloc _ _ _).trans (Kp.drew _ _) fid fid
   refine hK _ _ (fun _ => ⟨na.cell e1, na.cell s1⟩) ?_
   clear hK K
   refine line_do rfl rfl (fun K hK => ?_)
   have hqt : (y.f.data.take q).length = q := by rw [List.length_take]; omega
   have hrq : RdB w1 y.A (y.f.data.take q) := (HY.out.2.2.2.1.rd.new H1.out).pre' q
   obtain ⟨l, hl⟩ : ∃ l, y.f.data.take q = l := ⟨_, rfl⟩
   rw [hl] at hrq hqt
   refine wp_append_src _ (.tmp 33) (.tmp 44) 55 55 rfl 5 (.int .u8 0) 1 1 Tryz.underlying55 Tryz.info_u8 rfl (some ⟨w1.heap.size, 0, none⟩) 0 0 [] rfl ((Own.bare w1 _ _).new (Kp.drew _ _)) _ rfl q (bcs l) (hqt ▸ Src.ofRdB _ Tryz.underlying55 y.c (hrq.new na)) (by omega) (by omega) ?_
   intro A3 c3 w3 q1 q2 q3
   have n3 : New w1 w3 := na.trans q2 fid (fun j hj h => by have := Bk.some_.1 h; simp at this; omega)
   refine hK _ _ (fun _ => ⟨n3.cell e1, n3.cell s1⟩) ?_
   clear hK K
   have e3 : (0 : Nat) + q = q := Nat.zero_add _
   rw [e3] at q1 ⊢
   have z3 : ∀ k, Bk A3 k → w1.heap.size ≤ k := fun k hk => (q3 k hk).elim (fun h => by have := Bk.some_.1 h; simp at this; omega) (fun h => by rw [h]; simp)
   have rfz : w3.frozen? ⟨g, k * 3 + 1, none⟩ = false ∧ w3.frozen? ⟨g, k * 3 + 2, none⟩ = false ∧ w3.cell? ⟨g, k * 3 + 2, none⟩ = some (.int .i64 (y.f.syn : Int)) := by
    obtain ⟨g', hg', -, -, h2, hf⟩ := (HI.out.1.own.kp (H1.out.trans n3 fid fid) (fun _ _ => id)).at_ HY.out.1
    obtain rfl : g = g' := by simpa using hg'
    exact ⟨hf _, hf _, h2⟩
   have rg := n3.cell s1
   have rz1 := rfz.1
   have t1 := n3.cell e1
   have b3 : w3.heap[g]? = w3.heap[g]? := rfl
   have H3 := Lib.hid (And.intro q1 (And.intro n3 (And.intro z3 (And.intro hl (And.intro hqt rfz)))))
   clear q1 q2 q3 n3 z3 e3 na hrq hl hqt rfz e1 s1 b3
   iterate 2 (refine line_get rfl rfl (fun K hK => ?_); apply Exists.intro; refine ⟨fun w s => ?_, ?_⟩; (first | (have q := s rfl; go_simp; with_reducible rfl) | (go_simp; with_reducible rfl)); (go_simp; refine hK _ ?_; clear hK K))
   (refine line_do rfl rfl (fun K hK => ?_); go_simp)
   refine hK _ _ (no_need (by kernel_rfl)) ?_
   clear hK K
   refine line_nil ?_
   obtain ⟨W4, hW4⟩ : ∃ W4, w3.setCell ⟨g, k * 3 + 1, none⟩ (.slice A3 q c3) = W4 := ⟨_, rfl⟩
   rw [hW4]
   have k4 : Kp (fun j => j = g) w3 W4 := hW4 ▸ Kp.setCell _ _ _ rfl
   have hgm : g ∈ nblks (some ⟨g, 0, none⟩) zs := List.mem_append_left _ (mem_bks.2 (Bk.some_.2 rfl))
   have hrg : r ≠ g := fun e => HI.out.1.out (e ▸ hgm)
   have u1 : W4.cell? ⟨r, 1, none⟩ = some (.slice (some ⟨g, 0, none⟩) ys.length c) := k4.cell_of t1 hrg
   obtain ⟨cur, hcur⟩ : ∃ cur, w3.heap[g]? = some (.cells cur 82 (0, 0)) := by
    rcases (HI.out.1.own.kp (H1.out.trans H3.out.2.1 fid fid) (fun _ _ => id)).1.2 with ⟨h0, _⟩ | ⟨g', cur, h0, hg, _⟩
    ·cases h0
    ·obtain rfl : g = g' := by simpa using h0
     exact ⟨cur, hg⟩
   have m1 := heap_setCell_row (j := k * 3 + 1) hcur (.slice A3 q c3)
   rw [hW4] at m1
   have u2 : W4.cell? ⟨g, k * 3 + 2, none⟩ = some (.int .i64 (y.f.syn : Int)) := by
    rw [cell_of_block m1, Array.getElem?_setIfInBounds_ne (by omega), ← cell_of_block hcur]
    exact H3.out.2.2.2.2.2.2.2
   have u3 : W4.frozen? ⟨g, k * 3 + 2, none⟩ = false := by simp [World.frozen?, m1]
   clear m1 hcur cur
   have H4 := Lib.hid hW4
   clear hW4 k4 t1 rg rz1
   go_wp2_with fail
   have hp := HI.out.1.putTwo (s' := s.part keep (k + 1)) HY.out.1 l A3 c3 q (H1.out.trans H3.out.2.1 fid fid) (by rw [H3.out.2.2.2.2.1]; exact H3.out.1) (fun j hj => Nat.le_trans H1.out.size (H3.out.2.2.1 j hj)) rfl rfl rfl (by
    rw [DS.part_step HY.out.2.1 HI.out.1.ok, ← HI.out.1.files]
    exact map_set_updF (by rw [HI.out.1.files]; exact Rise.nodup HI.out.1.ok.rise) HY.out.1 rfl (by unfold cutF; rw [HY.out.2.2.2.2.1, H3.out.2.2.2.1])) (DS.part_next HY.out.2.1 HI.out.1.ok).1
   rw [H3.out.2.2.2.2.1, H4.out] at hp
   have hgF : g ∈ r :: nblks (some ⟨g, 0, none⟩) ys := List.mem_cons_of_mem _ (List.mem_append_left _ (mem_bks.2 (Bk.some_.2 rfl)))
   refine ⟨⟨k + 1, zs.set k ⟨⟨y.f.name, l, q⟩, A3, c3⟩, by omega, by rw [List.length_set]; exact hzl, by go_num, Lib.hid ⟨hp.1, HI.out.2.1.trans hp.2.1 fid (fun j _ e => e ▸ hgF), fun j hj => (hp.2.2 j hj).elim (HI.out.2.2 j) fun h => .inr (Nat.le_trans HI.out.2.1.size h)⟩⟩, by simp [intOf]; omega⟩
  ·obtain rfl : k = ys.length := by omega
   have hkd := not_lt_self ys.length
   have hall : s.part keep ys.length = { s with files := crashed keep 0 s.files } := by
    have : ys.length = s.files.length := by rw [← HX.out.files, List.length_map]
    rw [this, DS.part_all]
   have hX := HI.out.1
   rw [hall] at hX
   have hb := hX.blk
   have v2 : wr.cell? ⟨r, 2, none⟩ = some (.int .i64 s.fuse) := (cell_of_block hb).trans rfl
   have v3 : wr.cell? ⟨r, 3, none⟩ = some (.bool s.down) := (cell_of_block hb).trans rfl
   have y2 : wr.frozen? ⟨r, 2, none⟩ = false := by simp [World.frozen?, hb]
   have y3 : wr.frozen? ⟨r, 3, none⟩ = false := by simp [World.frozen?, hb]
   have HE := Lib.hid (And.intro hX hb)
   clear hX hb hall
   go_wp2_with fail
   go_end0
   have g1 := heap_setCell_row (j := 2) HE.out.2 (.int .i64 (-1))
   have g2 := heap_setCell_row (j := 3) g1 (.bool false)
   have kz : Kp (fun j => j = r) wr ((wr.setCell ⟨r, 2, none⟩ (.int .i64 (-1))).setCell ⟨r, 3, none⟩ (.bool false)) := (Kp.setCell (S := fun j => j = r) wr ⟨r, 2, none⟩ _ rfl).trans (Kp.setCell (S := fun j => j = r) _ ⟨r, 3, none⟩ _ rfl) fid fid
   have hz := HE.out.1.setD (s' := s.crash keep) g2 kz rfl (DS.crash_ok HX.out.ok keep)
   exact ⟨rfl, hz.mv (S := (· ∈ r :: nblks A ys)) (HI.out.2.1.trans kz fid (fun _ _ e => e ▸ List.mem_cons_self)) (fun _ h => h) HI.out.2.2⟩
end Go.Proofs.YtekcoeonlfmebaaGreatDoor.Kit
