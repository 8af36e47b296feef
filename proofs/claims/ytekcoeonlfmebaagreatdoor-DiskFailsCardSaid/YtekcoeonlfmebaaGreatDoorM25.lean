/- 3 texts in one: A crash, file by file. No program in sight.; The play of the laws of the disk: what holds of three disks of the program, three of the document, and the book; a call that came in.; PRINTED by gen_playl.py. The laws of the disk: sameTexts, over, loosened. -/
import Derived.Test.YtekcoeonlfmebaaGreatDoorM22
import Derived.Test.YtekcoeonlfmebaaGreatDoorM24
import Derived.Test.YtekcoeonlfmebaaGreatDoorM9
import Derived.Test.YtekcoeonlfmebaaGreatDoorM11
import Derived.Test.YtekcoeonlfmebaaGreatDoorM10
namespace Go.Proofs.YtekcoeonlfmebaaGreatDoor.Kit
open Go Go.RowKit
def cutF (j : Nat) (keep : List Int) (f : Fl) : Fl := { f with data := f.data.take (leftOf f j keep), syn := leftOf f j keep }
theorem crashed_length (keep : List Int) : ∀ (l : List Fl) (i : Nat), (crashed keep i l).length = l.length
 | [], _ => rfl
 | _ :: l, i => by simp [crashed, crashed_length keep l (i + 1)]
theorem crashed_app (keep : List Int) : ∀ (l m : List Fl) (i : Nat), crashed keep i (l ++ m) = crashed keep i l ++ crashed keep (i + l.length) m
 | [], m, i => by simp [crashed]
 | _ :: l, m, i => by
  rw [List.cons_append, crashed, crashed, crashed_app keep l m (i + 1), List.length_cons, List.cons_append, show i + 1 + l.length = i + (l.length + 1) by omega]
theorem leftOf_le {f : Fl} (h : f.syn ≤ f.data.length) (i : Nat) (keep : List Int) : f.syn ≤ leftOf f i keep ∧ leftOf f i keep ≤ f.data.length := by
 unfold leftOf
 split <;> omega
def DS.part (s : DS) (keep : List Int) (k : Nat) : DS := { s with files := crashed keep 0 (s.files.take k) ++ s.files.drop k }
theorem DS.part_zero (s : DS) (keep : List Int) : s.part keep 0 = s := by simp [DS.part, crashed]
theorem DS.part_all (s : DS) (keep : List Int) : s.part keep s.files.length = { s with files := crashed keep 0 s.files } := by simp [DS.part]
theorem DS.part_cut {s : DS} (keep : List Int) {k : Nat} {f : Fl} (hf : s.files[k]? = some f) : (s.part keep k).files = crashed keep 0 (s.files.take k) ++ f :: s.files.drop (k + 1) ∧ (s.part keep (k + 1)).files = crashed keep 0 (s.files.take k) ++ cutF k keep f :: s.files.drop (k + 1) := by
 have hk := (List.getElem?_eq_some_iff.1 hf).1
 have hd : s.files.drop k = f :: s.files.drop (k + 1) := by
  rw [List.drop_eq_getElem_cons hk, (List.getElem?_eq_some_iff.1 hf).2]
 refine ⟨by unfold DS.part; rw [hd], ?_⟩
 unfold DS.part
 simp only
 rw [List.take_add_one, hf, Option.toList_some, crashed_app, List.length_take, Nat.min_eq_left (by omega), Nat.zero_add, List.append_assoc]
 rfl
theorem DS.part_at {s : DS} (keep : List Int) {k : Nat} {f : Fl} (hf : s.files[k]? = some f) : (s.part keep k).files[k]? = some f := by
 have hk := (List.getElem?_eq_some_iff.1 hf).1
 rw [(DS.part_cut keep hf).1, List.getElem?_append_right (by rw [crashed_length, List.length_take]; omega), crashed_length, List.length_take, Nat.min_eq_left (by omega), Nat.sub_self]
 rfl
theorem DS.part_step {s : DS} {keep : List Int} {k : Nat} {f : Fl} (hf : s.files[k]? = some f) (h : (s.part keep k).Ok) : (s.part keep (k + 1)).files = updF f.name (cutF k keep) (s.part keep k).files := by
 obtain ⟨e1, e2⟩ := DS.part_cut keep hf
 have hn := Rise.nodup h.rise
 rw [e2, e1, updF_cut rfl]
 exact nodup_of_map (f := Fl.name) (by rw [← e1]; exact hn) rfl
theorem DS.part_next {s : DS} {keep : List Int} {k : Nat} {f : Fl} (hf : s.files[k]? = some f) (h : (s.part keep k).Ok) : (s.part keep (k + 1)).Ok ∧ (s.part keep (k + 1)).used + f.data.length = (s.part keep k).used + leftOf f k keep := by
 have hfi := find_file h (DS.part_at keep hf)
 have hs := h.syn f (List.mem_of_find?_eq_some hfi)
 have hl := leftOf_le hs k keep
 have hc : (cutF k keep f).data.length = leftOf f k keep := by simp only [cutF, List.length_take]; omega
 have hu := used_upd h hfi (cutF k keep)
 rw [hc, ← DS.part_step hf h] at hu
 have hcap := h.used
 have hle : f.data.length ≤ (s.part keep k).used := by
  obtain ⟨_, l1, l2, hq, _⟩ := DS.find_cut h hfi
  unfold DS.used
  rw [hq, used_app, used_cons]
  omega
 have e : s.part keep (k + 1) = { s.part keep k with files := updF f.name (cutF k keep) (s.part keep k).files } := by
  have := DS.part_step hf h
  unfold DS.part at this ⊢
  simp only at this ⊢
  rw [this]
 refine ⟨?_, hu⟩
 rw [e]
 refine h.upd f.name hfi (cutF k keep) (fun _ => rfl) ?_ ?_
 ·rw [hc]
  exact Nat.le_refl _
 ·rw [← DS.part_step hf h]
  omega
theorem DS.part_ok {s : DS} (h : s.Ok) (keep : List Int) : ∀ k, k ≤ s.files.length → (s.part keep k).Ok
 | 0, _ => by rw [DS.part_zero]; exact h
 | k + 1, hk => (DS.part_next (List.getElem?_eq_getElem hk) (DS.part_ok h keep k (by omega))).1
theorem DS.crash_ok {s : DS} (h : s.Ok) (keep : List Int) : (s.crash keep).Ok := by
 have := DS.part_ok h keep s.files.length (Nat.le_refl _)
 rw [DS.part_all] at this
 exact ⟨this.cap, this.used, this.few, this.rise, this.good, this.syn, ⟨by simp [DS.crash], by simp [DS.crash]⟩, fun _ => rfl⟩
def RdN (w : World) (A : Option Addr) (l : List Int) : Prop := l ≠ [] → ∃ b off, A = some ⟨b, off, none⟩ ∧ ∀ (j : Nat) (v : Int), l[j]? = some v → w.cell? ⟨b, off + j, none⟩ = some (.int .i64 v)
theorem RdN.kp {w w' : World} {S : Nat → Prop} {A : Option Addr} {l : List Int} (h : RdN w A l) (hk : Kp S w w') (hS : ∀ k, Bk A k → ¬ S k) : RdN w' A l := by
 intro hne
 obtain ⟨b, off, rfl, hc⟩ := h hne
 exact ⟨b, off, rfl, fun j v hv => hk.cell_of (hc j v hv) (hS b (Bk.some_.2 rfl))⟩
theorem RdN.new {w w' : World} {A : Option Addr} {l : List Int} (h : RdN w A l) (hk : New w w') : RdN w' A l := h.kp hk fun _ _ => id
theorem Own.clip {w : World} {c n m : Nat} {A : Option Addr} {l : List UInt8} (h : Own w 5 1 A c n (bcs l)) (hm : m ≤ n) : Own w 5 1 A m m (bcs (l.take m)) := by
 have hl := h.len
 rw [bcs_length, Nat.mul_one] at hl
 refine ⟨by rw [bcs_length, List.length_take]; omega, ?_⟩
 rcases h.2 with ⟨rfl, rfl, rfl⟩ | ⟨g, cur, rfl, hg, h1, h2, h3, h4⟩
 ·exact .inl ⟨rfl, by omega, by omega⟩
 ·refine .inr ⟨g, cur, rfl, hg, Nat.le_refl _, by omega, by omega, ?_⟩
  have : bcs (l.take m) = (bcs l).take m := by simp [bcs, List.map_take]
  rw [this, ← h4, List.take_take, Nat.mul_one, Nat.mul_one, Nat.min_eq_left hm]
theorem Crash_step {wr w' : World} {d bm k q U : Nat} {s : DS} {keep : List Int} {x : FE} {l1 l2 : List FE} {v u : Int} (hX : DiskX wr d (s.part keep k) bm (l1 ++ x :: l2)) (hf : s.files[k]? = some x.f) (hq : leftOf x.f k keep = x.f.syn + q) (hU : (s.part keep k).used = U) (hk : Kp (fun j => j = d ∨ j = x.b) wr w')
  (hd : w'.heap[d]? = some (.cells ((dcells (s.part keep k) bm).setIfInBounds 1 (.int .i64 v)) 85 (0, 0))) (hv : v = (U : Int) - ((x.f.data.length : Int) - (x.f.syn : Int) - (q : Int)))
  (hb : w'.heap[x.b]? = some (.cells ((x.cells.setIfInBounds 0 (.slice x.A (x.f.syn + q) (x.f.syn + q))).setIfInBounds 1 (.int .i64 u)) 90 (0, 0))) (hu : u = (x.f.syn : Int) + (q : Int)) :
  ∃ G', DiskAt w' d (s.part keep (k + 1)) G' ∧ Mv (fpD d bm (l1 ++ x :: l2)) G' wr w' := by
 subst hu
 obtain ⟨hok, hus⟩ := DS.part_next hf hX.ok
 have hsy := hX.ok.syn x.f (List.mem_of_find?_eq_some (find_file hX.ok (DS.part_at keep hf)))
 have hle := leftOf_le hsy k keep
 rw [hq] at hle hus
 obtain ⟨m1, m2, m3⟩ := hX.blk_ne
 have hAb : ¬ Bk x.A x.b := fun hb => by
  have := (List.nodup_append.1 (List.nodup_append.1 (fpD_cut d bm l1 l2 x ▸ hX.own)).2.1).1
  exact (List.nodup_cons.1 this).1 (mem_bks.2 hb)
 refine hX.updAt (x' := ⟨cutF k keep x.f, x.b, x.A, x.f.syn + q⟩) hk (fun j h => h.imp id (fun (e : j = x.b) => e ▸ List.mem_cons_self)) ?_ rfl rfl ⟨?_, ?_⟩ (fun j h => .inl h) (cutF k keep) rfl (DS.part_step hf hX.ok) hok
 ·have e : (dcells (s.part keep k) bm).setIfInBounds 1 (.int .i64 v) = dcells (s.part keep (k + 1)) bm := by
   have : v = ((s.part keep (k + 1)).used : Int) := by omega
   rw [this]
   rfl
  exact e ▸ hd
 ·refine hb.trans ?_
  have hc : (x.f.data.take (x.f.syn + q)).length = x.f.syn + q := by rw [List.length_take]; omega
  simp only [FE.cells, cutF, hq, hc, Int.natCast_add]
  rfl
 ·have := (hX.mem_cut.2.kp hk (fun j hj e => e.elim (m1 j (List.mem_cons_of_mem _ (mem_bks.2 hj))).1 (fun e => hAb (e ▸ hj)))).clip hle.2
  simp only [cutF, hq]
  have hc : (x.f.data.take (x.f.syn + q)).length = x.f.syn + q := by rw [List.length_take]; omega
  rw [hc]
  exact this
theorem Crash_end {wr w' : World} {d bm k : Nat} {s : DS} {keep : List Int} {xs : List FE} (h : s.Ok) (hX : DiskX wr d (s.part keep k) bm xs) (hk : k = s.files.length) (hkp : Kp (fun j => j = d) wr w')
  (hb : w'.heap[d]? = some (.cells (((dcells (s.part keep k) bm).setIfInBounds 4 (.bool false)).setIfInBounds 3 (.int .i64 (-1))) 85 (0, 0))) : DiskAt w' d (s.crash keep) (fpD d bm xs) ∧ Mv (fpD d bm xs) (fpD d bm xs) wr w' := by
 have hf : (s.crash keep).files = (s.part keep k).files := by rw [hk, DS.part_all]; rfl
 refine ⟨⟨bm, xs, hX.state hkp (hb.trans ?_) hf (DS.crash_ok h keep), rfl⟩, hkp.mono fun j _ (e : j = d) => e ▸ mem_fpD.2 (.inl rfl), fun _ h => .inl h⟩
 have hu : (s.crash keep).used = (s.part keep k).used := by unfold DS.used; rw [hf]
 unfold dcells
 rw [hu]
 rfl
abbrev Low (W w : World) : Prop := Kp (fun k => W.heap.size ≤ k) W w
theorem RdB.low {W w : World} {A : Option Addr} {l : List UInt8} (h : RdB W A l) (hk : Low W w) : RdB w A l := by
 intro hl
 obtain ⟨b, off, rfl, hc⟩ := h hl
 refine ⟨b, off, rfl, fun j hj => hk.cell_of (hc j hj) ?_⟩
 have := World.block_lt_of_cell? W _ (hc j hj)
 simp only at this ⊢
 omega
theorem RdB.lowBk {W : World} {A : Option Addr} {l : List UInt8} (h : RdB W A l) (hl : l ≠ []) : ∀ k, Bk A k → k < W.heap.size := by
 intro k hk
 obtain ⟨b, off, rfl, hc⟩ := h hl
 obtain rfl : b = k := Bk.some_.1 hk
 exact World.block_lt_of_cell? W _ (hc 0 (List.length_pos_iff.2 hl))
theorem RdN.low {W w : World} {A : Option Addr} {l : List Int} (h : RdN W A l) (hk : Low W w) : RdN w A l := by
 intro hl
 obtain ⟨b, off, rfl, hc⟩ := h hl
 refine ⟨b, off, rfl, fun j v hj => hk.cell_of (hc j v hj) ?_⟩
 have := World.block_lt_of_cell? W _ (hc j v hj)
 simp only at this ⊢
 omega
theorem RdN.lowBk {W : World} {A : Option Addr} {l : List Int} (h : RdN W A l) (hl : l ≠ []) : ∀ k, Bk A k → k < W.heap.size := by
 intro k hk
 obtain ⟨b, off, rfl, hc⟩ := h hl
 obtain rfl : b = k := Bk.some_.1 hk
 obtain ⟨v, hv⟩ : ∃ v, l[0]? = some v := ⟨_, List.getElem?_eq_getElem (List.length_pos_iff.2 hl)⟩
 exact World.block_lt_of_cell? W _ (hc 0 v hv)
theorem RdI.low {W w : World} {A : Option Addr} {ys : List FI} (h : RdI W A ys) (hk : Low W w) : RdI w A ys := by
 refine ⟨fun hne => ?_, fun y hy => (h.2 y hy).low hk⟩
 obtain ⟨b, off, rfl, hc⟩ := h.1 hne
 refine ⟨b, off, rfl, fun j u hj => hk.cell_of (hc j u hj) ?_⟩
 have := World.block_lt_of_cell? W _ (hc j u hj)
 simp only at this ⊢
 omega
structure OpS where
 disk : Int
 kind : Int
 name : List UInt8
 to : List UInt8
 bA : Option Addr
 bc : Nat
 body : List UInt8
 at_ : Int
 n : Int
 kA : Option Addr
 kc : Nat
 keep : List Int
 cap : Int
 fA : Option Addr
 fc : Nat
 files : List FI
 fuse : Int
 down : Bool
def OpS.cells (o : OpS) : List Value := [.int .i64 o.disk, .int .i64 o.kind, .string (bstr o.name), .string (bstr o.to), .slice o.bA o.body.length o.bc, .int .i64 o.at_, .int .i64 o.n, .slice o.kA o.keep.length o.kc, .int .i64 o.cap, .slice o.fA o.files.length o.fc, .int .i64 o.fuse, .bool o.down]
def OpS.arr (o : OpS) : Array Value := #[.int .i64 o.disk, .int .i64 o.kind, .string (bstr o.name), .string (bstr o.to), .slice o.bA o.body.length o.bc, .int .i64 o.at_, .int .i64 o.n, .slice o.kA o.keep.length o.kc, .int .i64 o.cap, .slice o.fA o.files.length o.fc, .int .i64 o.fuse, .bool o.down]
structure InF (w : World) (A : Option Addr) (ys : List FI) : Prop where
 rd : RdI w A ys
 len : ys.length ≤ 2932031007317
 name : ∀ y ∈ ys, y.name.length ≤ 9223372036854775807
 data : ∀ y ∈ ys, y.data.length ≤ 140737488351232
 syn : ∀ y ∈ ys, -9223372036854775808 ≤ y.syn ∧ y.syn ≤ 9223372036854775807
structure OpS.Ok (w : World) (o : OpS) : Prop where
 name : o.name.length ≤ 9223372036854775807
 to : o.to.length ≤ 9223372036854775807
 body : RdB w o.bA o.body
 bodyLen : o.body.length ≤ 140737488351232
 keep : RdN w o.kA o.keep
 keepLen : o.keep.length ≤ 17592186043904
 keepIn : ∀ v ∈ o.keep, -9223372036854775808 ≤ v ∧ v ≤ 9223372036854775807
 atIn : -9223372036854775808 ≤ o.at_ ∧ o.at_ ≤ 9223372036854775807
 nIn : -9223372036854775808 ≤ o.n ∧ o.n ≤ 9223372036854775807
 files : InF w o.fA o.files
structure PD where
 d : Nat
 r : Nat
 s : DS
 t : DS
 F : List Nat
 G : List Nat
def PD.Fp (x : PD) (k : Nat) : Prop := k ∈ x.F ∨ k ∈ x.G
structure PD.at_ (w : World) (x : PD) : Prop where
 p : DiskAt w x.d x.s x.F
 q : RefAt w x.r x.t x.G
 apart : ∀ k ∈ x.F, k ∉ x.G
theorem PD.at_.kp {w w' : World} {S : Nat → Prop} {x : PD} (h : x.at_ w) (hk : Kp S w w') (hS : ∀ k, x.Fp k → ¬ S k) : x.at_ w' := ⟨h.p.kp hk fun k hm => hS k (.inl hm), h.q.kp hk fun k hm => hS k (.inr hm), h.apart⟩
theorem PD.at_.lt {w : World} {x : PD} (h : x.at_ w) : ∀ k, x.Fp k → k < w.heap.size := fun k hk => hk.elim (h.p.lt k) (h.q.lt k)
abbrev Pairs := Nat → Option PD
def dp (D : Pairs) (i : Nat) : Value := .pointer ((D i).map fun x => ⟨x.d, 0, none⟩)
def rp (D : Pairs) (i : Nat) : Value := .pointer ((D i).map fun x => ⟨x.r, 0, none⟩)
def pcOf (D : Pairs) : List Value := [dp D 0, dp D 1, dp D 2, rp D 0, rp D 1, rp D 2]
def upD (D : Pairs) (i : Nat) (y : Option PD) : Pairs := fun j => if j = i then y else D j
theorem upD_at (D : Pairs) (i : Nat) (y : Option PD) : upD D i y i = y := by simp [upD]
theorem upD_ne {D : Pairs} {i j : Nat} {y : Option PD} (h : j ≠ i) : upD D i y j = D j := by simp [upD, h]
theorem pcOf_dp (D : Pairs) {i : Nat} (h : i < 3) : (pcOf D)[i]? = some (dp D i) := by
 rcases i with _ | _ | _ | i
 ·rfl
 ·rfl
 ·rfl
 ·omega
theorem pcOf_rp (D : Pairs) {i : Nat} (h : i < 3) : (pcOf D)[3 + i]? = some (rp D i) := by
 rcases i with _ | _ | _ | i
 ·rfl
 ·rfl
 ·rfl
 ·omega
theorem pcOf_set (D : Pairs) {i : Nat} (h : i < 3) (y : Option PD) : ((pcOf D).set i (.pointer (y.map fun x => ⟨x.d, 0, none⟩))).set (3 + i) (.pointer (y.map fun x => ⟨x.r, 0, none⟩)) = pcOf (upD D i y) := by
 rcases i with _ | _ | _ | i
 ·rfl
 ·rfl
 ·rfl
 ·omega
theorem pcOf_same {D : Pairs} {i : Nat} {x y : PD} (hx : D i = some x) (hd : y.d = x.d) (hr : y.r = x.r) : pcOf (upD D i (some y)) = pcOf D := by
 have h1 : ∀ j, dp (upD D i (some y)) j = dp D j := fun j => by
  unfold dp upD
  split
  ·rename_i e
   subst e
   rw [hx]
   simp [hd]
  ·rfl
 have h2 : ∀ j, rp (upD D i (some y)) j = rp D j := fun j => by
  unfold rp upD
  split
  ·rename_i e
   subst e
   rw [hx]
   simp [hr]
  ·rfl
 unfold pcOf
 rw [h1, h1, h1, h2, h2, h2]
structure Inv (W0 : World) (g : Nat) (D : Pairs) (Φ : Nat → Prop) (w : World) : Prop where
 book : BX book3 (fun _ => 0) w g (pcOf D) Φ
 at_ : ∀ i x, D i = some x → x.at_ w
 out : ∀ i x, D i = some x → ∀ k, x.Fp k → ¬ Φ k
 apart : ∀ i j x y, i ≠ j → D i = some x → D j = some y → ∀ k, x.Fp k → ¬ y.Fp k
 low : Low W0 w
 lowB : ∀ k, Φ k → W0.heap.size ≤ k
 lowD : ∀ i x, D i = some x → ∀ k, x.Fp k → W0.heap.size ≤ k
 tab : Tab w
 tabL : 0 < W0.heap.size
def Alike (D : Pairs) : Prop := ∀ i x, D i = some x → x.s = x.t
theorem Inv.new {W0 : World} {g : Nat} {D : Pairs} {Φ : Nat → Prop} {w w' : World} (h : Inv W0 g D Φ w) (hk : New w w') : Inv W0 g D Φ w' :=
 ⟨h.book.new book3_ok hk, fun i x hx => (h.at_ i x hx).kp hk fun _ _ => id, h.out, h.apart, h.low.trans hk fid (fun _ _ h => h.elim), h.lowB, h.lowD, h.tab.new hk, h.tabL⟩
theorem Inv.tabΦ {W0 : World} {g : Nat} {D : Pairs} {Φ : Nat → Prop} {w : World} (h : Inv W0 g D Φ w) : ¬ Φ 0 := fun hf => by have := h.lowB _ hf; have := h.tabL; omega
theorem Inv.gl {W0 : World} {g : Nat} {D : Pairs} {Φ : Nat → Prop} {w : World} (h : Inv W0 g D Φ w) : W0.heap.size ≤ g := h.lowB g h.book.g
theorem Inv.moveD {W0 : World} {g : Nat} {D : Pairs} {Φ : Nat → Prop} {w w' : World} {i : Nat} {x : PD} {s' : DS} {F' : List Nat} (h : Inv W0 g D Φ w) (hx : D i = some x) (hd : DiskAt w' x.d s' F') (hm : Mv x.F F' w w') : Inv W0 g (upD D i (some { x with s := s', F := F' })) Φ w' := by
 have hn : ∀ k ∈ F', k ∈ x.F ∨ w.heap.size ≤ k := hm.2
 have hfp : ∀ k, PD.Fp { x with s := s', F := F' } k → x.Fp k ∨ w.heap.size ≤ k := fun k hk => hk.elim (fun hk => (hn k hk).imp .inl id) (fun hk => .inl (.inr hk))
 have hz := h.low.size
 refine ⟨?_, fun j y hy => ?_, fun j y hy k hk => ?_, fun a b y z hab hy hz k hk => ?_, h.low.trans hm.1 fid (fun k hk hm => by have := h.lowD i x hx k (.inl hm); omega), h.lowB, fun j y hy k hk => ?_, h.tab.kp hm.1 (fun hm => by have := h.lowD i x hx _ (.inl hm); have := h.tabL; omega), h.tabL⟩
 ·rw [pcOf_same (y := { x with s := s', F := F' }) hx rfl rfl]
  exact h.book.kp book3_ok hm.1 fun k hk hm => h.out i x hx k (.inl hm) hk
 ·by_cases e : j = i
  ·subst e
   rw [upD_at] at hy
   cases hy
   have hq := h.at_ j x hx
   exact ⟨hd, hq.q.kp hm.1 fun k hk hm => hq.apart k hm hk, fun k hk hg => (hn k hk).elim (fun hk => hq.apart k hk hg) (fun h => by have := hq.q.lt k hg; omega)⟩
  ·rw [upD_ne e] at hy
   exact (h.at_ j y hy).kp hm.1 fun k hk hm => h.apart j i y x e hy hx k hk (.inl hm)
 ·by_cases e : j = i
  ·subst e
   rw [upD_at] at hy
   cases hy
   rcases hfp k hk with hk | hk
   ·exact h.out j x hx k hk
   ·exact fun hf => by have := h.book.lt k hf; omega
  ·rw [upD_ne e] at hy
   exact h.out j y hy k hk
 ·by_cases ea : a = i
  ·subst ea
   rw [upD_at] at hy
   rw [upD_ne (fun e => hab e.symm)] at hz
   cases hy
   rcases hfp k hk with hk | hk
   ·exact h.apart a b x z hab hx hz k hk
   ·exact fun hf => by have := (h.at_ b z hz).lt k hf; omega
  ·rw [upD_ne ea] at hy
   by_cases eb : b = i
   ·subst eb
    rw [upD_at] at hz
    cases hz
    intro hk2
    rcases hfp k hk2 with hk2 | hk2
    ·exact h.apart a b y x hab hy hx k hk hk2
    ·have := (h.at_ a y hy).lt k hk
     omega
   ·rw [upD_ne eb] at hz
    exact h.apart a b y z hab hy hz k hk
 ·by_cases e : j = i
  ·subst e
   rw [upD_at] at hy
   cases hy
   exact (hfp k hk).elim (h.lowD j x hx k) (fun h => by omega)
  ·rw [upD_ne e] at hy
   exact h.lowD j y hy k hk
theorem Inv.moveR {W0 : World} {g : Nat} {D : Pairs} {Φ : Nat → Prop} {w w' : World} {i : Nat} {x : PD} {t' : DS} {G' : List Nat} (h : Inv W0 g D Φ w) (hx : D i = some x) (hd : RefAt w' x.r t' G') (hm : Mv x.G G' w w') : Inv W0 g (upD D i (some { x with t := t', G := G' })) Φ w' := by
 have hn : ∀ k ∈ G', k ∈ x.G ∨ w.heap.size ≤ k := hm.2
 have hfp : ∀ k, PD.Fp { x with t := t', G := G' } k → x.Fp k ∨ w.heap.size ≤ k := fun k hk => hk.elim (fun hk => .inl (.inl hk)) (fun hk => (hn k hk).imp .inr id)
 have hz := h.low.size
 refine ⟨?_, fun j y hy => ?_, fun j y hy k hk => ?_, fun a b y z hab hy hz k hk => ?_, h.low.trans hm.1 fid (fun k hk hm => by have := h.lowD i x hx k (.inr hm); omega), h.lowB, fun j y hy k hk => ?_, h.tab.kp hm.1 (fun hm => by have := h.lowD i x hx _ (.inr hm); have := h.tabL; omega), h.tabL⟩
 ·rw [pcOf_same (y := { x with t := t', G := G' }) hx rfl rfl]
  exact h.book.kp book3_ok hm.1 fun k hk hm => h.out i x hx k (.inr hm) hk
 ·by_cases e : j = i
  ·subst e
   rw [upD_at] at hy
   cases hy
   have hq := h.at_ j x hx
   exact ⟨hq.p.kp hm.1 fun k hk hm => hq.apart k hk hm, hd, fun k hk hg => (hn k hg).elim (fun hg => hq.apart k hk hg) (fun h => by have := hq.p.lt k hk; omega)⟩
  ·rw [upD_ne e] at hy
   exact (h.at_ j y hy).kp hm.1 fun k hk hm => h.apart j i y x e hy hx k hk (.inr hm)
 ·by_cases e : j = i
  ·subst e
   rw [upD_at] at hy
   cases hy
   rcases hfp k hk with hk | hk
   ·exact h.out j x hx k hk
   ·exact fun hf => by have := h.book.lt k hf; omega
  ·rw [upD_ne e] at hy
   exact h.out j y hy k hk
 ·by_cases ea : a = i
  ·subst ea
   rw [upD_at] at hy
   rw [upD_ne (fun e => hab e.symm)] at hz
   cases hy
   rcases hfp k hk with hk | hk
   ·exact h.apart a b x z hab hx hz k hk
   ·exact fun hf => by have := (h.at_ b z hz).lt k hf; omega
  ·rw [upD_ne ea] at hy
   by_cases eb : b = i
   ·subst eb
    rw [upD_at] at hz
    cases hz
    intro hk2
    rcases hfp k hk2 with hk2 | hk2
    ·exact h.apart a b y x hab hy hx k hk hk2
    ·have := (h.at_ a y hy).lt k hk
     omega
   ·rw [upD_ne eb] at hz
    exact h.apart a b y z hab hy hz k hk
 ·by_cases e : j = i
  ·subst e
   rw [upD_at] at hy
   cases hy
   exact (hfp k hk).elim (h.lowD j x hx k) (fun h => by omega)
  ·rw [upD_ne e] at hy
   exact h.lowD j y hy k hk
theorem Inv.books {W0 : World} {g : Nat} {D : Pairs} {Φ Φ' S : Nat → Prop} {w w' : World} (h : Inv W0 g D Φ w) (hb : BX book3 (fun _ => 0) w' g (pcOf D) Φ') (hk : Kp (fun x => Φ x ∨ S x) w w') (hf : ∀ x, Φ' x → Φ x ∨ S x ∨ w.heap.size ≤ x) (hS : ∀ k, S k → W0.heap.size ≤ k) (hSD : ∀ i x, D i = some x → ∀ k, x.Fp k → ¬ S k) : Inv W0 g D Φ' w' := by
 have hz := h.low.size
 have hkd : ∀ i x, D i = some x → ∀ k, x.Fp k → ¬ (Φ k ∨ S k) := fun i x hx k hk he => he.elim (h.out i x hx k hk) (hSD i x hx k hk)
 exact ⟨hb, fun i x hx => (h.at_ i x hx).kp hk (hkd i x hx), fun i x hx k hk hf' => (hf k hf').elim (h.out i x hx k hk) (fun h' => h'.elim (hSD i x hx k hk) (fun h' => by have := (h.at_ i x hx).lt k hk; omega)), h.apart,
  h.low.trans hk fid (fun k hk he => he.elim (h.lowB k) (hS k)), fun k hk => (hf k hk).elim (h.lowB k) (fun h' => h'.elim (hS k) (fun h' => by omega)), h.lowD,
  h.tab.kp hk (fun he => he.elim h.tabΦ (fun hs => by have := hS _ hs; have := h.tabL; omega)), h.tabL⟩
theorem Inv.put {W0 : World} {g : Nat} {D : Pairs} {Φ : Nat → Prop} {w w' : World} {L : Option Addr} (h : Inv W0 g D Φ w) (hp : PutBX book3 (fun _ => 0) w g (pcOf D) Φ L w') (hS : ∀ k, Bk L k → W0.heap.size ≤ k) (hSD : ∀ i x, D i = some x → ∀ k, x.Fp k → ¬ Bk L k) :
  ∃ Φ', Inv W0 g D Φ' w' ∧ Kp (fun x => Φ x ∨ Bk L x) w w' ∧ ∀ x, Φ' x → Φ x ∨ Bk L x ∨ w.heap.size ≤ x := by
 obtain ⟨Φ', h1, h2, h3⟩ := hp
 exact ⟨Φ', h.books h1 h2 h3 hS hSD, h2, h3⟩
theorem Inv.reset {W0 : World} {g : Nat} {D : Pairs} {Φ : Nat → Prop} {w w' : World} {i : Nat} {y : Option PD} (h : Inv W0 g D Φ w) (hb : BX book3 (fun _ => 0) w' g (pcOf (upD D i y)) Φ) (hk : Kp (fun x => x = g) w w')
  (hy : ∀ x, y = some x → x.at_ w) (hyΦ : ∀ x, y = some x → ∀ k, x.Fp k → ¬ Φ k) (hyD : ∀ x, y = some x → ∀ j z, j ≠ i → D j = some z → ∀ k, x.Fp k → ¬ z.Fp k) (hyl : ∀ x, y = some x → ∀ k, x.Fp k → W0.heap.size ≤ k) : Inv W0 g (upD D i y) Φ w' := by
 have hg := h.book.g
 refine ⟨hb, fun j x hx => ?_, fun j x hx k hk => ?_, fun a b x z hab hx hz k hk => ?_, h.low.trans hk fid (fun k _ e => by subst e; exact h.gl), h.lowB, fun j x hx k hk => ?_, h.tab.kp hk (fun e => h.tabΦ (e ▸ hg)), h.tabL⟩
 ·by_cases e : j = i
  ·subst e
   rw [upD_at] at hx
   exact (hy x hx).kp hk fun k hk e => hyΦ x hx k hk (e ▸ hg)
  ·rw [upD_ne e] at hx
   exact (h.at_ j x hx).kp hk fun k hk e => h.out j x hx k hk (e ▸ hg)
 ·by_cases e : j = i
  ·subst e
   rw [upD_at] at hx
   exact hyΦ x hx k hk
  ·rw [upD_ne e] at hx
   exact h.out j x hx k hk
 ·by_cases ea : a = i
  ·subst ea
   rw [upD_at] at hx
   rw [upD_ne (fun e => hab e.symm)] at hz
   exact hyD x hx b z (fun e => hab e.symm) hz k hk
  ·rw [upD_ne ea] at hx
   by_cases eb : b = i
   ·subst eb
    rw [upD_at] at hz
    exact fun hk2 => hyD z hz a x hab hx k hk2 hk
   ·rw [upD_ne eb] at hz
    exact h.apart a b x z hab hx hz k hk
 ·by_cases e : j = i
  ·subst e
   rw [upD_at] at hx
   exact hyl x hx k hk
  ·rw [upD_ne e] at hx
   exact h.lowD j x hx k hk
theorem Inv.dpc {W0 : World} {g : Nat} {D : Pairs} {Φ : Nat → Prop} {w : World} (h : Inv W0 g D Φ w) {i : Nat} (hi : i < 3) : w.cell? ⟨g, i, none⟩ = some (dp D i) ∧ w.frozen? ⟨g, i, none⟩ = false := h.book.cell (pcOf_dp D hi)
theorem Inv.rpc {W0 : World} {g : Nat} {D : Pairs} {Φ : Nat → Prop} {w : World} (h : Inv W0 g D Φ w) {i : Nat} (hi : i < 3) : w.cell? ⟨g, 3 + i, none⟩ = some (rp D i) ∧ w.frozen? ⟨g, 3 + i, none⟩ = false := h.book.cell (pcOf_rp D hi)
theorem dp_some {D : Pairs} {i : Nat} {x : PD} (h : D i = some x) : dp D i = .pointer (some ⟨x.d, 0, none⟩) := by simp [dp, h]
theorem rp_some {D : Pairs} {i : Nat} {x : PD} (h : D i = some x) : rp D i = .pointer (some ⟨x.r, 0, none⟩) := by simp [rp, h]
theorem dp_none {D : Pairs} {i : Nat} (h : D i = none) : dp D i = .pointer none := by simp [dp, h]
theorem rp_none {D : Pairs} {i : Nat} (h : D i = none) : rp D i = .pointer none := by simp [rp, h]
def StepPost (W0 : World) (g : Nat) (e : Ending) (w' : World) : Prop := e = .returned (.bool true) ∧ ∃ D Φ, Inv W0 g D Φ w' ∧ Alike D
theorem Alike.up {D : Pairs} (h : Alike D) {i : Nat} {y : PD} (hy : y.s = y.t) : Alike (upD D i (some y)) := by
 intro j x hx
 by_cases e : j = i
 ·subst e
  rw [upD_at] at hx
  cases hx
  exact hy
 ·rw [upD_ne e] at hx
  exact h j x hx
theorem Alike.upN {D : Pairs} (h : Alike D) {i : Nat} : Alike (upD D i none) := by
 intro j x hx
 by_cases e : j = i
 ·subst e
  rw [upD_at] at hx
  cases hx
 ·rw [upD_ne e] at hx
  exact h j x hx
theorem upD_upD (D : Pairs) (i : Nat) (y z : Option PD) : upD (upD D i y) i z = upD D i z := by
 funext j
 unfold upD
 split <;> rfl
theorem Inv.both {W0 : World} {g : Nat} {D : Pairs} {Φ : Nat → Prop} {w w1 w2 : World} {i : Nat} {x : PD} {s' : DS} {F' G' : List Nat} (h : Inv W0 g D Φ w) (hA : Alike D) (hx : D i = some x) (hd : DiskAt w1 x.d s' F') (hm : Mv x.F F' w w1) (hr : RefAt w2 x.r s' G') (hn : Mv x.G G' w1 w2) :
  ∃ D' Φ', Inv W0 g D' Φ' w2 ∧ Alike D' := by
 have h1 := h.moveD hx hd hm
 have h2 := h1.moveR (i := i) (x := { x with s := s', F := F' }) (upD_at _ _ _) hr hn
 rw [upD_upD] at h2
 exact ⟨_, _, h2, hA.up rfl⟩
def RdT (w : World) (A : Option Addr) (l : List Nm) : Prop := RdC w A (l.map sv)
set_option maxRecDepth 100000 in
set_option maxHeartbeats 2000000 in
theorem lawTexts_calls (w : World) (A B : Option Addr) (n m c d : Nat) (l : List Nm) (h1 : RdT w A l) (h2 : RdT w B l) (hn : n = l.length) (hm : m = l.length) (hl : l.length ≤ 64) :
  Calls Tryz.prog 119 #[.slice A n c, .slice B m d] w fun e w' => e = .returned (.bool true) ∧ New w w' := by
 have hmo : Tryz.prog.follows Departure.mixedOrders = true := by kernel_rfl
 subst hn
 have H := Lib.hid (And.intro h1 (And.intro h2 hm))
 clear h1 h2
 subst hm
 go_enter Tryz.func119, Tryz.ntmps119
 go_wp2_with fail
 go_loopw [5] (fun i wr => ∃ k : Nat, k ≤ l.length ∧ i = .int .i64 (k : Int) ∧ Hid (New w wr)) (fun i _ => l.length - (intOf i).toNat)
 case atStart => exact ⟨0, Nat.zero_le _, rfl, Lib.hid (Kp.refl _ _)⟩
 case round =>
  obtain ⟨k, hk, rfl, HK⟩ := hrel
  have hk0 : (0 : Int) ≤ k := by omega
  by_cases hlt : k < l.length
  ·have hki : (k : Int) < (l.length : Int) := by omega
   have hne : l.map sv ≠ [] := by intro e; have := congrArg List.length e; simp at this; subst this; simp at hlt
   obtain ⟨b1, o1, rfl, c1⟩ := (H.out.1.new HK.out) hne
   obtain ⟨b2, o2, rfl, c2⟩ := (H.out.2.1.new HK.out) hne
   have hg : (l.map sv)[k]? = some (.string (bstr l[k])) := by rw [List.getElem?_map, List.getElem?_eq_getElem hlt]; rfl
   have e1 := c1 k _ hg
   have e2 := c2 k _ hg
   clear c1 c2 hg hne
   generalize l[k] = x at e1 e2
   have hb : ((bstr x).toList == (bstr x).toList) = true := by simp
   go_wp2_with fail
   refine wp_region_line (fun w' => w'.cell? ⟨b1, o1 + k, none⟩ = some (.string (bstr x)) ∧ w'.cell? ⟨b2, o2 + k, none⟩ = some (.string (bstr x))) (pl := [(0, true), (1, true), (2, true), (3, true), (4, true), (5, true), (6, true), (7, true), (8, true)]) hmo (by kernel_rfl) ⟨by simpa using e1, by simpa using e2⟩ ?_
   iterate 9 (refine line_get rfl rfl (fun K hK => ?_); apply Exists.intro; refine ⟨fun w s => ?_, ?_⟩; (first | (have q := s rfl; go_simp; with_reducible rfl) | (go_simp; with_reducible rfl)); (go_simp; refine hK _ ?_; clear hK K))
   refine line_nil ?_
   go_wp2_with fail
   exact ⟨⟨k + 1, by omega, by go_num, Lib.hid (HK.out.trans (Kp.drew _ _) fid fid)⟩, by simp [intOf]; omega⟩
  ·obtain rfl : k = l.length := by omega
   have hkd : decide (l.length < l.length) = false := by simp
   go_wp2_with fail
   go_ret
   exact ⟨rfl, HK.out⟩
def WrL (w : World) (A : Option Addr) (c : Nat) (xs : List BSl) : Prop :=
 Own w 55 1 A c xs.length (xs.map BSl.val) ∧ (∀ x ∈ xs, ∃ ds, Own w 5 1 x.A x.c x.l.length ds) ∧ ∀ k, Bk A k → k ∉ blks xs
theorem WrL.kp {w w' : World} {S : Nat → Prop} {A : Option Addr} {c : Nat} {xs : List BSl} (h : WrL w A c xs) (hk : Kp S w w') (hS : ∀ k, Bk A k ∨ k ∈ blks xs → ¬ S k) : WrL w' A c xs :=
 ⟨h.1.kp hk fun k hb => hS k (.inl hb), fun x hx => by obtain ⟨ds, hd⟩ := h.2.1 x hx; exact ⟨ds, hd.kp hk fun k hb => hS k (.inr (mem_blks.2 ⟨x, hx, hb⟩))⟩, h.2.2⟩
theorem OwnL.wr {w : World} {A : Option Addr} {c : Nat} {xs : List BSl} (h : OwnL w 55 5 A c xs) : WrL w A c xs :=
 ⟨h.1, fun x hx => ⟨_, h.2.1 x hx⟩, fun k hb hm => (List.nodup_append.1 h.2.2).2.2 k (mem_bks.2 hb) k hm rfl⟩
def OvSo (w : World) (A : Option Addr) (c : Nat) (xs : List BSl) (wr : World) : Prop := Kp (· ∈ blks xs) w wr ∧ WrL wr A c xs
theorem OvSo.one {w wr w' : World} {A : Option Addr} {c : Nat} {xs : List BSl} {x : BSl} {g : Nat} (h : OvSo w A c xs wr) (hx : x ∈ xs) (hg : x.A = some ⟨g, 0, none⟩) (m : Nat) (v : Value) (hw : w' = wr.setCell ⟨g, m, none⟩ v) : OvSo w A c xs w' := by
 subst hw
 have hgm : g ∈ blks xs := mem_blks.2 ⟨x, hx, hg ▸ Bk.some_.2 rfl⟩
 have hk : Kp (fun k => k = g) wr (wr.setCell ⟨g, m, none⟩ v) := Kp.setCell _ _ _ rfl
 refine ⟨h.1.trans hk fid (fun k _ e => e ▸ hgm), h.2.1.kp hk (fun k hb e => h.2.2.2 k hb (e ▸ hgm)), fun y hy => ?_, h.2.2.2⟩
 obtain ⟨ds, hd⟩ := h.2.2.1 y hy
 by_cases hb : Bk y.A g
 ·rcases hd.form with ⟨e, _⟩ | ⟨g', e⟩
  ·rw [e] at hb
   exact absurd hb Bk.none_
  ·rw [e] at hb hd ⊢
   obtain rfl : g' = g := Bk.some_.1 hb
   exact ⟨_, hd.set m v⟩
 ·exact ⟨ds, hd.kp hk fun k hk e => hb (e ▸ hk)⟩
set_option maxRecDepth 100000 in
set_option maxHeartbeats 4000000 in
theorem over_calls (w : World) (A R : Option Addr) (c cR nR : Nat) (xs : List BSl) (rs : List Value) (hL : WrL w A c xs) (hR : Own w 82 3 R cR nR rs) (hRL : ∀ k, Bk R k → k ∉ blks xs) :
  Calls Tryz.prog 99 #[.slice A xs.length c, .slice R nR cR] w fun e w' => e = .returned (.tuple #[]) ∧ Kp (fun k => k ∈ blks xs ∨ Bk R k) w w' := by
 have hx1 := hL.1.max
 have hr1 := hR.max
 simp only [maxLen] at hx1 hr1
 have H := Lib.hid (And.intro hL (And.intro hR hRL))
 clear hL hR hRL
 go_enter Tryz.func99, Tryz.ntmps99
 go_wp2_with fail
 go_loopw [4] (fun i wr => ∃ k : Nat, k ≤ xs.length ∧ i = .int .i64 (k : Int) ∧ Hid (OvSo w A c xs wr)) (fun i _ => xs.length - (intOf i).toNat)
 case atStart => exact ⟨0, Nat.zero_le _, rfl, Lib.hid ⟨Kp.refl _ _, H.out.1⟩⟩
 case round =>
  obtain ⟨k, hk, rfl, HK⟩ := hrel
  have hk0 : (0 : Int) ≤ k := by omega
  by_cases hlt : k < xs.length
  ·have hki : (k : Int) < (xs.length : Int) := by omega
   obtain ⟨x, hx⟩ : ∃ x, xs[k]? = some x := ⟨_, List.getElem?_eq_getElem hlt⟩
   obtain ⟨gA, rfl⟩ := HK.out.2.1.some_ (by omega)
   have hxm := List.mem_of_getElem? hx
   have hxl : x.l.length ≤ 9223372036854775807 := by
    obtain ⟨ds, hd⟩ := HK.out.2.2.1 x hxm
    have := hd.max
    simpa only [maxLen] using this
   have HXX := Lib.hid (And.intro hx hxm)
   clear hx hxm
   go_wp2_with fail
   obtain ⟨wo, rfl⟩ : ∃ wo : World, wo = wr := ⟨_, rfl⟩
   go_loopw [5] (fun i wr => ∃ m : Nat, m ≤ x.l.length ∧ i = .int .i64 (m : Int) ∧ Hid (OvSo w (some ⟨gA, 0, none⟩) c xs wr)) (fun i _ => x.l.length - (intOf i).toNat)
   case atStart => exact ⟨0, Nat.zero_le _, rfl, HK⟩
   case round =>
    obtain ⟨m, hm, rfl, HM⟩ := hrel
    have hm0 : (0 : Int) ≤ m := by omega
    have r1 : wr.cell? ⟨gA, k, none⟩ = some (.slice x.A x.l.length x.c) := HM.out.2.1.cell (by rw [List.getElem?_map, HXX.out.1]; rfl)
    by_cases hlm : m < x.l.length
    ·have hmi : (m : Int) < (x.l.length : Int) := by omega
     obtain ⟨ds, hd⟩ := HM.out.2.2.1 x HXX.out.2
     obtain ⟨gx, hgx⟩ := hd.some_ (by omega)
     rw [hgx] at hd r1
     obtain ⟨u, hu⟩ : ∃ u, ds[m]? = some u := ⟨_, List.getElem?_eq_getElem (by have := hd.1; omega)⟩
     have fg := hd.cell hu
     have fz := hd.frozen m
     have HG := Lib.hid hgx
     clear hd hgx hu
     go_wp2_with fail
     exact ⟨⟨m + 1, by omega, by go_num, Lib.hid (HM.out.one HXX.out.2 HG.out m _ rfl)⟩, by simp [intOf]; omega⟩
    ·obtain rfl : m = x.l.length := by omega
     have hkd : decide (x.l.length < x.l.length) = false := by simp
     go_wp2_with fail
     exact ⟨⟨k + 1, by omega, by go_num, HM⟩, by simp [intOf]; omega⟩
  ·obtain rfl : k = xs.length := by omega
   have hkd : decide (xs.length < xs.length) = false := by simp
   go_wp2_with fail
   obtain ⟨wo, rfl⟩ : ∃ wo : World, wo = wr := ⟨_, rfl⟩
   go_loopw [6] (fun i wr => ∃ m : Nat, m ≤ nR ∧ i = .int .i64 (m : Int) ∧ Hid (Kp (fun k => k ∈ blks xs ∨ Bk R k) w wr ∧ ∃ qs, Own wr 82 3 R cR nR qs)) (fun i _ => nR - (intOf i).toNat)
   case atStart => exact ⟨0, Nat.zero_le _, rfl, Lib.hid ⟨HK.out.1.mono fun _ _ h => .inl h, _, H.out.2.1.kp HK.out.1 fun k hb hm => H.out.2.2 k hb hm⟩⟩
   case round =>
    obtain ⟨m, hm, rfl, HM⟩ := hrel
    have hm0 : (0 : Int) ≤ m := by omega
    by_cases hlm : m < nR
    ·have hmi : (m : Int) < (nR : Int) := by omega
     obtain ⟨qs, hq⟩ := HM.out.2
     obtain ⟨gR, hgR⟩ := hq.some_ (by omega)
     subst hgR
     have hql := hq.1
     obtain ⟨u0, hu0⟩ : ∃ u, qs[m * 3]? = some u := ⟨_, List.getElem?_eq_getElem (by omega)⟩
     obtain ⟨u1, hu1⟩ : ∃ u, qs[m * 3 + 1]? = some u := ⟨_, List.getElem?_eq_getElem (by omega)⟩
     obtain ⟨u2, hu2⟩ : ∃ u, qs[m * 3 + 2]? = some u := ⟨_, List.getElem?_eq_getElem (by omega)⟩
     have f0 := hq.cell hu0
     have f1 := hq.cell hu1
     have f2 := hq.cell hu2
     have z0 := hq.frozen (m * 3)
     have z1 := hq.frozen (m * 3 + 1)
     have z2 := hq.frozen (m * 3 + 2)
     have HQ := Lib.hid hq
     clear hq hql hu0 hu1 hu2
     go_wp2_with fail
     refine ⟨⟨m + 1, by omega, by go_num, Lib.hid ⟨HM.out.1.trans (Kp.setAt (S := Bk (some ⟨gR, 0, none⟩)) (Bk.some_.2 rfl) [_, _, _] (w := wr) (o := m * 3)) fid (fun _ _ h => .inr h), _, Own.setAt [_, _, _] (o := m * 3) HQ.out⟩⟩, by simp [intOf]; omega⟩
    ·obtain rfl : m = nR := by omega
     have hkd2 : decide (m < m) = false := by simp
     go_wp2_with fail
     go_end0
     exact ⟨rfl, HM.out.1⟩
end Go.Proofs.YtekcoeonlfmebaaGreatDoor.Kit
