/- 6 texts in one: A disk by definition: what holds of it goes on holding. No program in sight.; disk.From: which states can be a disk's.; disk.good: can a file have that name?; Maps keyed by strings, as lists of pairs: looked up in, written, deleted from, walked over in whatever order.; A disk in memory: its block, the map of its files, each file's block, its bytes; all its own.; Slices of notes or files, all of a call's own: one is changed in its place. -/
import Derived.Test.YtekcoeonlfmebaaGreatDoorM12
import Derived.Sort.Walk0
import Derived.Test.YtekcoeonlfmebaaGreatDoorProg
import Derived.Test.YtekcoeonlfmebaaGreatDoorM3
import Derived.MapKept
import Derived.Maps.RangeRun
import Derived.Test.YtekcoeonlfmebaaGreatDoorM0
import Derived.Test.YtekcoeonlfmebaaGreatDoorM1
namespace Go.Proofs.YtekcoeonlfmebaaGreatDoor.Kit
theorem nm_lt_trans {a b c : Nm} (h : a < b) (k : b < c) : a < c := List.lt_trans h k
theorem nm_irrefl (a : Nm) : ¬ a < a := List.lt_irrefl a
theorem nm_tri {a b : Nm} (h : ¬ a < b) (hne : a ≠ b) : b < a := by
 have h1 : b ≤ a := List.not_lt.1 h
 apply Classical.byContradiction
 intro h2
 exact hne (List.le_antisymm (List.not_lt.1 h2) h1)
theorem nm_ne {a b : Nm} (h : a < b) : a ≠ b := fun e => nm_irrefl b (e ▸ h)
theorem ins_perm (f : Fl) : ∀ l, (ins f l).Perm (f :: l)
 | [] => List.Perm.refl _
 | g :: l => by
  unfold ins
  split
  ·exact List.Perm.refl _
  ·exact ((ins_perm f l).cons g).trans (List.Perm.swap f g l)
abbrev Rise (l : List Fl) : Prop := (l.map (·.name)).Pairwise (· < ·)
theorem Rise.cons {g : Fl} {l : List Fl} : Rise (g :: l) ↔ (∀ f ∈ l, g.name < f.name) ∧ Rise l := by
 unfold Rise
 rw [List.map_cons, List.pairwise_cons]
 simp
theorem Rise.ins {f : Fl} : ∀ {l : List Fl}, Rise l → (∀ g ∈ l, g.name ≠ f.name) → Rise (ins f l)
 | [], _, _ => by simp [Kit.ins, Rise]
 | g :: l, h, hn => by
  obtain ⟨h1, h2⟩ := Rise.cons.1 h
  unfold Kit.ins
  split
  ·rename_i hlt
   refine Rise.cons.2 ⟨fun x hx => ?_, h⟩
   rcases List.mem_cons.1 hx with rfl | hx
   ·exact hlt
   ·exact nm_lt_trans hlt (h1 x hx)
  ·rename_i hlt
   refine Rise.cons.2 ⟨fun x hx => ?_, Rise.ins h2 fun x hx => hn x (List.mem_cons_of_mem _ hx)⟩
   rcases List.mem_cons.1 ((ins_perm f l).mem_iff.1 hx) with rfl | hx
   ·exact nm_tri hlt (fun e => hn g List.mem_cons_self e.symm)
   ·exact h1 x hx
theorem Rise.sub {l m : List Fl} (h : Rise l) (hs : m.Sublist l) : Rise m := List.Pairwise.sublist (hs.map _) h
theorem Rise.nodup {l : List Fl} (h : Rise l) : (l.map (·.name)).Nodup := h.imp nm_ne
theorem Rise.out {l : List Fl} (h : Rise l) (n : Nm) : Rise (outF n l) := h.sub List.filter_sublist
theorem updF_names {n : Nm} {h : Fl → Fl} (hh : ∀ f, (h f).name = f.name) (l : List Fl) : (updF n h l).map (·.name) = l.map (·.name) := by
 unfold updF
 rw [List.map_map]
 refine List.map_congr_left fun f _ => ?_
 simp only [Function.comp]
 split
 ·exact hh f
 ·rfl
theorem used_perm {l m : List Fl} (h : l.Perm m) : usedF l = usedF m := (h.map _).sum_nat
theorem used_cons (f : Fl) (l : List Fl) : usedF (f :: l) = f.data.length + usedF l := by simp [usedF]
theorem used_app (l m : List Fl) : usedF (l ++ m) = usedF l + usedF m := by simp [usedF]
theorem used_ins (f : Fl) (l : List Fl) : usedF (ins f l) = f.data.length + usedF l := by rw [used_perm (ins_perm f l), used_cons]
theorem cut_at {l : List Fl} {n : Nm} {f : Fl} (h : l.find? (fun f => f.name == n) = some f) (hr : (l.map (·.name)).Nodup) : f.name = n ∧ ∃ l1 l2, l = l1 ++ f :: l2 ∧ ∀ g ∈ l1 ++ l2, g.name ≠ n := by
 have hn : f.name = n := by simpa using List.find?_some h
 refine ⟨hn, ?_⟩
 obtain ⟨l1, l2, rfl⟩ := List.append_of_mem (List.mem_of_find?_eq_some h)
 refine ⟨l1, l2, rfl, fun g hg e => ?_⟩
 rw [List.map_append, List.map_cons, List.nodup_append] at hr
 rcases List.mem_append.1 hg with hg | hg
 ·exact hr.2.2 g.name (List.mem_map.2 ⟨g, hg, rfl⟩) f.name List.mem_cons_self (e.trans hn.symm)
 ·exact (List.nodup_cons.1 hr.2.1).1 (List.mem_map.2 ⟨g, hg, e.trans hn.symm⟩)
theorem updF_cut {n : Nm} {h : Fl → Fl} {l1 l2 : List Fl} {f : Fl} (hn : f.name = n) (hne : ∀ g ∈ l1 ++ l2, g.name ≠ n) : updF n h (l1 ++ f :: l2) = l1 ++ h f :: l2 := by
 have hid : ∀ {l : List Fl}, (∀ g ∈ l, g.name ≠ n) → updF n h l = l := fun {l} hl => by
  unfold updF
  refine (List.map_congr_left (g := id) fun g hg => ?_).trans (List.map_id l)
  rw [if_neg (hl g hg)]
  rfl
 unfold updF at *
 rw [List.map_append, List.map_cons, if_pos hn, hid fun g hg => hne g (List.mem_append_left _ hg), hid fun g hg => hne g (List.mem_append_right _ hg)]
theorem outF_cut {n : Nm} {l1 l2 : List Fl} {f : Fl} (hn : f.name = n) (hne : ∀ g ∈ l1 ++ l2, g.name ≠ n) : outF n (l1 ++ f :: l2) = l1 ++ l2 := by
 have hid : ∀ {l : List Fl}, (∀ g ∈ l, g.name ≠ n) → outF n l = l := fun {l} hl => List.filter_eq_self.2 fun g hg => by simpa using hl g hg
 unfold outF at *
 rw [List.filter_append, List.filter_cons_of_neg (by simp [hn]), hid fun g hg => hne g (List.mem_append_left _ hg), hid fun g hg => hne g (List.mem_append_right _ hg)]
theorem outF_none {n : Nm} {l : List Fl} (h : l.find? (fun f => f.name == n) = none) : outF n l = l := List.filter_eq_self.2 fun g hg => by
 have := List.find?_eq_none.1 h g hg
 simpa using this
theorem mem_updF {n : Nm} {h : Fl → Fl} {l : List Fl} {g : Fl} (hg : g ∈ updF n h l) : (g ∈ l ∧ g.name ≠ n) ∨ ∃ f ∈ l, f.name = n ∧ g = h f := by
 obtain ⟨f, hf, rfl⟩ := List.mem_map.1 hg
 split
 ·rename_i e
  exact .inr ⟨f, hf, e, rfl⟩
 ·rename_i e
  exact .inl ⟨hf, e⟩
theorem DS.Ok.create {s : DS} (h : s.Ok) (n : Nm) (hg : goodN n = true) (hf : s.find n = none) (hl : s.files.length < 64) : DS.Ok { s with files := ins ⟨n, [], 0⟩ s.files } := by
 have hmem : ∀ {g}, g ∈ ins ⟨n, [], 0⟩ s.files → g = ⟨n, [], 0⟩ ∨ g ∈ s.files := fun hg => List.mem_cons.1 ((ins_perm _ _).mem_iff.1 hg)
 refine ⟨h.cap, ?_, ?_, Rise.ins h.rise fun g hg => ?_, fun g hg' => ?_, fun g hg' => ?_, h.fuse, h.fell⟩
 ·have := h.used
  show usedF (ins _ _) ≤ s.cap
  rw [used_ins]
  simpa [DS.used] using this
 ·show (ins _ _).length ≤ 64
  rw [(ins_perm _ _).length_eq]
  simp only [List.length_cons]
  omega
 ·have := List.find?_eq_none.1 hf g hg
  simpa using this
 ·rcases hmem hg' with rfl | hm
  ·exact hg
  ·exact h.good g hm
 ·rcases hmem hg' with rfl | hm
  ·simp
  ·exact h.syn g hm
theorem DS.find_cut {s : DS} (h : s.Ok) {n : Nm} {f : Fl} (hf : s.find n = some f) : f.name = n ∧ ∃ l1 l2, s.files = l1 ++ f :: l2 ∧ ∀ g ∈ l1 ++ l2, g.name ≠ n := cut_at hf (Rise.nodup h.rise)
theorem DS.Ok.upd {s : DS} (h : s.Ok) (n : Nm) {f : Fl} (hf : s.find n = some f) (u : Fl → Fl) (hn : ∀ f, (u f).name = f.name) (hs : (u f).syn ≤ (u f).data.length) (hu : usedF (updF n u s.files) ≤ s.cap) : DS.Ok { s with files := updF n u s.files } := by
 obtain ⟨hfn, l1, l2, hl, hne⟩ := DS.find_cut h hf
 have e : updF n u s.files = l1 ++ u f :: l2 := by rw [hl, updF_cut hfn hne]
 refine ⟨h.cap, hu, ?_, ?_, fun g hg => ?_, fun g hg => ?_, h.fuse, h.fell⟩
 ·show (updF n u s.files).length ≤ 64
  rw [e]
  have := h.few
  rw [hl] at this
  simpa using this
 ·show Rise (updF n u s.files)
  unfold Rise
  rw [updF_names hn]
  exact h.rise
 ·rcases mem_updF hg with ⟨hm, _⟩ | ⟨f', hm, _, rfl⟩
  ·exact h.good g hm
  ·rw [hn]
   exact h.good f' hm
 ·have hg' : g ∈ l1 ++ u f :: l2 := e ▸ hg
  have hin : g ∈ l1 ++ l2 ∨ g = u f := by
   rcases List.mem_append.1 hg' with h1 | h1
   ·exact .inl (List.mem_append_left _ h1)
   ·rcases List.mem_cons.1 h1 with h1 | h1
    ·exact .inr h1
    ·exact .inl (List.mem_append_right _ h1)
  rcases hin with h1 | rfl
  ·exact h.syn g (by rw [hl]; rcases List.mem_append.1 h1 with h1 | h1 <;> simp [h1])
  ·exact hs
theorem used_upd {s : DS} (h : s.Ok) {n : Nm} {f : Fl} (hf : s.find n = some f) (u : Fl → Fl) : usedF (updF n u s.files) + f.data.length = s.used + (u f).data.length := by
 obtain ⟨hfn, l1, l2, hl, hne⟩ := DS.find_cut h hf
 have e : updF n u s.files = l1 ++ u f :: l2 := by rw [hl, updF_cut hfn hne]
 have hs : s.used = usedF (l1 ++ f :: l2) := by unfold DS.used; rw [hl]
 rw [e, hs, used_app, used_cons, used_app, used_cons]
 omega
theorem used_out {s : DS} (h : s.Ok) {n : Nm} {f : Fl} (hf : s.find n = some f) : usedF (outF n s.files) + f.data.length = s.used := by
 obtain ⟨hfn, l1, l2, hl, hne⟩ := DS.find_cut h hf
 have hs : s.used = usedF (l1 ++ f :: l2) := by unfold DS.used; rw [hl]
 rw [hs, hl, outF_cut hfn hne, used_app, used_app, used_cons]
 omega
theorem used_at' {s : DS} (h : s.Ok) {n : Nm} {f : Fl} (hf : s.find n = some f) : f.data.length ≤ s.used := by
 have := used_out h hf
 omega
theorem DS.Ok.out {s : DS} (h : s.Ok) (n : Nm) : DS.Ok { s with files := outF n s.files } := by
 have hsub : (outF n s.files).Sublist s.files := List.filter_sublist
 have hu : usedF (outF n s.files) ≤ s.used := by
  cases hf : s.find n with
  | none => unfold DS.used; rw [outF_none hf]; exact Nat.le_refl _
  | some f => have := used_out h hf; omega
 exact ⟨h.cap, Nat.le_trans hu h.used, Nat.le_trans hsub.length_le h.few, Rise.out h.rise n, fun g hg => h.good g (hsub.subset hg), fun g hg => h.syn g (hsub.subset hg), h.fuse, h.fell⟩
theorem find_none_out {l : List Fl} (n : Nm) : (outF n l).find? (fun f => f.name == n) = none := by
 rw [List.find?_eq_none]
 intro g hg
 have := (List.mem_filter.1 hg).2
 simpa using this
theorem DS.Ok.moved {s : DS} (h : s.Ok) (a b : Nm) (hg : goodN b = true) : DS.Ok { s with files := moved a b s.files } := by
 unfold Kit.moved
 split
 ·exact h
 ·split
  ·rename_i f hf
   have hf' : s.find a = some f := hf
   have h1 := h.out a
   have h2 := h1.out b
   have hfm := List.mem_of_find?_eq_some hf
   have ho : outF b (outF a s.files) = outF b (outF a s.files) := rfl
   have hmem : ∀ {g}, g ∈ ins { f with name := b } (outF b (outF a s.files)) → g = { f with name := b } ∨ g ∈ outF b (outF a s.files) := fun hg => List.mem_cons.1 ((ins_perm _ _).mem_iff.1 hg)
   have hlen : (outF a s.files).length < s.files.length := by
    obtain ⟨hfn, l1, l2, hl, hne⟩ := DS.find_cut h hf'
    rw [hl, outF_cut hfn hne]
    simp
   refine ⟨h.cap, ?_, ?_, Rise.ins h2.rise fun g hg => ?_, fun g hg' => ?_, fun g hg' => ?_, h.fuse, h.fell⟩
   ·show usedF (ins _ _) ≤ s.cap
    rw [used_ins]
    have e1 := used_out h hf'
    have e2 : usedF (outF b (outF a s.files)) ≤ usedF (outF a s.files) := by
     cases hfb : (outF a s.files).find? (fun f => f.name == b) with
     | none => rw [outF_none hfb]; exact Nat.le_refl _
     | some g => have := used_out h1 (n := b) (f := g) hfb; show usedF (outF b (outF a s.files)) ≤ _; have e3 : DS.used { s with files := outF a s.files } = usedF (outF a s.files) := rfl; rw [e3] at this; have e4 : usedF (outF b ({ s with files := outF a s.files } : DS).files) = usedF (outF b (outF a s.files)) := rfl; rw [e4] at this; omega
    have := h.used
    show f.data.length + _ ≤ _
    omega
   ·show (ins _ _).length ≤ 64
    rw [(ins_perm _ _).length_eq, List.length_cons]
    have : (outF b (outF a s.files)).length ≤ (outF a s.files).length := List.length_filter_le _ _
    have := h.few
    omega
   ·have := List.find?_eq_none.1 (find_none_out (l := outF a s.files) b) g hg
    simpa using this
   ·rcases hmem hg' with rfl | hm
    ·exact hg
    ·exact h2.good g hm
   ·rcases hmem hg' with rfl | hm
    ·exact h.syn f hfm
    ·exact h2.syn g hm
  ·exact h
end Go.Proofs.YtekcoeonlfmebaaGreatDoor.Kit
namespace Go.Proofs.YtekcoeonlfmebaaGreatDoor.Kit
open Go Go.RowKit
structure FI where
 name : Nm
 data : List UInt8
 syn : Int
 A : Option Addr
 c : Nat
def FI.fl (y : FI) : Fl := ⟨y.name, y.data, y.syn.toNat⟩
def FI.cells (y : FI) : List Value := [.string (bstr y.name), .slice y.A y.data.length y.c, .int .i64 y.syn]
def FV.fi (y : FV) : FI := ⟨y.f.name, y.f.data, y.f.syn, y.A, y.c⟩
theorem FV.fi_fl (y : FV) : y.fi.fl = y.f := by simp [FV.fi, FI.fl]
theorem FV.fi_cells (y : FV) : y.fi.cells = y.cells := rfl
theorem FI.flat_get (ys : List FI) : ∀ (i j : Nat) (y : FI), ys[i]? = some y → j < 3 → (ys.flatMap FI.cells)[i * 3 + j]? = y.cells[j]? := by
 induction ys with
 | nil => intro i j y h; simp at h
 | cons q ys ih =>
  intro i j y h hj
  rw [List.flatMap_cons]
  cases i with
  | zero =>
   simp only [List.getElem?_cons_zero, Option.some.injEq] at h
   subst h
   rw [Nat.zero_mul, Nat.zero_add, List.getElem?_append_left (by simpa [FI.cells] using hj)]
  | succ i =>
   rw [List.getElem?_cons_succ] at h
   rw [List.getElem?_append_right (by simp [FI.cells]; omega), ← ih i j y h hj]
   congr 1
   simp [FI.cells]
   omega
def RdI (w : World) (A : Option Addr) (ys : List FI) : Prop :=
 (ys ≠ [] → ∃ b off, A = some ⟨b, off, none⟩ ∧ ∀ (j : Nat) (u : Value), (ys.flatMap FI.cells)[j]? = some u → w.cell? ⟨b, off + j, none⟩ = some u) ∧ ∀ y ∈ ys, RdB w y.A y.data
theorem RdF.toI {w : World} {A : Option Addr} {ys : List FV} (h : RdF w A ys) : RdI w A (ys.map FV.fi) := by
 refine ⟨fun hne => ?_, fun y hy => ?_⟩
 ·obtain ⟨b, off, rfl, hc⟩ := h.1 (fun e => hne (by rw [e]; rfl))
  refine ⟨b, off, rfl, fun j u hu => hc j u ?_⟩
  rw [List.flatMap_map] at hu
  exact hu
 ·obtain ⟨z, hz, rfl⟩ := List.mem_map.1 hy
  exact h.2 z hz
def RdI.In (A : Option Addr) (ys : List FI) (k : Nat) : Prop := Bk A k ∨ ∃ y ∈ ys, Bk y.A k
theorem RdI.kp {w w' : World} {S : Nat → Prop} {A : Option Addr} {ys : List FI} (h : RdI w A ys) (hk : Kp S w w') (hS : ∀ k, RdI.In A ys k → ¬ S k) : RdI w' A ys := by
 refine ⟨fun hne => ?_, fun y hy => (h.2 y hy).kp hk fun k hb => hS k (.inr ⟨y, hy, hb⟩)⟩
 obtain ⟨b, off, rfl, hc⟩ := h.1 hne
 exact ⟨b, off, rfl, fun j u hu => hk.cell_of (hc j u hu) (hS b (.inl (Bk.some_.2 rfl)))⟩
theorem RdI.new {w w' : World} {A : Option Addr} {ys : List FI} (h : RdI w A ys) (hk : New w w') : RdI w' A ys := h.kp hk fun _ _ => id
theorem RdI.at_ {w : World} {A : Option Addr} {ys : List FI} (h : RdI w A ys) {i : Nat} {y : FI} (hy : ys[i]? = some y) : ∃ b off, A = some ⟨b, off, none⟩ ∧ w.cell? ⟨b, off + i * 3, none⟩ = some (.string (bstr y.name)) ∧
  w.cell? ⟨b, off + i * 3 + 1, none⟩ = some (.slice y.A y.data.length y.c) ∧ w.cell? ⟨b, off + i * 3 + 2, none⟩ = some (.int .i64 y.syn) := by
 obtain ⟨b, off, rfl, hc⟩ := h.1 (by intro e; subst e; simp at hy)
 refine ⟨b, off, rfl, ?_, ?_, ?_⟩
 ·exact hc (i * 3) _ (by have := FI.flat_get ys i 0 _ hy (by omega); simpa [FI.cells] using this)
 ·rw [Nat.add_assoc]
  exact hc (i * 3 + 1) _ (by have := FI.flat_get ys i 1 _ hy (by omega); simpa [FI.cells] using this)
 ·rw [Nat.add_assoc]
  exact hc (i * 3 + 2) _ (by have := FI.flat_get ys i 2 _ hy (by omega); simpa [FI.cells] using this)
def VPre (cap : Nat) (ys : List FI) : Prop := (DS.mk cap (ys.map FI.fl) (-1) false).Ok ∧ ∀ y ∈ ys, 0 ≤ y.syn
theorem VPre.pre {cap : Nat} {ys : List FI} (h : VPre cap ys) (k : Nat) : VPre cap (ys.take k) := by
 obtain ⟨h1, h2⟩ := h
 have hs : ((ys.take k).map FI.fl).Sublist (ys.map FI.fl) := (List.take_sublist k ys).map _
 refine ⟨⟨h1.cap, ?_, Nat.le_trans hs.length_le h1.few, Rise.sub h1.rise hs, fun f hf => h1.good f (hs.subset hf), fun f hf => h1.syn f (hs.subset hf), h1.fuse, h1.fell⟩, fun y hy => h2 y ((List.take_sublist k ys).subset hy)⟩
 have e : usedF (ys.map FI.fl) = usedF ((ys.take k).map FI.fl) + usedF ((ys.drop k).map FI.fl) := by
  rw [← used_app, ← List.map_append, List.take_append_drop]
 have := h1.used
 unfold DS.used at *
 simp only at *
 omega
theorem usedI_snoc (l : List FI) (y : FI) : usedF ((l ++ [y]).map FI.fl) = usedF (l.map FI.fl) + y.data.length := by
 rw [List.map_append, used_app]
 simp [usedF, FI.fl]
theorem VPre.snoc {cap : Nat} {l : List FI} {y : FI} (h : VPre cap l) (hl : l.length < 64) (hg : goodN y.name = true) (ho : ∀ p, l.getLast? = some p → p.name < y.name) (h0 : 0 ≤ y.syn) (h1 : y.syn ≤ y.data.length) (hu : usedF (l.map FI.fl) + y.data.length ≤ cap) : VPre cap (l ++ [y]) := by
 obtain ⟨q1, q2⟩ := h
 have hrise : Rise ((l ++ [y]).map FI.fl) := by
  unfold Rise
  rw [List.map_append, List.map_append, List.pairwise_append]
  refine ⟨q1.rise, by simp, fun a ha b hb => ?_⟩
  simp only [List.map_cons, List.map_nil, List.mem_singleton] at hb
  subst hb
  show a < y.name
  rcases List.eq_nil_or_concat l with rfl | ⟨m, p, hm⟩
  ·simp at ha
  ·rw [List.concat_eq_append] at hm
   subst hm
   have hp := ho p (by simp)
   have hr := q1.rise
   simp only [List.map_append, List.map_cons, List.map_nil, List.pairwise_append, List.mem_append, List.mem_singleton] at hr ha
   rcases ha with ha | ha
   ·exact nm_lt_trans (hr.2.2 a ha _ rfl) hp
   ·rw [ha]
    exact hp
 have hmem : ∀ f ∈ (l ++ [y]).map FI.fl, f ∈ l.map FI.fl ∨ f = y.fl := fun f hf => by simpa using hf
 refine ⟨⟨q1.cap, ?_, by simp; omega, hrise, fun f hf => ?_, fun f hf => ?_, q1.fuse, q1.fell⟩, fun z hz => ?_⟩
 ·unfold DS.used
  simp only
  rw [usedI_snoc]
  exact hu
 ·rcases hmem f hf with h | rfl
  ·exact q1.good f h
  ·exact hg
 ·rcases hmem f hf with h | rfl
  ·exact q1.syn f h
  ·simp only [FI.fl]
   omega
 ·rcases List.mem_append.1 hz with h | h
  ·exact q2 z h
  ·obtain rfl := List.mem_singleton.1 h
   exact h0
theorem VPre.last {cap : Nat} {l : List FI} {y : FI} (h : VPre cap (l ++ [y])) : goodN y.name = true ∧ (∀ p, l.getLast? = some p → p.name < y.name) ∧ 0 ≤ y.syn ∧ y.syn ≤ y.data.length ∧ usedF (l.map FI.fl) + y.data.length ≤ cap := by
 obtain ⟨q1, q2⟩ := h
 have hy0 := q2 y (by simp)
 have hs := q1.syn y.fl (by simp)
 have hu := q1.used
 unfold DS.used at hu
 simp only at hu
 rw [usedI_snoc] at hu
 refine ⟨q1.good y.fl (by simp), fun p hp => ?_, hy0, ?_, hu⟩
 ·have hr := q1.rise
  simp only [List.map_append, List.map_cons, List.map_nil, List.pairwise_append] at hr
  exact hr.2.2 p.fl.name (by simp only [List.map_map, List.mem_map]; exact ⟨p, List.mem_of_getLast? hp, rfl⟩) y.fl.name (by simp)
 ·simp only [FI.fl] at hs
  omega
def FromOk (cap fuse : Int) (down : Bool) (ys : List FI) : Prop := 0 ≤ cap ∧ cap ≤ 1048576 ∧ ys.length ≤ 64 ∧ -1 ≤ fuse ∧ fuse ≤ 1048576 ∧ (down = true → fuse = -1) ∧ VPre cap.toNat ys
theorem less_bstr (a b : Nm) : Op.bytesLess (bstr a).toList (bstr b).toList = decide (a < b) := by
 rw [Lib.toList_data, Lib.toList_data, bstr_toList, bstr_toList]
 exact bytesLess_eq a b
theorem nameByte_iff (x : UInt8) : nameByte x = true ↔ (97 ≤ (x.toNat : Int) ∧ (x.toNat : Int) ≤ 122) ∨ (48 ≤ (x.toNat : Int) ∧ (x.toNat : Int) ≤ 57) ∨ (x.toNat : Int) = 46 ∨ (x.toNat : Int) = 45 ∨ (x.toNat : Int) = 95 := by
 unfold nameByte
 simp only [Bool.or_eq_true, Bool.and_eq_true, decide_eq_true_eq, beq_iff_eq, UInt8.le_iff_toNat_le, ← UInt8.toNat_inj]
 simp only [show (97 : UInt8).toNat = 97 from rfl, show (122 : UInt8).toNat = 122 from rfl, show (48 : UInt8).toNat = 48 from rfl, show (57 : UInt8).toNat = 57 from rfl, show (46 : UInt8).toNat = 46 from rfl, show (45 : UInt8).toNat = 45 from rfl, show (95 : UInt8).toNat = 95 from rfl]
 omega
theorem all_step {s : List UInt8} {k : Nat} (hk : k < s.length) (h : (s.take k).all nameByte = true) (hx : nameByte s[k] = true) : (s.take (k + 1)).all nameByte = true := by
 rw [List.take_succ_eq_append_getElem hk, List.all_append, h, Bool.true_and, List.all_cons, hx]
 rfl
theorem all_stop {s : List UInt8} {k : Nat} (hk : k < s.length) (hx : ¬ nameByte s[k] = true) : s.all nameByte = false := by
 rw [List.all_eq_false]
 exact ⟨s[k], List.getElem_mem hk, hx⟩
set_option maxRecDepth 100000 in
set_option maxHeartbeats 1000000 in
theorem good_calls (w : World) (s : List UInt8) (hs : s.length ≤ 9223372036854775807) :
  Calls Tryz.prog 147 #[.string (bstr s)] w fun e w' => e = .returned (.bool (goodN s)) ∧ New w w' := by
 have hz : (bstr s).size = s.length := rfl
 by_cases h0 : 0 < s.length ∧ s.length ≤ 40
 ·obtain ⟨h1, h2⟩ := h0
  have hd : (bstr s).toList.isEmpty = false := by
   rw [Lib.toList_data, bstr_toList]
   cases s with
   | nil => simp at h1
   | cons c s => rfl
  have h3 : ¬ 40 < s.length := by omega
  have h3i : decide ((40 : Int) < (s.length : Int)) = false := decide_eq_false (by omega)
  obtain ⟨c, w1, hr, hrd, hn, hz1, hc⟩ := run_bytes_of (P := Tryz.prog) w (src := 9) (dst := 55) (e := 5) Tryz.underlying9 Tryz.underlying55 Tryz.underlying5 s
  have HR := Lib.hid (And.intro hrd hn)
  clear hrd hn hz1 hc
  have hkey : goodN s = s.all nameByte := by unfold goodN; rw [decide_eq_true ⟨h1, h2⟩, Bool.true_and]
  rw [hkey]
  clear hkey
  go_enter Tryz.func147, Tryz.ntmps147
  go_wp2
  go_loopw [15] (fun i wr => ∃ k : Nat, k ≤ s.length ∧ i = .int .i64 (k : Int) ∧ wr = w1 ∧ Hid ((s.take k).all nameByte = true)) (fun i _ => s.length - (intOf i).toNat)
  case atStart => exact ⟨0, Nat.zero_le _, rfl, rfl, Lib.hid (by simp)⟩
  case round =>
   obtain ⟨k, hk, rfl, rfl, HI⟩ := hrel
   by_cases hlt : k < s.length
   ·obtain ⟨b1, o1, he, hc1⟩ := HR.out.1.at_ hlt
    cases he
    have e1 := hc1 k hlt
    rw [Nat.zero_add] at e1
    clear hc1
    have HX := Lib.hid (And.intro (fun hx => all_step hlt HI.out hx) (fun hx => all_stop hlt hx))
    generalize s[k] = x at e1 HX
    have hxl := x.toNat_lt
    have hki : (k : Int) < (s.length : Int) := by omega
    go_wp2
    all_goals (try simp only [beq_iff_eq, beq_eq_false_iff_ne, ne_eq] at *)
    all_goals first
     | exact ⟨⟨k + 1, by omega, by go_num, trivial, Lib.hid (HX.out.1 ((nameByte_iff x).2 (by omega)))⟩, by simp [intOf]; omega⟩
     | (go_ret; exact ⟨by rw [HX.out.2 (fun h => by have := (nameByte_iff x).1 h; omega)]; rfl, HR.out.2⟩)
   ·obtain rfl : k = s.length := by omega
    go_wp2
    go_ret
    exact ⟨by have h := HI.out; rw [List.take_length] at h; rw [h]; rfl, HR.out.2⟩
 ·have hkey : goodN s = false := by unfold goodN; rw [decide_eq_false h0, Bool.false_and]
  rw [hkey]
  clear hkey
  by_cases h1 : 0 < s.length
  ·have hd : (bstr s).toList.isEmpty = false := by
    rw [Lib.toList_data, bstr_toList]
    cases s with
    | nil => simp at h1
    | cons c s => rfl
   have h3 : 40 < s.length := by omega
   have h3i : decide ((40 : Int) < (s.length : Int)) = true := decide_eq_true (by omega)
   clear h0
   go_enter Tryz.func147, Tryz.ntmps147
   go_wp2
   go_ret
   exact ⟨rfl, Kp.refl _ _⟩
  ·have h3 : s = [] := List.eq_nil_of_length_eq_zero (by omega)
   subst h3
   clear h0 h1 hz hs
   have hd : (bstr []).toList.isEmpty = true := by rw [Lib.toList_data, bstr_toList]; rfl
   go_enter Tryz.func147, Tryz.ntmps147
   go_wp2
   go_ret
   exact ⟨rfl, Kp.refl _ _⟩
end Go.Proofs.YtekcoeonlfmebaaGreatDoor.Kit
namespace Go.Proofs.YtekcoeonlfmebaaGreatDoor.Kit
open Go Go.RowKit Go.MapKept
open Go.ChangeMaps (setBlock)
abbrev sv (k : List UInt8) : Value := .string (bstr k)
theorem sv_inj {k l : List UInt8} : sv k = sv l ↔ k = l := by
 constructor
 ·intro h
  exact bstr_inj.1 (Value.string.inj h)
 ·rintro rfl; rfl
def EsAre (es : Array MapEntry) (clock : Nat) (l : List (List UInt8 × Value)) : Prop :=
 es.toList.map (fun e => (e.key, e.val)) = l.map (fun x => (sv x.1, x.2)) ∧ (∀ e ∈ es.toList, e.born < clock) ∧ (es.toList.map (·.born)).Nodup ∧ (l.map (·.1)).Nodup
def SMap (w : World) (b : Nat) (l : List (List UInt8 × Value)) : Prop := ∃ es clock, w.heap[b]? = some (.map es clock) ∧ EsAre es clock l
def at? (l : List (List UInt8 × Value)) (k : List UInt8) : Option Value := (l.find? (fun x => x.1 == k)).map (·.2)
def put (l : List (List UInt8 × Value)) (k : List UInt8) (v : Value) : List (List UInt8 × Value) :=
 if (l.any fun x => x.1 == k) = true then l.map (fun x => if x.1 = k then (k, v) else x) else l ++ [(k, v)]
def del (l : List (List UInt8 × Value)) (k : List UInt8) : List (List UInt8 × Value) := l.filter (fun x => x.1 != k)
theorem SMap.keep {w w' : World} {b : Nat} {l : List (List UInt8 × Value)} (h : SMap w b l) (hb : w'.heap[b]? = w.heap[b]?) : SMap w' b l := by
 obtain ⟨es, clock, h1, h2⟩ := h
 exact ⟨es, clock, hb.trans h1, h2⟩
theorem SMap.lt {w : World} {b : Nat} {l : List (List UInt8 × Value)} (h : SMap w b l) : b < w.heap.size := by
 obtain ⟨es, clock, h1, _⟩ := h
 exact (Array.getElem?_eq_some_iff.1 h1).1
theorem SMap.made (w : World) : SMap (w.alloc (.map #[] 0)) w.heap.size [] := ⟨#[], 0, heap_alloc_new w _, by simp [EsAre]⟩
theorem EsAre.isKey {es : Array MapEntry} {clock : Nat} {l : List (List UInt8 × Value)} (h : EsAre es clock l) : ∀ x ∈ es.toList, IsKey .string x.key := by
 intro x hx
 have : (x.key, x.val) ∈ l.map (fun x => (sv x.1, x.2)) := h.1 ▸ List.mem_map.2 ⟨x, hx, rfl⟩
 obtain ⟨y, _, hy⟩ := List.mem_map.1 this
 have : x.key = sv y.1 := (congrArg Prod.fst hy).symm
 rw [this]
 trivial
theorem EsAre.length {es : Array MapEntry} {clock : Nat} {l : List (List UInt8 × Value)} (h : EsAre es clock l) : es.size = l.length := by
 have := congrArg List.length h.1
 simpa using this
theorem EsAre.at {es : Array MapEntry} {clock : Nat} {l : List (List UInt8 × Value)} (h : EsAre es clock l) {j : Nat} {e : MapEntry} (he : es.toList[j]? = some e) : ∃ x, l[j]? = some x ∧ e.key = sv x.1 ∧ e.val = x.2 := by
 have h1 : (es.toList.map (fun e => (e.key, e.val)))[j]? = some (e.key, e.val) := by rw [List.getElem?_map, he]; rfl
 rw [h.1, List.getElem?_map] at h1
 cases hl : l[j]? with
 | none => rw [hl] at h1; simp at h1
 | some x =>
  rw [hl] at h1
  simp only [Option.map_some, Option.some.injEq, Prod.mk.injEq] at h1
  exact ⟨x, rfl, h1.1.symm, h1.2.symm⟩
theorem find_at {l : List (List UInt8 × Value)} (hn : (l.map (·.1)).Nodup) {j : Nat} {x : List UInt8 × Value} (h : l[j]? = some x) : l.find? (fun y => y.1 == x.1) = some x := by
 induction l generalizing j with
 | nil => simp at h
 | cons y l ih =>
  rw [List.map_cons, List.nodup_cons] at hn
  cases j with
  | zero =>
   simp only [List.getElem?_cons_zero, Option.some.injEq] at h
   subst h
   simp
  | succ j =>
   rw [List.getElem?_cons_succ] at h
   rw [List.find?_cons]
   have hne : (y.1 == x.1) = false := by
    rw [beq_eq_false_iff_ne]
    intro e
    exact hn.1 (e ▸ List.mem_map.2 ⟨x, List.mem_of_getElem? h, rfl⟩)
   rw [hne]
   exact ih hn.2 h
theorem EsAre.find {es : Array MapEntry} {clock : Nat} {l : List (List UInt8 × Value)} (h : EsAre es clock l) (k : List UInt8) :
  (Instr.findNow .string (sv k) es.toList 0 = some none ∧ (l.find? fun x => x.1 == k) = none) ∨
  ∃ j e v, Instr.findNow .string (sv k) es.toList 0 = some (some (j, v)) ∧ es.toList[j]? = some e ∧ e.key = sv k ∧ e.val = v ∧ l[j]? = some (k, v) := by
 rcases findNow_spec (d := .string) (k := sv k) trivial es.toList 0 h.isKey with ⟨h1, h2⟩ | ⟨j, e, h1, h2, h3⟩
 ·left
  refine ⟨h1, ?_⟩
  rw [List.find?_eq_none]
  intro x hx hk
  have hx' : (sv x.1, x.2) ∈ es.toList.map (fun e => (e.key, e.val)) := h.1 ▸ List.mem_map.2 ⟨x, hx, rfl⟩
  obtain ⟨e, he, hv⟩ := List.mem_map.1 hx'
  have : e.key = sv x.1 := congrArg Prod.fst hv
  exact h2 e he (this.trans (by rw [beq_iff_eq] at hk; rw [hk]))
 ·right
  obtain ⟨x, hx, hk, hv⟩ := h.at h2
  have : x.1 = k := sv_inj.1 (hk.symm.trans h3)
  subst this
  exact ⟨j, e, x.2, by rw [Nat.zero_add] at h1; rw [h1, hv], h2, h3, hv, hx⟩
section
variable {P : Program} {w : World} {t k e : TypeId} {b : Nat} {l : List (List UInt8 × Value)}
theorem run_look (ht : P.underlying t = some (.map k e)) (hk : P.underlying k = some .string) {z : Value} (hz : (zeroValue e).run P w = .ok z w) (h : SMap w b l) (key : List UInt8) (ok : Bool) :
  (Instr.lookup t (.map (some b)) (sv key) ok).run P w = .ok (if ok then .tuple #[(at? l key).getD z, .bool (at? l key).isSome] else (at? l key).getD z) w := by
 obtain ⟨es, clock, hb, he⟩ := h
 have hg : (getObj b).run P w = .ok (.map es clock) w := MapKept.run_getObj_map hb
 have hc : ∀ em, (Instr.checkKey em 10000 k (sv key)).run P w = .ok () w := fun em => MapKept.run_checkKey hk (k := sv key) trivial em 9999
 rcases he.find key with ⟨h1, h2⟩ | ⟨j, x, v, h1, h2, h3, h4, h5⟩
 ·have h0 : at? l key = none := by unfold at?; rw [h2]; rfl
  have hf : (Instr.findKey k (sv key) es.toList).run P w = .ok none w := MapKept.run_findKey hk h1
  simp [Instr.lookup, run_underlying ht, Result.andThen, hg, hc, hf, hz, h0]
 ·have h0 : at? l key = some v := by unfold at?; rw [find_at he.2.2.2 h5]; rfl
  have hf : (Instr.findKey k (sv key) es.toList).run P w = .ok (some (j, v)) w := MapKept.run_findKey hk h1
  simp [Instr.lookup, run_underlying ht, Result.andThen, hg, hc, hf, h0]
theorem run_size (ht : P.underlying t = some (.map k e)) (h : SMap w b l) (ty : TypeId) : (Builtin.len_ #[t] ty #[.map (some b)]).run P w = .ok (.int .i64 (l.length : Int)) w := by
 obtain ⟨es, clock, hb, he⟩ := h
 have hg : (getObj b).run P w = .ok (.map es clock) w := MapKept.run_getObj_map hb
 rw [← he.length]
 simp [Builtin.len_, run_underlying ht, Result.andThen, hg, goInt]
theorem setBlock_at {w : World} {b : Nat} {o o' : Obj} (h : w.heap[b]? = some o) : (setBlock w b o').heap[b]? = some o' := by
 simp [setBlock, (Array.getElem?_eq_some_iff.1 h).1]
theorem Kp.setBlock (w : World) (b : Nat) (o : Obj) : Kp (fun k => k = b) w (setBlock w b o) :=
 ⟨rfl, rfl, rfl, by simp [ChangeMaps.setBlock], fun k _ hk => by simp [ChangeMaps.setBlock, Ne.symm hk]⟩
theorem any_of_at {l : List (List UInt8 × Value)} {key : List UInt8} : (l.any fun x => x.1 == key) = (l.find? fun x => x.1 == key).isSome := by
 induction l with
 | nil => rfl
 | cons x l ih =>
  rw [List.any_cons, List.find?_cons]
  cases h : x.1 == key
  ·simpa using ih
  ·rfl
theorem map_set_key : ∀ {l : List (List UInt8 × Value)}, (l.map (·.1)).Nodup → ∀ {j : Nat} {key : List UInt8} {v u : Value}, l[j]? = some (key, v) → l.map (fun x => if x.1 = key then (key, u) else x) = l.set j (key, u) := by
 intro l
 induction l with
 | nil => intro _ j key v u h; simp at h
 | cons y l ih =>
  intro hn j key v u h
  rw [List.map_cons, List.nodup_cons] at hn
  cases j with
  | zero =>
   simp only [List.getElem?_cons_zero, Option.some.injEq] at h
   subst h
   rw [List.map_cons, if_pos rfl, List.set_cons_zero]
   congr 1
   refine (List.map_congr_left (g := id) fun x hx => ?_).trans (List.map_id l)
   rw [if_neg (fun e => hn.1 (List.mem_map.2 ⟨x, hx, e⟩))]
   rfl
  | succ j =>
   rw [List.getElem?_cons_succ] at h
   rw [List.map_cons, List.set_cons_succ, ih hn.2 h, if_neg (fun e => hn.1 (List.mem_map.2 ⟨_, List.mem_of_getElem? h, e.symm⟩))]
theorem filter_key : ∀ {l : List (List UInt8 × Value)}, (l.map (·.1)).Nodup → ∀ {j : Nat} {key : List UInt8} {v : Value}, l[j]? = some (key, v) → l.filter (fun x => x.1 != key) = l.eraseIdx j := by
 intro l
 induction l with
 | nil => intro _ j key v h; simp at h
 | cons y l ih =>
  intro hn j key v h
  rw [List.map_cons, List.nodup_cons] at hn
  cases j with
  | zero =>
   simp only [List.getElem?_cons_zero, Option.some.injEq] at h
   subst h
   rw [List.filter_cons_of_neg (by simp), List.eraseIdx_cons_zero]
   exact List.filter_eq_self.2 fun x hx => by
    rw [bne_iff_ne]
    exact fun e => hn.1 (List.mem_map.2 ⟨x, hx, e⟩)
  | succ j =>
   rw [List.getElem?_cons_succ] at h
   rw [List.filter_cons_of_pos (by rw [bne_iff_ne]; exact fun e => hn.1 (List.mem_map.2 ⟨_, List.mem_of_getElem? h, e.symm⟩)), List.eraseIdx_cons_succ, ih hn.2 h]
theorem set_self : ∀ (l : List Nat) (j v : Nat), l[j]? = some v → l.set j v = l := by
 intro l
 induction l with
 | nil => intro j v h; simp at h
 | cons y l ih =>
  intro j v h
  cases j with
  | zero => simp only [List.getElem?_cons_zero, Option.some.injEq] at h; subst h; rfl
  | succ j => rw [List.set_cons_succ, ih j v (by simpa using h)]
theorem put_keys (l : List (List UInt8 × Value)) (key : List UInt8) (v : Value) (hn : (l.map (·.1)).Nodup) : ((put l key v).map (·.1)).Nodup := by
 unfold put
 split
 ·rw [List.map_map]
  have : ((fun x : List UInt8 × Value => x.1) ∘ fun x => if x.1 = key then (key, v) else x) = fun x => x.1 := by
   funext x
   simp only [Function.comp]
   split <;> simp_all
  rw [this]
  exact hn
 ·rename_i h
  rw [List.map_append, List.nodup_append]
  refine ⟨hn, by simp, fun a ha b hb => ?_⟩
  simp only [List.map_cons, List.map_nil, List.mem_singleton] at hb
  subst hb
  rintro rfl
  obtain ⟨x, hx, hk⟩ := List.mem_map.1 ha
  exact h (List.any_eq_true.2 ⟨x, hx, by rw [beq_iff_eq]; exact hk⟩)
theorem run_put (ht : P.underlying t = some (.map k e)) (hk : P.underlying k = some .string) (h : SMap w b l) (key : List UInt8) (v : Value) :
  ∃ w', (Instr.mapUpdate t (.map (some b)) (sv key) v).run P w = .ok () w' ∧ SMap w' b (put l key v) ∧ Kp (fun j => j = b) w w' := by
 obtain ⟨es, clock, hb, he⟩ := h
 have hg : (getObj b).run P w = .ok (.map es clock) w := MapKept.run_getObj_map hb
 have hc : ∀ em, (Instr.checkKey em 10000 k (sv key)).run P w = .ok () w := fun em => MapKept.run_checkKey hk (k := sv key) trivial em 9999
 have hs : ∀ o, (setObj b o).run P w = .ok () (setBlock w b o) := fun o => by simp [setObj, Sem.run, hb, setBlock]
 rcases he.find key with ⟨h1, h2⟩ | ⟨j, x, u, h1, h2, h3, h4, h5⟩
 ·have hf : (Instr.findKey k (sv key) es.toList).run P w = .ok none w := MapKept.run_findKey hk h1
  refine ⟨_, by simp [Instr.mapUpdate, run_underlying ht, Result.andThen, hg, hc, hf, hs]; rfl, ⟨_, _, setBlock_at hb, ?_⟩, Kp.setBlock _ _ _⟩
  have hp : put l key v = l ++ [(key, v)] := by unfold put; rw [any_of_at, h2]; rfl
  refine ⟨?_, ?_, ?_, put_keys l key v he.2.2.2⟩
  ·rw [hp]
   simp [he.1]
  ·intro e' he'
   rw [Array.toList_push, List.mem_append] at he'
   rcases he' with he' | he'
   ·have := he.2.1 e' he'
    omega
   ·obtain rfl := List.mem_singleton.1 he'
    simp
  ·rw [Array.toList_push, List.map_append, List.nodup_append]
   refine ⟨he.2.2.1, by simp, fun a ha c hc => ?_⟩
   obtain ⟨y, hy, rfl⟩ := List.mem_map.1 ha
   have := he.2.1 y hy
   simp at hc
   omega
 ·have hf : (Instr.findKey k (sv key) es.toList).run P w = .ok (some (j, u)) w := MapKept.run_findKey hk h1
  have hj : es[j]? = some x := by rw [← Array.getElem?_toList]; exact h2
  have hks : (Instr.keyThatStays (sv key) (sv key)).run P w = .ok (sv key) w := MapKept.run_keyThatStays (d := .string) (k := sv key) trivial
  have hmod : (es.modify j fun e => { e with key := sv key, val := v }).toList = es.toList.set j { x with key := sv key, val := v } := by
   apply List.ext_getElem?
   intro i
   rw [Array.getElem?_toList, Array.getElem?_modify, List.getElem?_set, Array.getElem?_toList]
   have hlt : j < es.size := (Array.getElem?_eq_some_iff.1 hj).1
   by_cases hij : j = i
   ·subst hij
    have hx : es[j] = x := (Array.getElem?_eq_some_iff.1 hj).2
    simp [hlt, hx]
   ·simp [hij]
  refine ⟨_, by simp [Instr.mapUpdate, run_underlying ht, Result.andThen, hg, hc, hf, hs, hj, h3, hks]; rfl, ⟨_, _, setBlock_at hb, ?_⟩, Kp.setBlock _ _ _⟩
  have hp : put l key v = l.set j (key, v) := by unfold put; rw [any_of_at, find_at he.2.2.2 h5]; exact map_set_key he.2.2.2 h5
  refine ⟨?_, ?_, ?_, put_keys l key v he.2.2.2⟩
  ·rw [hp, hmod, List.map_set, List.map_set, he.1]
  ·intro e' he'
   rw [hmod] at he'
   rcases List.mem_or_eq_of_mem_set he' with he' | rfl
   ·exact he.2.1 e' he'
   ·exact he.2.1 x (List.mem_of_getElem? h2)
  ·rw [hmod, List.map_set, set_self _ j x.born (by rw [List.getElem?_map, h2]; rfl)]
   exact he.2.2.1
theorem run_del (ht : P.underlying t = some (.map k e)) (hk : P.underlying k = some .string) (h : SMap w b l) (key : List UInt8) (ty : TypeId) :
  ∃ w', (Builtin.delete_ #[t, k] ty #[.map (some b), sv key]).run P w = .ok (.tuple #[]) w' ∧ SMap w' b (del l key) ∧ Kp (fun j => j = b) w w' := by
 obtain ⟨es, clock, hb, he⟩ := h
 have hg : (getObj b).run P w = .ok (.map es clock) w := MapKept.run_getObj_map hb
 have hc : ∀ em, (Instr.checkKey em 10000 k (sv key)).run P w = .ok () w := fun em => MapKept.run_checkKey hk (k := sv key) trivial em 9999
 have hs : ∀ o, (setObj b o).run P w = .ok () (setBlock w b o) := fun o => by simp [setObj, Sem.run, hb, setBlock]
 have hdk : ((del l key).map (·.1)).Nodup := by
  unfold del
  exact (List.filter_sublist.map _).nodup he.2.2.2
 rcases he.find key with ⟨h1, h2⟩ | ⟨j, x, u, h1, h2, h3, h4, h5⟩
 ·have hf : (Instr.findKey k (sv key) es.toList).run P w = .ok none w := MapKept.run_findKey hk h1
  have hd : del l key = l := List.filter_eq_self.2 fun x hx => by
   have := List.find?_eq_none.1 h2 x hx
   simpa using this
  refine ⟨_, by simp [Builtin.delete_, run_underlying ht, Result.andThen, hg, hc, hf, hs]; rfl, ⟨_, _, setBlock_at hb, ?_⟩, Kp.setBlock _ _ _⟩
  rw [hd]
  exact he
 ·have hf : (Instr.findKey k (sv key) es.toList).run P w = .ok (some (j, u)) w := MapKept.run_findKey hk h1
  have hlt : j < es.size := by have := (List.getElem?_eq_some_iff.1 h2).1; simpa using this
  have hmod : (es.eraseIdxIfInBounds j).toList = es.toList.eraseIdx j := by
   unfold Array.eraseIdxIfInBounds
   rw [dif_pos hlt, Array.toList_eraseIdx]
  have hd : del l key = l.eraseIdx j := filter_key he.2.2.2 h5
  refine ⟨_, by simp [Builtin.delete_, run_underlying ht, Result.andThen, hg, hc, hf, hs]; rfl, ⟨_, _, setBlock_at hb, ?_⟩, Kp.setBlock _ _ _⟩
  refine ⟨?_, ?_, ?_, hdk⟩
  ·rw [hd, hmod, ChangeMaps.map_eraseIdx, ChangeMaps.map_eraseIdx, he.1]
  ·intro e' he'
   rw [hmod] at he'
   exact he.2.1 e' ((List.eraseIdx_sublist _ _).subset he')
  ·rw [hmod, ChangeMaps.map_eraseIdx]
   exact (List.eraseIdx_sublist _ _).nodup he.2.2.1
/-! ### Walked over -/
def Rng (w : World) (b r : Nat) (todo : List (List UInt8 × Value)) : Prop := ∃ es clock l seen c0, w.heap[b]? = some (.map es clock) ∧ EsAre es clock l ∧ w.heap[r]? = some (.mapIter (some b) clock seen c0) ∧ clock ≤ c0 ∧
 (Go.leftOf es seen).toList.map (fun e => (e.key, e.val)) = todo.map (fun x => (sv x.1, x.2))
theorem Rng.keep {w w' : World} {b r : Nat} {todo : List (List UInt8 × Value)} (h : Rng w b r todo) (hb : w'.heap[b]? = w.heap[b]?) (hr : w'.heap[r]? = w.heap[r]?) : Rng w' b r todo := by
 obtain ⟨es, clock, l, seen, c0, h1, h2, h3, h4, h5⟩ := h
 exact ⟨es, clock, l, seen, c0, hb.trans h1, h2, hr.trans h3, h4, h5⟩
theorem run_range (ht : P.underlying t = some (.map k e)) (h : SMap w b l) :
  ∃ o, (Instr.range t (.map (some b))).run P w = .ok (.pointer (some ⟨w.heap.size, 0, none⟩)) (w.alloc o) ∧ Rng (w.alloc o) b w.heap.size l := by
 obtain ⟨es, clock, hb, he⟩ := h
 have hg : (getObj b).run P w = .ok (.map es clock) w := MapKept.run_getObj_map hb
 refine ⟨.mapIter (some b) clock #[] clock, ?_, es, clock, l, #[], clock, ?_, he, heap_alloc_new w _, Nat.le_refl _, ?_⟩
 ·simp [Instr.range, run_underlying ht, Result.andThen, hg, newObj, Sem.run]
 ·rw [Below.heap_alloc _ _ _ (Array.getElem?_eq_some_iff.1 hb).1]
  exact hb
 ·have : Go.leftOf es #[] = es := by simp [Go.leftOf]
  rw [this, he.1]
theorem filter_one {α : Type} (p : α → Nat) : ∀ (l : List α), (l.map p).Nodup → ∀ e ∈ l, ∃ l1 l2, l = l1 ++ e :: l2 ∧ l.filter (fun x => p x != p e) = l1 ++ l2 := by
 intro l
 induction l with
 | nil => intro _ e he; cases he
 | cons y l ih =>
  intro hn e he
  rw [List.map_cons, List.nodup_cons] at hn
  rcases List.mem_cons.1 he with rfl | he
  ·refine ⟨[], l, rfl, ?_⟩
   rw [List.filter_cons_of_neg (by simp)]
   exact List.filter_eq_self.2 fun x hx => by
    rw [bne_iff_ne]
    exact fun e' => hn.1 (List.mem_map.2 ⟨x, hx, e'⟩)
  ·obtain ⟨l1, l2, h1, h2⟩ := ih hn.2 e he
   refine ⟨y :: l1, l2, by rw [h1]; rfl, ?_⟩
   rw [List.filter_cons_of_pos (by rw [bne_iff_ne]; exact fun e' => hn.1 (List.mem_map.2 ⟨e, he, e'.symm⟩)), h2]
   rfl
theorem map_split {α β γ : Type} {f : α → γ} {g : β → γ} : ∀ {l1 l2 : List α} {x : α} {m : List β}, (l1 ++ x :: l2).map f = m.map g → ∃ m1 y m2, m = m1 ++ y :: m2 ∧ l1.map f = m1.map g ∧ f x = g y ∧ l2.map f = m2.map g := by
 intro l1
 induction l1 with
 | nil =>
  intro l2 x m h
  cases m with
  | nil => simp at h
  | cons y m =>
   simp only [List.nil_append, List.map_cons, List.cons.injEq] at h
   exact ⟨[], y, m, rfl, rfl, h.1, h.2⟩
 | cons z l1 ih =>
  intro l2 x m h
  cases m with
  | nil => simp at h
  | cons y m =>
   simp only [List.cons_append, List.map_cons, List.cons.injEq] at h
   obtain ⟨m1, y', m2, rfl, h1, h2, h3⟩ := ih h.2
   exact ⟨y :: m1, y', m2, rfl, by rw [List.map_cons, List.map_cons, h.1, h1], h2, h3⟩
theorem run_next1 {r : Nat} {todo : List (List UInt8 × Value)} (h : Rng w b r todo) (hbr : b ≠ r) (ty : TypeId) :
  (todo = [] ∧ (Instr.next (.pointer (some ⟨r, 0, none⟩)) false ty).run P w = .ok (.tuple #[.bool false]) w) ∨
  ∃ l1 x l2 w', todo = l1 ++ x :: l2 ∧ (Instr.next (.pointer (some ⟨r, 0, none⟩)) false ty).run P w = .ok (.tuple #[.bool true, sv x.1, x.2]) w' ∧ Rng w' b r (l1 ++ l2) ∧ Kp (fun j => j = r) w w' ∧
   (Instr.entry (.pointer (some ⟨r, 0, none⟩))).run P w' = .ok (.tuple #[sv x.1, x.2]) w' := by
 obtain ⟨es, clock, l, seen, c0, hb, he, hr, hc, hl⟩ := h
 rcases run_next_at (P := P) w ty r b clock c0 seen es clock hr hb he.2.1 hc with ⟨h1, h2⟩ | ⟨e, hm, w1, hw1, h2⟩
 ·left
  refine ⟨?_, h2⟩
  have := congrArg List.length hl
  simp only [List.length_map, Array.length_toList, h1] at this
  exact List.eq_nil_of_length_eq_zero this.symm
 ·right
  have hsub : (Go.leftOf es seen).toList.Sublist es.toList := by
   unfold Go.leftOf
   rw [Array.toList_filter]
   exact List.filter_sublist
  have hnd : ((Go.leftOf es seen).toList.map (·.born)).Nodup := (hsub.map _).nodup he.2.2.1
  obtain ⟨l1, l2, hs, hf⟩ := filter_one (fun e : MapEntry => e.born) _ hnd e hm
  have hl' := hl
  rw [hs] at hl'
  obtain ⟨m1, x, m2, rfl, g1, g2, g3⟩ := map_split hl'
  have hk : e.key = sv x.1 := congrArg Prod.fst g2
  have hv : e.val = x.2 := congrArg Prod.snd g2
  have hr1 : w1.heap[r]? = some (.mapIter (some b) clock seen c0) := by rcases hw1 with rfl | rfl <;> exact hr
  have hb1 : w1.heap[b]? = some (.map es clock) := by rcases hw1 with rfl | rfl <;> exact hb
  have hrb : (setBlock w1 r (.mapIter (some b) clock (seen.push e.born) clock)).heap[b]? = some (.map es clock) := by
   rw [(Kp.setBlock w1 r _).block b (Array.getElem?_eq_some_iff.1 hb1).1 hbr]
   exact hb1
  refine ⟨m1, x, m2, _, rfl, by rw [h2, hk, hv], ⟨es, clock, l, seen.push e.born, clock, hrb, he, setBlock_at hr1, Nat.le_refl _, ?_⟩, ?_, ?_⟩
  ·have : (Go.leftOf es (seen.push e.born)).toList = (Go.leftOf es seen).toList.filter (fun x => x.born != e.born) := by
    unfold Go.leftOf
    rw [Array.toList_filter, Array.toList_filter, List.filter_filter]
    congr 1
    funext y
    rw [Array.contains_push]
    cases h : (y.born == e.born) <;> simp [bne, h]
   rw [this, hf, List.map_append, List.map_append, g1, g3]
  ·rcases hw1 with rfl | rfl
   ·exact Kp.setBlock _ _ _
   ·exact (Kp.drew (fun j => j = r) w).trans (Kp.setBlock _ _ _) fid fid
  ·rw [← hk, ← hv]
   exact run_entry_at (P := P) _ r b clock seen es clock e (setBlock_at hr1) hrb (hsub.subset hm) he.2.2.1
theorem run_next {r : Nat} {todo : List (List UInt8 × Value)} (h : Rng w b r todo) (hbr : b ≠ r) :
  (todo = [] ∧ ∀ ty, (Instr.next (.pointer (some ⟨r, 0, none⟩)) false ty).run P w = .ok (.tuple #[.bool false]) w) ∨
  ∃ l1 x l2 w', todo = l1 ++ x :: l2 ∧ (∀ ty, (Instr.next (.pointer (some ⟨r, 0, none⟩)) false ty).run P w = .ok (.tuple #[.bool true, sv x.1, x.2]) w') ∧ Rng w' b r (l1 ++ l2) ∧ Kp (fun j => j = r) w w' ∧
   (Instr.entry (.pointer (some ⟨r, 0, none⟩))).run P w' = .ok (.tuple #[sv x.1, x.2]) w' := by
 have e : ∀ ty, Instr.next (.pointer (some ⟨r, 0, none⟩)) false ty = Instr.next (.pointer (some ⟨r, 0, none⟩)) false 0 := fun _ => rfl
 rcases run_next1 (P := P) h hbr 0 with ⟨h1, h2⟩ | ⟨l1, x, l2, w', h1, h2, h3, h4, h5⟩
 ·exact .inl ⟨h1, fun ty => by rw [e ty]; exact h2⟩
 ·exact .inr ⟨l1, x, l2, w', h1, fun ty => by rw [e ty]; exact h2, h3, h4, h5⟩
end
end Go.Proofs.YtekcoeonlfmebaaGreatDoor.Kit
namespace Go.Proofs.YtekcoeonlfmebaaGreatDoor.Kit
open Go Go.RowKit
structure FE where
 f : Fl
 b : Nat
 A : Option Addr
 c : Nat
def FE.ptr (x : FE) : Value := .pointer (some ⟨x.b, 0, none⟩)
def FE.ent (x : FE) : List UInt8 × Value := (x.f.name, x.ptr)
def FE.blk (x : FE) : List Nat := x.b :: bks x.A
def FE.cells (x : FE) : Array Value := #[.slice x.A x.f.data.length x.c, .int .i64 (x.f.syn : Int)]
def FE.at_ (w : World) (x : FE) : Prop := w.heap[x.b]? = some (.cells x.cells 90 (0, 0)) ∧ Own w 5 1 x.A x.c x.f.data.length (bcs x.f.data)
def dcells (s : DS) (bm : Nat) : Array Value := #[.int .i64 (s.cap : Int), .int .i64 (s.used : Int), .map (some bm), .int .i64 s.fuse, .bool s.down]
def fpD (d bm : Nat) (xs : List FE) : List Nat := d :: bm :: xs.flatMap FE.blk
structure DiskX (w : World) (d : Nat) (s : DS) (bm : Nat) (xs : List FE) : Prop where
 blk : w.heap[d]? = some (.cells (dcells s bm) 85 (0, 0))
 map : SMap w bm (xs.map FE.ent)
 file : ∀ x ∈ xs, x.at_ w
 own : (fpD d bm xs).Nodup
 perm : (xs.map FE.f).Perm s.files
 ok : s.Ok
def DiskAt (w : World) (d : Nat) (s : DS) (F : List Nat) : Prop := ∃ bm xs, DiskX w d s bm xs ∧ F = fpD d bm xs
theorem mem_fpD {d bm k : Nat} {xs : List FE} : k ∈ fpD d bm xs ↔ k = d ∨ k = bm ∨ ∃ x ∈ xs, k = x.b ∨ Bk x.A k := by
 simp [fpD, FE.blk, mem_bks]
theorem DiskX.keep {w w' : World} {d bm : Nat} {s : DS} {xs : List FE} (h : DiskX w d s bm xs) (hk : ∀ k ∈ fpD d bm xs, w'.heap[k]? = w.heap[k]?) : DiskX w' d s bm xs :=
 ⟨(hk d (mem_fpD.2 (.inl rfl))).trans h.blk, h.map.keep (hk bm (mem_fpD.2 (.inr (.inl rfl)))),
  fun x hx => ⟨(hk x.b (mem_fpD.2 (.inr (.inr ⟨x, hx, .inl rfl⟩)))).trans (h.file x hx).1, (h.file x hx).2.keep fun k hb => hk k (mem_fpD.2 (.inr (.inr ⟨x, hx, .inr hb⟩)))⟩, h.own, h.perm, h.ok⟩
theorem DiskX.lt {w : World} {d bm : Nat} {s : DS} {xs : List FE} (h : DiskX w d s bm xs) : ∀ k ∈ fpD d bm xs, k < w.heap.size := by
 intro k hk
 rcases mem_fpD.1 hk with rfl | rfl | ⟨x, hx, rfl | hb⟩
 ·exact (Array.getElem?_eq_some_iff.1 h.blk).1
 ·exact h.map.lt
 ·exact (Array.getElem?_eq_some_iff.1 (h.file x hx).1).1
 ·exact (h.file x hx).2.lt k hb
theorem DiskX.kp {w w' : World} {d bm : Nat} {s : DS} {xs : List FE} {S : Nat → Prop} (h : DiskX w d s bm xs) (hk : Kp S w w') (hS : ∀ k ∈ fpD d bm xs, ¬ S k) : DiskX w' d s bm xs := h.keep fun k hm => hk.block k (h.lt k hm) (hS k hm)
theorem DiskX.new {w w' : World} {d bm : Nat} {s : DS} {xs : List FE} (h : DiskX w d s bm xs) (hk : New w w') : DiskX w' d s bm xs := h.kp hk fun _ _ => id
theorem DiskAt.kp {w w' : World} {d : Nat} {s : DS} {F : List Nat} {S : Nat → Prop} (h : DiskAt w d s F) (hk : Kp S w w') (hS : ∀ k ∈ F, ¬ S k) : DiskAt w' d s F := by
 obtain ⟨bm, xs, h1, rfl⟩ := h
 exact ⟨bm, xs, h1.kp hk hS, rfl⟩
theorem DiskAt.new {w w' : World} {d : Nat} {s : DS} {F : List Nat} (h : DiskAt w d s F) (hk : New w w') : DiskAt w' d s F := h.kp hk fun _ _ => id
theorem DiskAt.lt {w : World} {d : Nat} {s : DS} {F : List Nat} (h : DiskAt w d s F) : ∀ k ∈ F, k < w.heap.size := by
 obtain ⟨bm, xs, h1, rfl⟩ := h
 exact h1.lt
theorem DiskAt.ok {w : World} {d : Nat} {s : DS} {F : List Nat} (h : DiskAt w d s F) : s.Ok := by
 obtain ⟨bm, xs, h1, rfl⟩ := h
 exact h1.ok
theorem DiskAt.mem {w : World} {d : Nat} {s : DS} {F : List Nat} (h : DiskAt w d s F) : d ∈ F := by
 obtain ⟨bm, xs, h1, rfl⟩ := h
 exact mem_fpD.2 (.inl rfl)
theorem DiskAt.cells {w : World} {d : Nat} {s : DS} {F : List Nat} (h : DiskAt w d s F) : ∃ bm, w.heap[d]? = some (.cells (dcells s bm) 85 (0, 0)) := by
 obtain ⟨bm, xs, h1, rfl⟩ := h
 exact ⟨bm, h1.blk⟩
def Mv (F F' : List Nat) (w w' : World) : Prop := Kp (· ∈ F) w w' ∧ ∀ k ∈ F', k ∈ F ∨ w.heap.size ≤ k
theorem Mv.refl (F : List Nat) (w : World) : Mv F F w w := ⟨Kp.refl _ _, fun _ h => .inl h⟩
theorem Mv.of_new {F : List Nat} {w w' : World} (h : New w w') : Mv F F w w' := ⟨h.mono fun _ _ h => h.elim, fun _ h => .inl h⟩
theorem Mv.trans {F F' F'' : List Nat} {a b c : World} (h : Mv F F' a b) (k : Mv F' F'' b c) : Mv F F'' a c := by
 refine ⟨h.1.trans k.1 fid (fun i hi hm => (h.2 i hm).elim id (fun h => by omega)), fun i hi => ?_⟩
 have := h.1.size
 rcases k.2 i hi with h1 | h1
 ·exact h.2 i h1
 ·exact .inr (by omega)
/-! ### What stands at a name -/
theorem nodup_of_map {α β : Type} {f : α → β} {l : List α} (h : (l.map f).Nodup) : ∀ {l1 l2 : List α} {x : α}, l = l1 ++ x :: l2 → ∀ y ∈ l1 ++ l2, f y ≠ f x := by
 rintro l1 l2 x rfl y hy e
 rw [List.map_append, List.map_cons, List.nodup_append] at h
 rcases List.mem_append.1 hy with hy | hy
 ·exact h.2.2 (f y) (List.mem_map.2 ⟨y, hy, rfl⟩) (f x) List.mem_cons_self e
 ·exact (List.nodup_cons.1 h.2.1).1 (e ▸ List.mem_map.2 ⟨y, hy, rfl⟩)
theorem DiskX.names {w : World} {d bm : Nat} {s : DS} {xs : List FE} (h : DiskX w d s bm xs) : (xs.map fun x => x.f.name).Nodup := by
 obtain ⟨es, clock, _, h1⟩ := h.map
 have := h1.2.2.2
 rw [List.map_map] at this
 exact this
theorem find_perm {l m : List Fl} (h : l.Perm m) (hn : (l.map (·.name)).Nodup) (n : Nm) : l.find? (fun f => f.name == n) = m.find? (fun f => f.name == n) := by
 have hm : (m.map (·.name)).Nodup := (h.map _).nodup_iff.1 hn
 have uniq : ∀ {l : List Fl}, (l.map (·.name)).Nodup → ∀ f ∈ l, f.name = n → l.find? (fun f => f.name == n) = some f := by
  intro l hl f hf hfn
  obtain ⟨g, hg⟩ : ∃ g, l.find? (fun f => f.name == n) = some g := by
   cases hg : l.find? (fun f => f.name == n) with
   | some g => exact ⟨g, rfl⟩
   | none => exact absurd (by simpa using hfn) (List.find?_eq_none.1 hg f hf)
  have hgn : g.name = n := by simpa using List.find?_some hg
  rw [hg]
  obtain ⟨l1, l2, rfl⟩ := List.append_of_mem hf
  have hgm := List.mem_of_find?_eq_some hg
  rcases List.mem_append.1 hgm with h1 | h1
  ·exact absurd (hgn.trans hfn.symm) (nodup_of_map hl rfl g (List.mem_append_left _ h1))
  ·rcases List.mem_cons.1 h1 with rfl | h1
   ·rfl
   ·exact absurd (hgn.trans hfn.symm) (nodup_of_map hl rfl g (List.mem_append_right _ h1))
 cases hl : l.find? (fun f => f.name == n) with
 | some f =>
  have hfn : f.name = n := by simpa using List.find?_some hl
  exact (uniq hm f (h.mem_iff.1 (List.mem_of_find?_eq_some hl)) hfn).symm
 | none =>
  symm
  rw [List.find?_eq_none]
  intro f hf
  exact List.find?_eq_none.1 hl f (h.mem_iff.2 hf)
theorem find_cut {l1 l2 : List FE} {x : FE} (h : ∀ y ∈ l1 ++ l2, y.f.name ≠ x.f.name) : (l1 ++ x :: l2).find? (fun y => y.f.name == x.f.name) = some x := by
 rw [List.find?_append]
 have : l1.find? (fun y => y.f.name == x.f.name) = none := List.find?_eq_none.2 fun y hy => by simpa using h y (List.mem_append_left _ hy)
 rw [this]
 simp
theorem DiskX.look {w : World} {d bm : Nat} {s : DS} {xs : List FE} (h : DiskX w d s bm xs) (n : Nm) :
  (s.find n = none ∧ at? (xs.map FE.ent) n = none) ∨ ∃ x l1 l2, xs = l1 ++ x :: l2 ∧ x.f.name = n ∧ s.find n = some x.f ∧ at? (xs.map FE.ent) n = some x.ptr ∧ ∀ y ∈ l1 ++ l2, y.f.name ≠ n := by
 have hn := h.names
 have hf : s.find n = (xs.map FE.f).find? (fun f => f.name == n) := (find_perm h.perm (by rw [List.map_map]; exact hn) n).symm
 rw [hf, List.find?_map]
 unfold at?
 rw [List.find?_map, Option.map_map]
 have e1 : ((fun f : Fl => f.name == n) ∘ FE.f) = fun x => x.f.name == n := rfl
 have e2 : ((fun x : List UInt8 × Value => x.1 == n) ∘ FE.ent) = fun x => x.f.name == n := rfl
 rw [e1, e2]
 cases hx : xs.find? (fun x => x.f.name == n) with
 | none => exact .inl ⟨rfl, rfl⟩
 | some x =>
  have hxn : x.f.name = n := by simpa using List.find?_some hx
  obtain ⟨l1, l2, rfl⟩ := List.append_of_mem (List.mem_of_find?_eq_some hx)
  exact .inr ⟨x, l1, l2, rfl, hxn, rfl, rfl, fun y hy => hxn ▸ nodup_of_map hn rfl y hy⟩
theorem wpList_look {P : Program} {w : World} {ops : Array Oper} {rest : List Oper} {o : Oper} {a : Act} {Q : Exit → Act → World → Prop} (hg : o.guard = none) (m x : Operand) (t : TypeId) (hop : o.op = Op.lookup t m x false)
  (k e : TypeId) (ht : P.underlying t = some (.map k e)) (hk : P.underlying k = some .string) {z : Value} (hz : ∀ w, (zeroValue e).run P w = .ok z w) (b : Nat) (l : List (List UInt8 × Value)) (hm : a.eval m = .map (some b)) (h : SMap w b l) (key : List UInt8) (hx : a.eval x = sv key)
  (v : Value) (hv : (at? l key).getD z = v) (hK : wpList P ops Q rest (a.put o.dst v) w) : wpList P ops Q (o :: rest) a w := by
 refine wpList_plain hg fun K' hK' => ?_
 have hr := run_look (P := P) ht hk (hz w) h key false
 unfold Oper.wp
 simp only [execOp, hop, hm, hx, Sem.run_bind, hr, Result.andThen, hv]
 exact hK' _ _ hK
def OwnN (t : TypeId) (w : World) (A : Option Addr) (c : Nat) (ys : List FV) : Prop :=
 Own w t 3 A c ys.length (FV.flat ys) ∧ (∀ y ∈ ys, Own w 5 1 y.A y.c y.f.data.length (bcs y.f.data)) ∧ (bks A ++ fblks ys).Nodup
theorem OwnN.nil (t : TypeId) (w : World) : OwnN t w none 0 [] := ⟨Own.nil _ _ _, by simp, by simp [bks, fblks]⟩
theorem OwnN.lt {t : TypeId} {w : World} {A : Option Addr} {c : Nat} {ys : List FV} (h : OwnN t w A c ys) : ∀ k, k ∈ bks A ++ fblks ys → k < w.heap.size := by
 intro k hk
 rcases List.mem_append.1 hk with hk | hk
 ·exact h.1.lt k (mem_bks.1 hk)
 ·obtain ⟨y, hy, hb⟩ := mem_fblks.1 hk
  exact (h.2.1 y hy).lt k hb
theorem OwnN.keep {t : TypeId} {w w' : World} {A : Option Addr} {c : Nat} {ys : List FV} (h : OwnN t w A c ys) (hk : ∀ k, k ∈ bks A ++ fblks ys → w'.heap[k]? = w.heap[k]?) : OwnN t w' A c ys :=
 ⟨h.1.keep fun k hb => hk k (List.mem_append_left _ (mem_bks.2 hb)), fun y hy => (h.2.1 y hy).keep fun k hb => hk k (List.mem_append_right _ (mem_fblks.2 ⟨y, hy, hb⟩)), h.2.2⟩
theorem OwnN.kp {t : TypeId} {w w' : World} {S : Nat → Prop} {A : Option Addr} {c : Nat} {ys : List FV} (h : OwnN t w A c ys) (hk : Kp S w w') (hS : ∀ k, k ∈ bks A ++ fblks ys → ¬ S k) : OwnN t w' A c ys := h.keep fun k hm => hk.block k (h.lt k hm) (hS k hm)
theorem OwnN.push {t : TypeId} {W W3 : World} {A A3 : Option Addr} {c c3 : Nat} {ys : List FV} (h : OwnN t W A c ys) (y : FV)
  (hy : Own W3 5 1 y.A y.c y.f.data.length (bcs y.f.data)) (hrow : Own W3 t 3 A3 c3 (ys.length + 1) (FV.flat ys ++ y.cells)) (hkeep : ∀ k, k ∈ fblks ys → W3.heap[k]? = W.heap[k]?)
  (hyf : ∀ k, Bk y.A k → W.heap.size ≤ k) (hA3 : ∀ k, Bk A3 k → Bk A k ∨ (W.heap.size ≤ k ∧ ¬ Bk y.A k)) : OwnN t W3 A3 c3 (ys ++ [y]) := by
 refine ⟨by rw [FV.flat_snoc, List.length_append]; exact hrow, fun z hz => ?_, ?_⟩
 ·rcases List.mem_append.1 hz with hz | hz
  ·exact (h.2.1 z hz).keep fun k hb => hkeep k (mem_fblks.2 ⟨z, hz, hb⟩)
  ·obtain rfl := List.mem_singleton.1 hz
   exact hy
 ·have hlt := h.lt
  obtain ⟨n1, n2, n3⟩ := List.nodup_append.1 h.2.2
  rw [fblks_snoc]
  refine List.nodup_append.2 ⟨bks_nodup _, List.nodup_append.2 ⟨n2, bks_nodup _, ?_⟩, ?_⟩
  ·intro a ha b hb e
   subst e
   have := hyf a (mem_bks.1 hb)
   have := hlt a (List.mem_append_right _ ha)
   omega
  ·intro a ha b hb e
   subst e
   rcases hA3 a (mem_bks.1 ha) with h3 | ⟨h3, h4⟩
   ·rcases List.mem_append.1 hb with hb | hb
    ·exact n3 a (mem_bks.2 h3) a hb rfl
    ·have := hyf a (mem_bks.1 hb)
     have := hlt a (List.mem_append_left _ (mem_bks.2 h3))
     omega
   ·rcases List.mem_append.1 hb with hb | hb
    ·have := hlt a (List.mem_append_right _ hb)
     omega
    ·exact h4 (mem_bks.1 hb)
theorem OwnN.rd {t : TypeId} {w : World} {A : Option Addr} {c : Nat} {ys : List FV} (h : OwnN t w A c ys) : RdF w A ys := by
 refine ⟨fun hne => ?_, fun y hy => (h.2.1 y hy).rd⟩
 rcases h.1.form with ⟨_, _, h0⟩ | ⟨g, rfl⟩
 ·exact absurd (List.eq_nil_of_length_eq_zero h0) hne
 ·exact ⟨g, 0, rfl, fun j u hu => by rw [Nat.zero_add]; exact h.1.cell hu⟩
def nblks (A : Option Addr) (ys : List FV) : List Nat := bks A ++ fblks ys
theorem FV.flat_set : ∀ (ys : List FV) (i m : Nat) (y z : FV) (v : Value), ys[i]? = some y → m < 3 → z.cells = y.cells.set m v → (FV.flat ys).set (i * 3 + m) v = FV.flat (ys.set i z)
 | [], _, _, _, _, _, h, _, _ => by simp at h
 | q :: ys, i, m, y, z, v, h, hm, hz => by
  have hq : q.cells.length = 3 := rfl
  unfold FV.flat
  cases i with
  | zero =>
   simp only [List.getElem?_cons_zero, Option.some.injEq] at h
   subst h
   rw [List.flatMap_cons, List.set_cons_zero, List.flatMap_cons, hz, Nat.zero_mul, Nat.zero_add, List.set_append_left _ _ (by omega)]
  | succ i =>
   rw [List.getElem?_cons_succ] at h
   rw [List.flatMap_cons, List.set_cons_succ, List.flatMap_cons, List.set_append_right _ _ (by omega)]
   have e : (i + 1) * 3 + m - q.cells.length = i * 3 + m := by omega
   rw [e]
   exact congrArg _ (FV.flat_set ys i m y z v h hm hz)
theorem mem_set_cases {α : Type} {l : List α} {i : Nat} {z x : α} (h : x ∈ l.set i z) : x = z ∨ x ∈ l := by
 rcases List.mem_or_eq_of_mem_set h with h | h
 ·exact .inr h
 ·exact .inl h
theorem fblks_set_cases {ys : List FV} {i : Nat} {z : FV} {k : Nat} (h : k ∈ fblks (ys.set i z)) : k ∈ fblks ys ∨ Bk z.A k := by
 obtain ⟨x, hx, hb⟩ := mem_fblks.1 h
 rcases mem_set_cases hx with rfl | hx
 ·exact .inr hb
 ·exact .inl (mem_fblks.2 ⟨x, hx, hb⟩)
theorem nodup_flat_set {ys : List FV} : ∀ {i : Nat} {y z : FV}, ys[i]? = some y → (fblks ys).Nodup → (∀ k, Bk z.A k → k ∉ fblks ys ∨ Bk y.A k) → (fblks (ys.set i z)).Nodup := by
 induction ys with
 | nil => intro i y z h; simp at h
 | cons q ys ih =>
  intro i y z h hn hz
  have hc : ∀ (q : FV) (ys : List FV), fblks (q :: ys) = bks q.A ++ fblks ys := fun q ys => by simp [fblks]
  rw [hc] at hn
  obtain ⟨n1, n2, n3⟩ := List.nodup_append.1 hn
  cases i with
  | zero =>
   simp only [List.getElem?_cons_zero, Option.some.injEq] at h
   subst h
   rw [List.set_cons_zero, hc]
   refine List.nodup_append.2 ⟨bks_nodup _, n2, fun a ha b hb e => ?_⟩
   subst e
   rcases hz a (mem_bks.1 ha) with h | h
   ·exact h (by rw [hc]; exact List.mem_append_right _ hb)
   ·exact n3 a (mem_bks.2 h) a hb rfl
  | succ i =>
   rw [List.getElem?_cons_succ] at h
   rw [List.set_cons_succ, hc]
   refine List.nodup_append.2 ⟨n1, ih h n2 (fun k hk => (hz k hk).imp (fun h hm => h (by rw [hc]; exact List.mem_append_right _ hm)) id), fun a ha b hb e => ?_⟩
   subst e
   rcases fblks_set_cases hb with hb | hb
   ·exact n3 a ha a hb rfl
   ·rcases hz a hb with h' | h'
    ·exact h' (by rw [hc]; exact List.mem_append_left _ ha)
    ·exact n3 a ha a (mem_fblks.2 ⟨y, List.mem_of_getElem? h, h'⟩) rfl
theorem OwnN.put {t : TypeId} {w w1 : World} {S : Nat → Prop} {g c : Nat} {ys : List FV} (h : OwnN t w (some ⟨g, 0, none⟩) c ys) {i m : Nat} {y z : FV} (hy : ys[i]? = some y) (hm : m < 3) (v : Value) (hz : z.cells = y.cells.set m v)
  (hk : Kp S w w1) (hS : ∀ k ∈ nblks (some ⟨g, 0, none⟩) ys, ¬ S k) (hzo : Own w1 5 1 z.A z.c z.f.data.length (bcs z.f.data)) (hzb : ∀ k, Bk z.A k → w.heap.size ≤ k ∨ Bk y.A k) :
  OwnN t (w1.setCell ⟨g, i * 3 + m, none⟩ v) (some ⟨g, 0, none⟩) c (ys.set i z) := by
 have h1 := h.kp hk hS
 have hyf : ∀ k, Bk y.A k → k ∈ fblks ys := fun k hb => mem_fblks.2 ⟨y, List.mem_of_getElem? hy, hb⟩
 have hg : g < w.heap.size := h.lt g (List.mem_append_left _ (mem_bks.2 (Bk.some_.2 rfl)))
 obtain ⟨_, n2, n3⟩ := List.nodup_append.1 h.2.2
 have hzg : ∀ k, Bk z.A k → k ≠ g := fun k hb e => by
  subst e
  rcases hzb k hb with h' | h'
  ·omega
  ·exact n3 k (mem_bks.2 (Bk.some_.2 rfl)) k (hyf k h') rfl
 refine ⟨?_, fun x hx => ?_, ?_⟩
 ·have := h1.1.set (i * 3 + m) v
  rw [FV.flat_set ys i m y z v hy hm hz] at this
  rw [List.length_set]
  exact this
 ·have hset : Kp (fun k => k = g) w1 (w1.setCell ⟨g, i * 3 + m, none⟩ v) := Kp.setCell _ _ _ rfl
  rcases mem_set_cases hx with rfl | hx
  ·exact hzo.kp hset fun k hb e => hzg k hb e
  ·refine (h1.2.1 x hx).kp hset fun k hb e => ?_
   subst e
   exact n3 k (mem_bks.2 (Bk.some_.2 rfl)) k (mem_fblks.2 ⟨x, hx, hb⟩) rfl
 ·refine List.nodup_append.2 ⟨bks_nodup _, nodup_flat_set hy n2 (fun k hb => (hzb k hb).imp (fun h' hm' => by have := h.lt k (List.mem_append_right _ hm'); omega) id), fun a ha b hb e => ?_⟩
  subst e
  obtain rfl : g = a := Bk.some_.1 (mem_bks.1 ha)
  rcases fblks_set_cases hb with hb | hb
  ·exact n3 g ha g hb rfl
  ·exact hzg g hb rfl
theorem OwnF.toN {w : World} {A : Option Addr} {c : Nat} {ys : List FV} (h : OwnF w A c ys) : OwnN 82 w A c ys := h
theorem fblks_ne : ∀ {ys : List FV}, (fblks ys).Nodup → ∀ {i j : Nat} {x y : FV}, ys[i]? = some x → ys[j]? = some y → i ≠ j → ∀ {k : Nat}, Bk x.A k → ¬ Bk y.A k
 | [], _, _, _, _, _, hx, _, _, _, _ => by simp at hx
 | q :: ys, h, i, j, x, y, hx, hy, hij, k, hk => by
  have hc : fblks (q :: ys) = bks q.A ++ fblks ys := by simp [fblks]
  rw [hc] at h
  obtain ⟨_, n2, n3⟩ := List.nodup_append.1 h
  intro hb
  cases i with
  | zero =>
   cases j with
   | zero => exact hij rfl
   | succ j =>
    simp only [List.getElem?_cons_zero, Option.some.injEq] at hx
    subst hx
    rw [List.getElem?_cons_succ] at hy
    exact n3 k (mem_bks.2 hk) k (mem_fblks.2 ⟨y, List.mem_of_getElem? hy, hb⟩) rfl
  | succ i =>
   rw [List.getElem?_cons_succ] at hx
   cases j with
   | zero =>
    simp only [List.getElem?_cons_zero, Option.some.injEq] at hy
    subst hy
    exact n3 k (mem_bks.2 hb) k (mem_fblks.2 ⟨x, List.mem_of_getElem? hx, hk⟩) rfl
   | succ j =>
    rw [List.getElem?_cons_succ] at hy
    exact fblks_ne n2 hx hy (fun e => hij (by rw [e])) hk hb
theorem mem_set_at {α : Type} {l : List α} {i : Nat} {z x : α} (h : x ∈ l.set i z) : x = z ∨ ∃ j, j ≠ i ∧ l[j]? = some x := by
 obtain ⟨j, hj⟩ := List.mem_iff_getElem?.1 h
 rw [List.getElem?_set] at hj
 split at hj
 ·split at hj
  ·exact .inl (Option.some.inj hj).symm
  ·cases hj
 ·rename_i hne
  exact .inr ⟨j, fun e => hne e.symm, hj⟩
def FV.byte (y : FV) (k : Nat) (v : UInt8) : FV := ⟨⟨y.f.name, y.f.data.set k v, y.f.syn⟩, y.A, y.c⟩
theorem FV.byte_cells (y : FV) (k : Nat) (v : UInt8) : (y.byte k v).cells = y.cells := by simp [FV.byte, FV.cells]
theorem set_self' {α : Type} : ∀ (l : List α) (i : Nat) (z y : α) (f : α → List Value), l[i]? = some y → f z = f y → (l.set i z).flatMap f = l.flatMap f
 | [], _, _, _, _, h, _ => by simp at h
 | q :: l, i, z, y, f, h, hz => by
  cases i with
  | zero =>
   simp only [List.getElem?_cons_zero, Option.some.injEq] at h
   subst h
   rw [List.set_cons_zero, List.flatMap_cons, List.flatMap_cons, hz]
  | succ i =>
   rw [List.getElem?_cons_succ] at h
   rw [List.set_cons_succ, List.flatMap_cons, List.flatMap_cons, set_self' l i z y f h hz]
theorem fblks_set_same {y z : FV} (hz : z.A = y.A) : ∀ {l : List FV} {i : Nat}, l[i]? = some y → fblks (l.set i z) = fblks l
 | [], _, h => by simp at h
 | q :: l, i, h => by
  have hc : ∀ (q : FV) (ys : List FV), fblks (q :: ys) = bks q.A ++ fblks ys := fun q ys => by simp [fblks]
  cases i with
  | zero =>
   simp only [List.getElem?_cons_zero, Option.some.injEq] at h
   subst h
   rw [List.set_cons_zero, hc, hc, hz]
  | succ i =>
   rw [List.getElem?_cons_succ] at h
   rw [List.set_cons_succ, hc, hc, fblks_set_same hz h]
theorem bcs_set (l : List UInt8) (k : Nat) (v : UInt8) : bcs (l.set k v) = (bcs l).set k (bc v) := by simp [bcs, List.map_set]
theorem OwnN.byte {t : TypeId} {w : World} {A : Option Addr} {c : Nat} {ys : List FV} (h : OwnN t w A c ys) {i k g : Nat} {y : FV} (hy : ys[i]? = some y) (hg : y.A = some ⟨g, 0, none⟩) (v : UInt8) :
  OwnN t (w.setCell ⟨g, k, none⟩ (bc v)) A c (ys.set i (y.byte k v)) := by
 have hset : Kp (fun j => j = g) w (w.setCell ⟨g, k, none⟩ (bc v)) := Kp.setCell _ _ _ rfl
 have hgb : Bk y.A g := hg ▸ Bk.some_.2 rfl
 obtain ⟨n1, n2, n3⟩ := List.nodup_append.1 h.2.2
 have hgf : g ∈ fblks ys := mem_fblks.2 ⟨y, List.mem_of_getElem? hy, hgb⟩
 have hb : fblks (ys.set i (y.byte k v)) = fblks ys := fblks_set_same (y := y) (z := y.byte k v) rfl hy
 refine ⟨?_, fun x hx => ?_, by rw [hb]; exact h.2.2⟩
 ·rw [List.length_set]
  unfold FV.flat
  rw [set_self' ys i (y.byte k v) y FV.cells hy (FV.byte_cells y k v)]
  exact h.1.kp hset fun j hj e => n3 j (mem_bks.2 hj) g hgf e
 ·rcases mem_set_at hx with rfl | ⟨j, hji, hj⟩
  ·have h0 := h.2.1 y (List.mem_of_getElem? hy)
   show Own _ _ _ y.A y.c (y.f.data.set k v).length (bcs (y.f.data.set k v))
   rw [bcs_set, List.length_set]
   rw [hg] at h0 ⊢
   exact h0.set k _
  ·exact (h.2.1 x (List.mem_of_getElem? hj)).kp hset fun m hm e => by
    subst e
    exact fblks_ne n2 hj hy hji hm hgb
theorem OwnN.at_ {t : TypeId} {w : World} {A : Option Addr} {c : Nat} {ys : List FV} (h : OwnN t w A c ys) {i : Nat} {y : FV} (hy : ys[i]? = some y) : ∃ g, A = some ⟨g, 0, none⟩ ∧ w.cell? ⟨g, i * 3, none⟩ = some (.string (bstr y.f.name)) ∧ w.cell? ⟨g, i * 3 + 1, none⟩ = some (.slice y.A y.f.data.length y.c) ∧ w.cell? ⟨g, i * 3 + 2, none⟩ = some (.int .i64 (y.f.syn : Int)) ∧
  (∀ j, w.frozen? ⟨g, j, none⟩ = false) := by
 obtain ⟨g, rfl⟩ := h.1.some_ (by have := (List.getElem?_eq_some_iff.1 hy).1; omega)
 have f0 := FV.flat_get ys i 0 y hy (by omega)
 have f1 := FV.flat_get ys i 1 y hy (by omega)
 have f2 := FV.flat_get ys i 2 y hy (by omega)
 exact ⟨g, rfl, h.1.cell f0, h.1.cell f1, h.1.cell f2, fun j => h.1.frozen j⟩
end Go.Proofs.YtekcoeonlfmebaaGreatDoor.Kit
