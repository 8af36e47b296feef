/- disk.From: which states can be a disk's. -/
import Derived.Test.YtekcoeonlfmebaaFiles
import Derived.Test.YtekcoeonlfmebaaDiskF
import Derived.Sort.Walk0
namespace Go.Proofs.Ytekcoeonlfmebaa.Kit
open Go Go.RowKit

/-- A file that comes in. -/
structure FI where
  name : Nm
  data : List UInt8
  syn : Int
  A : Option Addr
  c : Nat
def FI.fl (y : FI) : Fl := ⟨y.name, y.data, y.syn.toNat⟩
def FI.cells (y : FI) : List Value := [.string (bstr y.name), .slice y.A y.data.length y.c, .int .i64 y.syn]
def FV.fi (y : FV) : FI := ⟨y.f.name, y.f.data, y.f.syn, y.A, y.c⟩
theorem FV.fi_fl (y : FV) : y.fi.fl = y.f := by simp [FV.fi, FI.fl]
theorem FV.fi_cells (y : FV) : y.fi.cells = y.cells := rfl
theorem FI.flat_get (ys : List FI) : ∀ (i j : Nat) (y : FI), ys[i]? = some y → j < 3 → (ys.flatMap FI.cells)[i * 3 + j]? = y.cells[j]? := by
  induction ys with
  | nil => intro i j y h; simp at h
  | cons q ys ih =>
    intro i j y h hj
    rw [List.flatMap_cons]
    cases i with
    | zero =>
      simp only [List.getElem?_cons_zero, Option.some.injEq] at h
      subst h
      rw [Nat.zero_mul, Nat.zero_add, List.getElem?_append_left (by simpa [FI.cells] using hj)]
    | succ i =>
      rw [List.getElem?_cons_succ] at h
      rw [List.getElem?_append_right (by simp [FI.cells]; omega), ← ih i j y h hj]
      congr 1
      simp [FI.cells]
      omega
/-- A slice of files that came in. -/
def RdI (w : World) (A : Option Addr) (ys : List FI) : Prop :=
  (ys ≠ [] → ∃ b off, A = some ⟨b, off, none⟩ ∧ ∀ (j : Nat) (u : Value), (ys.flatMap FI.cells)[j]? = some u → w.cell? ⟨b, off + j, none⟩ = some u) ∧ ∀ y ∈ ys, RdB w y.A y.data
theorem RdF.toI {w : World} {A : Option Addr} {ys : List FV} (h : RdF w A ys) : RdI w A (ys.map FV.fi) := by
  refine ⟨fun hne => ?_, fun y hy => ?_⟩
  · obtain ⟨b, off, rfl, hc⟩ := h.1 (fun e => hne (by rw [e]; rfl))
    refine ⟨b, off, rfl, fun j u hu => hc j u ?_⟩
    rw [List.flatMap_map] at hu
    exact hu
  · obtain ⟨z, hz, rfl⟩ := List.mem_map.1 hy
    exact h.2 z hz
def RdI.In (A : Option Addr) (ys : List FI) (k : Nat) : Prop := Bk A k ∨ ∃ y ∈ ys, Bk y.A k
theorem RdI.kp {w w' : World} {S : Nat → Prop} {A : Option Addr} {ys : List FI} (h : RdI w A ys) (hk : Kp S w w') (hS : ∀ k, RdI.In A ys k → ¬ S k) : RdI w' A ys := by
  refine ⟨fun hne => ?_, fun y hy => (h.2 y hy).kp hk fun k hb => hS k (.inr ⟨y, hy, hb⟩)⟩
  obtain ⟨b, off, rfl, hc⟩ := h.1 hne
  exact ⟨b, off, rfl, fun j u hu => hk.cell_of (hc j u hu) (hS b (.inl (Bk.some_.2 rfl)))⟩
theorem RdI.new {w w' : World} {A : Option Addr} {ys : List FI} (h : RdI w A ys) (hk : New w w') : RdI w' A ys := h.kp hk fun _ _ => id
theorem RdI.at_ {w : World} {A : Option Addr} {ys : List FI} (h : RdI w A ys) {i : Nat} {y : FI} (hy : ys[i]? = some y) : ∃ b off, A = some ⟨b, off, none⟩ ∧ w.cell? ⟨b, off + i * 3, none⟩ = some (.string (bstr y.name)) ∧
    w.cell? ⟨b, off + i * 3 + 1, none⟩ = some (.slice y.A y.data.length y.c) ∧ w.cell? ⟨b, off + i * 3 + 2, none⟩ = some (.int .i64 y.syn) := by
  obtain ⟨b, off, rfl, hc⟩ := h.1 (by intro e; subst e; simp at hy)
  refine ⟨b, off, rfl, ?_, ?_, ?_⟩
  · exact hc (i * 3) _ (by have := FI.flat_get ys i 0 _ hy (by omega); simpa [FI.cells] using this)
  · rw [Nat.add_assoc]
    exact hc (i * 3 + 1) _ (by have := FI.flat_get ys i 1 _ hy (by omega); simpa [FI.cells] using this)
  · rw [Nat.add_assoc]
    exact hc (i * 3 + 2) _ (by have := FI.flat_get ys i 2 _ hy (by omega); simpa [FI.cells] using this)

/-- Can these be a disk's files? -/
def VPre (cap : Nat) (ys : List FI) : Prop := (DS.mk cap (ys.map FI.fl) (-1) false).Ok ∧ ∀ y ∈ ys, 0 ≤ y.syn
theorem VPre.pre {cap : Nat} {ys : List FI} (h : VPre cap ys) (k : Nat) : VPre cap (ys.take k) := by
  obtain ⟨h1, h2⟩ := h
  have hs : ((ys.take k).map FI.fl).Sublist (ys.map FI.fl) := (List.take_sublist k ys).map _
  refine ⟨⟨h1.cap, ?_, Nat.le_trans hs.length_le h1.few, Rise.sub h1.rise hs, fun f hf => h1.good f (hs.subset hf), fun f hf => h1.syn f (hs.subset hf), h1.fuse, h1.fell⟩, fun y hy => h2 y ((List.take_sublist k ys).subset hy)⟩
  have e : usedF (ys.map FI.fl) = usedF ((ys.take k).map FI.fl) + usedF ((ys.drop k).map FI.fl) := by
    rw [← used_app, ← List.map_append, List.take_append_drop]
  have := h1.used
  unfold DS.used at *
  simp only at *
  omega
theorem usedI_snoc (l : List FI) (y : FI) : usedF ((l ++ [y]).map FI.fl) = usedF (l.map FI.fl) + y.data.length := by
  rw [List.map_append, used_app]
  simp [usedF, FI.fl]
/-- One more file. -/
theorem VPre.snoc {cap : Nat} {l : List FI} {y : FI} (h : VPre cap l) (hl : l.length < 64) (hg : goodN y.name = true) (ho : ∀ p, l.getLast? = some p → p.name < y.name) (h0 : 0 ≤ y.syn) (h1 : y.syn ≤ y.data.length) (hu : usedF (l.map FI.fl) + y.data.length ≤ cap) : VPre cap (l ++ [y]) := by
  obtain ⟨q1, q2⟩ := h
  have hrise : Rise ((l ++ [y]).map FI.fl) := by
    unfold Rise
    rw [List.map_append, List.map_append, List.pairwise_append]
    refine ⟨q1.rise, by simp, fun a ha b hb => ?_⟩
    simp only [List.map_cons, List.map_nil, List.mem_singleton] at hb
    subst hb
    show a < y.name
    rcases List.eq_nil_or_concat l with rfl | ⟨m, p, hm⟩
    · simp at ha
    · rw [List.concat_eq_append] at hm
      subst hm
      have hp := ho p (by simp)
      have hr := q1.rise
      simp only [List.map_append, List.map_cons, List.map_nil, List.pairwise_append, List.mem_append, List.mem_singleton] at hr ha
      rcases ha with ha | ha
      · exact nm_lt_trans (hr.2.2 a ha _ rfl) hp
      · rw [ha]
        exact hp
  have hmem : ∀ f ∈ (l ++ [y]).map FI.fl, f ∈ l.map FI.fl ∨ f = y.fl := fun f hf => by simpa using hf
  refine ⟨⟨q1.cap, ?_, by simp; omega, hrise, fun f hf => ?_, fun f hf => ?_, q1.fuse, q1.fell⟩, fun z hz => ?_⟩
  · unfold DS.used
    simp only
    rw [usedI_snoc]
    exact hu
  · rcases hmem f hf with h | rfl
    · exact q1.good f h
    · exact hg
  · rcases hmem f hf with h | rfl
    · exact q1.syn f h
    · simp only [FI.fl]
      omega
  · rcases List.mem_append.1 hz with h | h
    · exact q2 z h
    · obtain rfl := List.mem_singleton.1 h
      exact h0
/-- What a further file must have. -/
theorem VPre.last {cap : Nat} {l : List FI} {y : FI} (h : VPre cap (l ++ [y])) : goodN y.name = true ∧ (∀ p, l.getLast? = some p → p.name < y.name) ∧ 0 ≤ y.syn ∧ y.syn ≤ y.data.length ∧ usedF (l.map FI.fl) + y.data.length ≤ cap := by
  obtain ⟨q1, q2⟩ := h
  have hy0 := q2 y (by simp)
  have hs := q1.syn y.fl (by simp)
  have hu := q1.used
  unfold DS.used at hu
  simp only at hu
  rw [usedI_snoc] at hu
  refine ⟨q1.good y.fl (by simp), fun p hp => ?_, hy0, ?_, hu⟩
  · have hr := q1.rise
    simp only [List.map_append, List.map_cons, List.map_nil, List.pairwise_append] at hr
    exact hr.2.2 p.fl.name (by simp only [List.map_map, List.mem_map]; exact ⟨p, List.mem_of_getLast? hp, rfl⟩) y.fl.name (by simp)
  · simp only [FI.fl] at hs
    omega
def FromOk (cap fuse : Int) (down : Bool) (ys : List FI) : Prop := 0 ≤ cap ∧ cap ≤ 1048576 ∧ ys.length ≤ 64 ∧ -1 ≤ fuse ∧ fuse ≤ 1048576 ∧ (down = true → fuse = -1) ∧ VPre cap.toNat ys
theorem less_bstr (a b : Nm) : Op.bytesLess (bstr a).toList (bstr b).toList = decide (a < b) := by
  rw [Lib.toList_data, Lib.toList_data, bstr_toList, bstr_toList]
  exact bytesLess_eq a b
end Go.Proofs.Ytekcoeonlfmebaa.Kit
