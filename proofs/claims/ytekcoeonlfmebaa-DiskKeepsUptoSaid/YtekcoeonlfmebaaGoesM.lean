/- One file through all calls: by definition. No program in sight. -/
import Derived.Test.YtekcoeonlfmebaaDiskF
namespace Go.Proofs.Ytekcoeonlfmebaa.Kit

theorem ins_cut (l : List Fl) (x : Fl) : ∃ l1 l2, l = l1 ++ l2 ∧ ∀ y : Fl, y.name = x.name → ins y l = l1 ++ y :: l2 := by
  induction l with
  | nil => exact ⟨[], [], rfl, fun y _ => rfl⟩
  | cons g l ih =>
    by_cases h : x.name < g.name
    · exact ⟨[], g :: l, rfl, fun y hy => by unfold ins; rw [hy, if_pos h]; rfl⟩
    · obtain ⟨l1, l2, rfl, hi⟩ := ih
      exact ⟨g :: l1, l2, rfl, fun y hy => by unfold ins; rw [hy, if_neg h, hi y hy]; rfl⟩
def DS.with (s : DS) (x : Fl) : DS := { s with files := ins x s.files }
theorem ne_of_none {l : List Fl} {n : Nm} (h : l.find? (fun f => f.name == n) = none) : ∀ f ∈ l, f.name ≠ n := fun f hf => by
  have := List.find?_eq_none.1 h f hf
  simpa using this
theorem with_find {s : DS} {x : Fl} (h : s.find x.name = none) : (s.with x).find x.name = some x := by
  obtain ⟨l1, l2, e, hi⟩ := ins_cut s.files x
  have hne := ne_of_none h
  unfold DS.find DS.with
  simp only
  rw [hi x rfl, List.find?_append]
  have : l1.find? (fun f => f.name == x.name) = none := List.find?_eq_none.2 fun f hf => by simpa using hne f (by rw [e]; exact List.mem_append_left _ hf)
  rw [this]
  simp
theorem with_other {s : DS} {x : Fl} {n : Nm} (h : s.find n = none) (hx : x.name ≠ n) : (s.with x).find n = none := by
  refine List.find?_eq_none.2 fun f hf => ?_
  rcases List.mem_cons.1 ((ins_perm x s.files).mem_iff.1 hf) with rfl | hf
  · simpa using hx
  · simpa using ne_of_none h f hf
theorem with_upd {s : DS} {x : Fl} (h : s.find x.name = none) (u : Fl → Fl) (hu : (u x).name = x.name) : updF x.name u (s.with x).files = (s.with (u x)).files := by
  obtain ⟨l1, l2, e, hi⟩ := ins_cut s.files x
  have hne := ne_of_none h
  unfold DS.with
  simp only
  rw [hi x rfl, hi (u x) hu, updF_cut rfl fun g hg => hne g (by rw [e]; exact hg)]
theorem with_out {s : DS} {x : Fl} (h : s.find x.name = none) : outF x.name (s.with x).files = s.files := by
  obtain ⟨l1, l2, e, hi⟩ := ins_cut s.files x
  have hne := ne_of_none h
  unfold DS.with
  simp only
  rw [hi x rfl, outF_cut rfl fun g hg => hne g (by rw [e]; exact hg)]
  exact e.symm
theorem with_moved {s : DS} {x : Fl} {b : Nm} (h : s.find x.name = none) (hb : s.find b = none) (hne : x.name ≠ b) : moved x.name b (s.with x).files = (s.with { x with name := b }).files := by
  unfold moved
  rw [if_neg hne, show (s.with x).files.find? (fun f => f.name == x.name) = some x from with_find h]
  simp only
  rw [with_out h, outF_none hb]
  rfl
theorem with_used (s : DS) (x : Fl) : (s.with x).used = x.data.length + s.used := used_ins x s.files
/-- The power on, no fuse. -/
structure DS.Up (s : DS) : Prop where
  down : s.down = false
  fuse : s.fuse = -1
theorem DS.Up.change {s : DS} (h : s.Up) (h0 : DS → DS) : s.change 0 h0 = (0, h0 s) := by
  obtain ⟨hd, hf⟩ := h
  unfold DS.change
  rw [hd, hf]
  cases s
  simp only at hd hf
  subst hd hf
  rfl
theorem DS.Up.fails {s : DS} (h : s.Up) {e : Nat} (he : e ≠ 0) (h0 : DS → DS) : s.change e h0 = (e, s) := by
  unfold DS.change
  rw [h.down, if_neg (by decide), if_pos he]
theorem DS.Up.with {s : DS} (h : s.Up) (x : Fl) : (s.with x).Up := ⟨h.down, h.fuse⟩

abbrev nGoes : Nm := [103, 111, 101, 115]
abbrev nWent : Nm := [119, 101, 110, 116]
theorem good_goes : goodN nGoes = true := by decide
theorem good_went : goodN nWent = true := by decide
section
variable {s : DS} (hU : s.Up)
include hU
omit hU in
theorem up_there {n : Nm} (hg : goodN n = true) (h : s.find n = none) : s.there n = 31 := by
  unfold DS.there
  rw [if_pos hg, h]
  rfl
theorem up_remove_none {n : Nm} (hg : goodN n = true) (h : s.find n = none) : s.remove n = (31, s) := by
  unfold DS.remove
  rw [up_there hg h]
  exact hU.fails (by decide) _
theorem up_rename_none {n b : Nm} (hg : goodN n = true) (hb : goodN b = true) (h : s.find n = none) : s.rename n b = (31, s) := by
  unfold DS.rename
  rw [if_pos hb, up_there hg h]
  exact hU.fails (by decide) _
theorem up_create {n : Nm} (hg : goodN n = true) (h : s.find n = none) (hl : s.files.length < 64) : s.create n = (0, s.with ⟨n, [], 0⟩) := by
  unfold DS.create
  rw [if_pos hg, h, if_neg (by simp), if_neg (by omega)]
  exact hU.change _
theorem up_create_there {x : Fl} (hg : goodN x.name = true) (h : s.find x.name = none) : (s.with x).create x.name = (33, s.with x) := by
  unfold DS.create
  rw [if_pos hg, with_find h, if_pos (show (some x).isSome = true from rfl)]
  exact (hU.with x).fails (by decide) _
omit hU in
theorem with_there {x : Fl} (hg : goodN x.name = true) (h : s.find x.name = none) : (s.with x).there x.name = 0 := by
  unfold DS.there
  rw [if_pos hg, with_find h]
  rfl
theorem up_append {x : Fl} (b : List UInt8) (hg : goodN x.name = true) (h : s.find x.name = none) (hr : x.data.length + s.used + b.length ≤ s.cap) : (s.with x).append x.name b = (0, s.with { x with data := x.data ++ b }) := by
  unfold DS.append
  rw [with_there hg h, if_neg (by decide), with_used, if_neg (show ¬ (s.with x).cap < x.data.length + s.used + b.length from Nat.not_lt.2 hr), (hU.with x).change, with_upd h _ rfl]
  rfl
theorem up_append_full {x : Fl} (b : List UInt8) (hg : goodN x.name = true) (h : s.find x.name = none) (hr : s.cap < x.data.length + s.used + b.length) : (s.with x).append x.name b = (30, s.with x) := by
  unfold DS.append
  rw [with_there hg h, if_neg (by decide), with_used, if_pos (show (s.with x).cap < x.data.length + s.used + b.length from hr)]
  exact (hU.with x).fails (by decide) _
theorem up_sync {x : Fl} (hg : goodN x.name = true) (h : s.find x.name = none) : (s.with x).sync x.name = (0, s.with { x with syn := x.data.length }) := by
  unfold DS.sync
  rw [with_there hg h, (hU.with x).change, with_upd h _ rfl]
  rfl
theorem up_rename {x : Fl} {b : Nm} (hg : goodN x.name = true) (hb : goodN b = true) (h : s.find x.name = none) (hbn : s.find b = none) (hne : x.name ≠ b) : (s.with x).rename x.name b = (0, s.with { x with name := b }) := by
  unfold DS.rename
  rw [if_pos hb, with_there hg h, (hU.with x).change, with_moved h hbn hne]
  rfl
theorem up_remove {x : Fl} (hg : goodN x.name = true) (h : s.find x.name = none) : (s.with x).remove x.name = (0, s) := by
  unfold DS.remove
  rw [with_there hg h, (hU.with x).change, with_out h]
  rfl
end
end Go.Proofs.Ytekcoeonlfmebaa.Kit
