/- A disk by definition: what holds of it goes on holding. No program in sight. -/
import Derived.Test.YtekcoeonlfmebaaDiskM
namespace Go.Proofs.Ytekcoeonlfmebaa.Kit

theorem nm_lt_trans {a b c : Nm} (h : a < b) (k : b < c) : a < c := List.lt_trans h k
theorem nm_irrefl (a : Nm) : ¬ a < a := List.lt_irrefl a
theorem nm_tri {a b : Nm} (h : ¬ a < b) (hne : a ≠ b) : b < a := by
  have h1 : b ≤ a := List.not_lt.1 h
  apply Classical.byContradiction
  intro h2
  exact hne (List.le_antisymm (List.not_lt.1 h2) h1)
theorem nm_ne {a b : Nm} (h : a < b) : a ≠ b := fun e => nm_irrefl b (e ▸ h)

theorem ins_perm (f : Fl) : ∀ l, (ins f l).Perm (f :: l)
  | [] => List.Perm.refl _
  | g :: l => by
    unfold ins
    split
    · exact List.Perm.refl _
    · exact ((ins_perm f l).cons g).trans (List.Perm.swap f g l)
abbrev Rise (l : List Fl) : Prop := (l.map (·.name)).Pairwise (· < ·)
theorem Rise.cons {g : Fl} {l : List Fl} : Rise (g :: l) ↔ (∀ f ∈ l, g.name < f.name) ∧ Rise l := by
  unfold Rise
  rw [List.map_cons, List.pairwise_cons]
  simp
theorem Rise.ins {f : Fl} : ∀ {l : List Fl}, Rise l → (∀ g ∈ l, g.name ≠ f.name) → Rise (ins f l)
  | [], _, _ => by simp [Kit.ins, Rise]
  | g :: l, h, hn => by
    obtain ⟨h1, h2⟩ := Rise.cons.1 h
    unfold Kit.ins
    split
    · rename_i hlt
      refine Rise.cons.2 ⟨fun x hx => ?_, h⟩
      rcases List.mem_cons.1 hx with rfl | hx
      · exact hlt
      · exact nm_lt_trans hlt (h1 x hx)
    · rename_i hlt
      refine Rise.cons.2 ⟨fun x hx => ?_, Rise.ins h2 fun x hx => hn x (List.mem_cons_of_mem _ hx)⟩
      rcases List.mem_cons.1 ((ins_perm f l).mem_iff.1 hx) with rfl | hx
      · exact nm_tri hlt (fun e => hn g List.mem_cons_self e.symm)
      · exact h1 x hx
theorem Rise.sub {l m : List Fl} (h : Rise l) (hs : m.Sublist l) : Rise m := List.Pairwise.sublist (hs.map _) h
theorem Rise.nodup {l : List Fl} (h : Rise l) : (l.map (·.name)).Nodup := h.imp nm_ne
theorem Rise.out {l : List Fl} (h : Rise l) (n : Nm) : Rise (outF n l) := h.sub List.filter_sublist
theorem updF_names {n : Nm} {h : Fl → Fl} (hh : ∀ f, (h f).name = f.name) (l : List Fl) : (updF n h l).map (·.name) = l.map (·.name) := by
  unfold updF
  rw [List.map_map]
  refine List.map_congr_left fun f _ => ?_
  simp only [Function.comp]
  split
  · exact hh f
  · rfl
theorem used_perm {l m : List Fl} (h : l.Perm m) : usedF l = usedF m := (h.map _).sum_nat
theorem used_cons (f : Fl) (l : List Fl) : usedF (f :: l) = f.data.length + usedF l := by simp [usedF]
theorem used_app (l m : List Fl) : usedF (l ++ m) = usedF l + usedF m := by simp [usedF]
theorem used_ins (f : Fl) (l : List Fl) : usedF (ins f l) = f.data.length + usedF l := by rw [used_perm (ins_perm f l), used_cons]
/-- The file of a name, set apart. -/
theorem cut_at {l : List Fl} {n : Nm} {f : Fl} (h : l.find? (fun f => f.name == n) = some f) (hr : (l.map (·.name)).Nodup) : f.name = n ∧ ∃ l1 l2, l = l1 ++ f :: l2 ∧ ∀ g ∈ l1 ++ l2, g.name ≠ n := by
  have hn : f.name = n := by simpa using List.find?_some h
  refine ⟨hn, ?_⟩
  obtain ⟨l1, l2, rfl⟩ := List.append_of_mem (List.mem_of_find?_eq_some h)
  refine ⟨l1, l2, rfl, fun g hg e => ?_⟩
  rw [List.map_append, List.map_cons, List.nodup_append] at hr
  rcases List.mem_append.1 hg with hg | hg
  · exact hr.2.2 g.name (List.mem_map.2 ⟨g, hg, rfl⟩) f.name List.mem_cons_self (e.trans hn.symm)
  · exact (List.nodup_cons.1 hr.2.1).1 (List.mem_map.2 ⟨g, hg, e.trans hn.symm⟩)
theorem updF_cut {n : Nm} {h : Fl → Fl} {l1 l2 : List Fl} {f : Fl} (hn : f.name = n) (hne : ∀ g ∈ l1 ++ l2, g.name ≠ n) : updF n h (l1 ++ f :: l2) = l1 ++ h f :: l2 := by
  have hid : ∀ {l : List Fl}, (∀ g ∈ l, g.name ≠ n) → updF n h l = l := fun {l} hl => by
    unfold updF
    refine (List.map_congr_left (g := id) fun g hg => ?_).trans (List.map_id l)
    rw [if_neg (hl g hg)]
    rfl
  unfold updF at *
  rw [List.map_append, List.map_cons, if_pos hn, hid fun g hg => hne g (List.mem_append_left _ hg), hid fun g hg => hne g (List.mem_append_right _ hg)]
theorem outF_cut {n : Nm} {l1 l2 : List Fl} {f : Fl} (hn : f.name = n) (hne : ∀ g ∈ l1 ++ l2, g.name ≠ n) : outF n (l1 ++ f :: l2) = l1 ++ l2 := by
  have hid : ∀ {l : List Fl}, (∀ g ∈ l, g.name ≠ n) → outF n l = l := fun {l} hl => List.filter_eq_self.2 fun g hg => by simpa using hl g hg
  unfold outF at *
  rw [List.filter_append, List.filter_cons_of_neg (by simp [hn]), hid fun g hg => hne g (List.mem_append_left _ hg), hid fun g hg => hne g (List.mem_append_right _ hg)]
theorem outF_none {n : Nm} {l : List Fl} (h : l.find? (fun f => f.name == n) = none) : outF n l = l := List.filter_eq_self.2 fun g hg => by
  have := List.find?_eq_none.1 h g hg
  simpa using this
theorem mem_updF {n : Nm} {h : Fl → Fl} {l : List Fl} {g : Fl} (hg : g ∈ updF n h l) : (g ∈ l ∧ g.name ≠ n) ∨ ∃ f ∈ l, f.name = n ∧ g = h f := by
  obtain ⟨f, hf, rfl⟩ := List.mem_map.1 hg
  split
  · rename_i e
    exact .inr ⟨f, hf, e, rfl⟩
  · rename_i e
    exact .inl ⟨hf, e⟩

theorem DS.Ok.create {s : DS} (h : s.Ok) (n : Nm) (hg : goodN n = true) (hf : s.find n = none) (hl : s.files.length < 64) : DS.Ok { s with files := ins ⟨n, [], 0⟩ s.files } := by
  have hmem : ∀ {g}, g ∈ ins ⟨n, [], 0⟩ s.files → g = ⟨n, [], 0⟩ ∨ g ∈ s.files := fun hg => List.mem_cons.1 ((ins_perm _ _).mem_iff.1 hg)
  refine ⟨h.cap, ?_, ?_, Rise.ins h.rise fun g hg => ?_, fun g hg' => ?_, fun g hg' => ?_, h.fuse, h.fell⟩
  · have := h.used
    show usedF (ins _ _) ≤ s.cap
    rw [used_ins]
    simpa [DS.used] using this
  · show (ins _ _).length ≤ 64
    rw [(ins_perm _ _).length_eq]
    simp only [List.length_cons]
    omega
  · have := List.find?_eq_none.1 hf g hg
    simpa using this
  · rcases hmem hg' with rfl | hm
    · exact hg
    · exact h.good g hm
  · rcases hmem hg' with rfl | hm
    · simp
    · exact h.syn g hm
theorem DS.find_cut {s : DS} (h : s.Ok) {n : Nm} {f : Fl} (hf : s.find n = some f) : f.name = n ∧ ∃ l1 l2, s.files = l1 ++ f :: l2 ∧ ∀ g ∈ l1 ++ l2, g.name ≠ n := cut_at hf (Rise.nodup h.rise)
theorem DS.Ok.upd {s : DS} (h : s.Ok) (n : Nm) {f : Fl} (hf : s.find n = some f) (u : Fl → Fl) (hn : ∀ f, (u f).name = f.name) (hs : (u f).syn ≤ (u f).data.length) (hu : usedF (updF n u s.files) ≤ s.cap) : DS.Ok { s with files := updF n u s.files } := by
  obtain ⟨hfn, l1, l2, hl, hne⟩ := DS.find_cut h hf
  have e : updF n u s.files = l1 ++ u f :: l2 := by rw [hl, updF_cut hfn hne]
  refine ⟨h.cap, hu, ?_, ?_, fun g hg => ?_, fun g hg => ?_, h.fuse, h.fell⟩
  · show (updF n u s.files).length ≤ 64
    rw [e]
    have := h.few
    rw [hl] at this
    simpa using this
  · show Rise (updF n u s.files)
    unfold Rise
    rw [updF_names hn]
    exact h.rise
  · rcases mem_updF hg with ⟨hm, _⟩ | ⟨f', hm, _, rfl⟩
    · exact h.good g hm
    · rw [hn]
      exact h.good f' hm
  · have hg' : g ∈ l1 ++ u f :: l2 := e ▸ hg
    have hin : g ∈ l1 ++ l2 ∨ g = u f := by
      rcases List.mem_append.1 hg' with h1 | h1
      · exact .inl (List.mem_append_left _ h1)
      · rcases List.mem_cons.1 h1 with h1 | h1
        · exact .inr h1
        · exact .inl (List.mem_append_right _ h1)
    rcases hin with h1 | rfl
    · exact h.syn g (by rw [hl]; rcases List.mem_append.1 h1 with h1 | h1 <;> simp [h1])
    · exact hs
theorem used_upd {s : DS} (h : s.Ok) {n : Nm} {f : Fl} (hf : s.find n = some f) (u : Fl → Fl) : usedF (updF n u s.files) + f.data.length = s.used + (u f).data.length := by
  obtain ⟨hfn, l1, l2, hl, hne⟩ := DS.find_cut h hf
  have e : updF n u s.files = l1 ++ u f :: l2 := by rw [hl, updF_cut hfn hne]
  have hs : s.used = usedF (l1 ++ f :: l2) := by unfold DS.used; rw [hl]
  rw [e, hs, used_app, used_cons, used_app, used_cons]
  omega
theorem used_out {s : DS} (h : s.Ok) {n : Nm} {f : Fl} (hf : s.find n = some f) : usedF (outF n s.files) + f.data.length = s.used := by
  obtain ⟨hfn, l1, l2, hl, hne⟩ := DS.find_cut h hf
  have hs : s.used = usedF (l1 ++ f :: l2) := by unfold DS.used; rw [hl]
  rw [hs, hl, outF_cut hfn hne, used_app, used_app, used_cons]
  omega
theorem used_at' {s : DS} (h : s.Ok) {n : Nm} {f : Fl} (hf : s.find n = some f) : f.data.length ≤ s.used := by
  have := used_out h hf
  omega
theorem DS.Ok.out {s : DS} (h : s.Ok) (n : Nm) : DS.Ok { s with files := outF n s.files } := by
  have hsub : (outF n s.files).Sublist s.files := List.filter_sublist
  have hu : usedF (outF n s.files) ≤ s.used := by
    cases hf : s.find n with
    | none => unfold DS.used; rw [outF_none hf]; exact Nat.le_refl _
    | some f => have := used_out h hf; omega
  exact ⟨h.cap, Nat.le_trans hu h.used, Nat.le_trans hsub.length_le h.few, Rise.out h.rise n, fun g hg => h.good g (hsub.subset hg), fun g hg => h.syn g (hsub.subset hg), h.fuse, h.fell⟩
theorem find_none_out {l : List Fl} (n : Nm) : (outF n l).find? (fun f => f.name == n) = none := by
  rw [List.find?_eq_none]
  intro g hg
  have := (List.mem_filter.1 hg).2
  simpa using this
theorem DS.Ok.moved {s : DS} (h : s.Ok) (a b : Nm) (hg : goodN b = true) : DS.Ok { s with files := moved a b s.files } := by
  unfold Kit.moved
  split
  · exact h
  · split
    · rename_i f hf
      have hf' : s.find a = some f := hf
      have h1 := h.out a
      have h2 := h1.out b
      have hfm := List.mem_of_find?_eq_some hf
      have ho : outF b (outF a s.files) = outF b (outF a s.files) := rfl
      have hmem : ∀ {g}, g ∈ ins { f with name := b } (outF b (outF a s.files)) → g = { f with name := b } ∨ g ∈ outF b (outF a s.files) := fun hg => List.mem_cons.1 ((ins_perm _ _).mem_iff.1 hg)
      have hlen : (outF a s.files).length < s.files.length := by
        obtain ⟨hfn, l1, l2, hl, hne⟩ := DS.find_cut h hf'
        rw [hl, outF_cut hfn hne]
        simp
      refine ⟨h.cap, ?_, ?_, Rise.ins h2.rise fun g hg => ?_, fun g hg' => ?_, fun g hg' => ?_, h.fuse, h.fell⟩
      · show usedF (ins _ _) ≤ s.cap
        rw [used_ins]
        have e1 := used_out h hf'
        have e2 : usedF (outF b (outF a s.files)) ≤ usedF (outF a s.files) := by
          cases hfb : (outF a s.files).find? (fun f => f.name == b) with
          | none => rw [outF_none hfb]; exact Nat.le_refl _
          | some g => have := used_out h1 (n := b) (f := g) hfb; show usedF (outF b (outF a s.files)) ≤ _; have e3 : DS.used { s with files := outF a s.files } = usedF (outF a s.files) := rfl; rw [e3] at this; have e4 : usedF (outF b ({ s with files := outF a s.files } : DS).files) = usedF (outF b (outF a s.files)) := rfl; rw [e4] at this; omega
        have := h.used
        show f.data.length + _ ≤ _
        omega
      · show (ins _ _).length ≤ 64
        rw [(ins_perm _ _).length_eq, List.length_cons]
        have : (outF b (outF a s.files)).length ≤ (outF a s.files).length := List.length_filter_le _ _
        have := h.few
        omega
      · have := List.find?_eq_none.1 (find_none_out (l := outF a s.files) b) g hg
        simpa using this
      · rcases hmem hg' with rfl | hm
        · exact hg
        · exact h2.good g hm
      · rcases hmem hg' with rfl | hm
        · exact h.syn f hfm
        · exact h2.syn g hm
    · exact h
end Go.Proofs.Ytekcoeonlfmebaa.Kit
