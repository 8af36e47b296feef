/- What an act may do. No program in sight. -/
import Derived.Test.YtekcoeonlfmebaaAct
import Derived.Test.YtekcoeonlfmebaaGoesM
namespace Go.Proofs.Ytekcoeonlfmebaa.Kit

/-- What an act made of a disk. -/
def Act1 (k : Int) (s : DS) (r : Nat × DS) : Prop :=
  (r.1 = 0 ∧ (k = 14 ∨ k = 12 ∧ s.down = false ∨ (3 ≤ k ∧ k ≤ 7) ∧ s.down = false ∧ s.fuse ≠ 0 ∧ r.2.fuse = if 0 < s.fuse then s.fuse - 1 else s.fuse)) ∨
  (r.1 ≠ 0 ∧ r.2 = s ∧ k ≠ 14 ∧ (s.down = false → r.1 ≠ 34) ∧ (s.down = true → k ≠ 12 → r.1 = 34)) ∨
  (r.1 = 34 ∧ s.down = false ∧ s.fuse = 0 ∧ k ≠ 14 ∧ r.2 = { s with down := true, fuse := -1 })
theorem change_act {k : Int} (hk : 3 ≤ k ∧ k ≤ 7) (s : DS) (e : Nat) (h : DS → DS) (he : e ≠ 34) (hh : ∀ s, (h s).fuse = s.fuse) : Act1 k s (s.change e h) := by
  unfold Act1 DS.change
  cases hd : s.down with
  | true => exact .inr (.inl ⟨by simp, by simp, by omega, by simp, by simp⟩)
  | false =>
    by_cases h0 : e = 0
    · by_cases hf : s.fuse = 0
      · exact .inr (.inr ⟨by simp [h0, hf], rfl, hf, by omega, by simp [h0, hf]⟩)
      · exact .inl ⟨by simp [h0, hf], .inr (.inr ⟨hk, rfl, hf, by simp [h0, hf, hh]⟩)⟩
    · exact .inr (.inl ⟨by simp [h0], by simp [h0], by omega, by simp [h0, he], by simp⟩)
theorem there_ne (s : DS) (n : Nm) : s.there n ≠ 34 := by
  unfold DS.there
  split
  · split <;> decide
  · decide
theorem act_made (o : OpV) (s : DS) (hk : isAct o.kind = true) : Act1 o.kind s (o.act s) := by
  unfold isAct at hk
  have hk := of_decide_eq_true hk
  unfold OpV.act
  split
  · rename_i h
    exact change_act (by omega) s _ _ (by split; split; decide; split <;> decide; decide) fun _ => rfl
  split
  · rename_i h
    exact change_act (by omega) s _ _ (by split; exact there_ne _ _; split <;> decide) fun _ => rfl
  split
  · exact change_act (by omega) s _ _ (there_ne _ _) fun _ => rfl
  split
  · exact change_act (by omega) s _ _ (by split; exact there_ne _ _; decide) fun _ => rfl
  split
  · exact change_act (by omega) s _ _ (there_ne _ _) fun _ => rfl
  split
  · rename_i h
    unfold DS.setFuse Act1
    cases hd : s.down with
    | true =>
      by_cases hr : o.n < -1 ∨ 1048576 < o.n
      · exact .inr (.inl ⟨by simp [hr], by simp [hr], by omega, by simp, fun _ h' => absurd h h'⟩)
      · exact .inr (.inl ⟨by simp [hr], by simp [hr], by omega, by simp, fun _ h' => absurd h h'⟩)
    | false =>
      by_cases hr : o.n < -1 ∨ 1048576 < o.n
      · exact .inr (.inl ⟨by simp [hr], by simp [hr], by omega, by simp [hr], fun _ h' => absurd h h'⟩)
      · exact .inl ⟨by simp [hr], .inr (.inl ⟨h, rfl⟩)⟩
  split
  · rename_i h
    exact .inl ⟨rfl, .inl h⟩
  · omega

/-- All names of a few. -/
def DS.Few (s : DS) : Prop := ∀ f ∈ s.files, f.name ∈ pressN
theorem pressed_mem (n : List UInt8) : pressed n ∈ pressN := by
  unfold pressed
  have h : pressI n < pressN.length := pressI_lt n
  rw [List.getD_eq_getElem?_getD, List.getElem?_eq_getElem h]
  exact List.getElem_mem h
theorem change_few {s : DS} (h : s.Few) (e : Nat) (g : DS → DS) (hg : ∀ t : DS, t.files = s.files → (g t).Few) : (s.change e g).2.Few := by
  unfold DS.change
  split
  · exact h
  split
  · exact h
  split
  · exact h
  · exact hg _ rfl
theorem crashed_mem (keep : List Int) : ∀ (l : List Fl) (i : Nat) (f : Fl), f ∈ crashed keep i l → ∃ g ∈ l, g.name = f.name
  | [], _, _, h => by simp [crashed] at h
  | g :: l, i, f, h => by
    rw [crashed] at h
    rcases List.mem_cons.1 h with rfl | h
    · exact ⟨g, List.mem_cons_self, rfl⟩
    · obtain ⟨x, hx, hn⟩ := crashed_mem keep l (i + 1) f h
      exact ⟨x, List.mem_cons_of_mem _ hx, hn⟩
theorem crash_few {s : DS} (h : s.Few) (keep : List Int) : (s.crash keep).Few := fun f hf => by
  obtain ⟨g, hg, hn⟩ := crashed_mem keep s.files 0 f hf
  exact hn ▸ h g hg
theorem act_few (o : OpV) {s : DS} (h : s.Few) : (o.act s).2.Few := by
  have hu : ∀ (n : Nm) (u : Fl → Fl), (∀ f, (u f).name = f.name) → ∀ t : DS, t.files = s.files → DS.Few { t with files := updF n u t.files } := fun n u hu t ht f hf => by
    rcases mem_updF hf with ⟨hm, _⟩ | ⟨g, hm, _, rfl⟩
    · exact h f (ht ▸ hm)
    · rw [hu]
      exact h g (ht ▸ hm)
  unfold OpV.act
  split
  · refine change_few h _ _ fun t ht f hf => ?_
    rcases List.mem_cons.1 ((ins_perm _ _).mem_iff.1 hf) with rfl | hf
    · exact pressed_mem _
    · exact h f (ht ▸ hf)
  split
  · exact change_few h _ _ (hu _ _ fun _ => rfl)
  split
  · exact change_few h _ _ (hu _ _ fun _ => rfl)
  split
  · refine change_few h _ _ fun t ht f hf => ?_
    simp only [moved] at hf
    split at hf
    · exact h f (ht ▸ hf)
    · split at hf
      · rcases List.mem_cons.1 ((ins_perm _ _).mem_iff.1 hf) with rfl | hf
        · exact pressed_mem _
        · exact h f (ht ▸ (List.mem_filter.1 (List.mem_filter.1 hf).1).1)
      · exact h f (ht ▸ hf)
  split
  · exact change_few h _ _ fun t ht f hf => h f (ht ▸ (List.mem_filter.1 hf).1)
  split
  · unfold DS.setFuse
    split
    · exact h
    · split <;> exact h
  split
  · exact crash_few h _
  · exact h
theorem few_none {s : DS} (h : s.Few) {n : Nm} (hn : n ∉ pressN) : s.find n = none := List.find?_eq_none.2 fun f hf => by
  rw [beq_iff_eq]
  exact fun e => hn (e ▸ h f hf)
theorem nodup_sub_len : ∀ {l m : List Nm}, l.Nodup → l ⊆ m → l.length ≤ m.length
  | [], _, _, _ => Nat.zero_le _
  | a :: l, m, hn, hs => by
    obtain ⟨h1, h2⟩ := List.nodup_cons.1 hn
    have ha : a ∈ m := hs List.mem_cons_self
    have := nodup_sub_len (l := l) (m := m.erase a) h2 fun x hx => (List.mem_erase_of_ne (fun e : x = a => h1 (e ▸ hx))).2 (hs (List.mem_cons_of_mem _ hx))
    rw [List.length_erase_of_mem ha] at this
    have := List.length_pos_of_mem ha
    rw [List.length_cons]
    omega
theorem few_length {s : DS} (h : s.Few) (hok : s.Ok) : s.files.length < 64 := by
  have hn : (s.files.map (·.name)).Nodup := Rise.nodup hok.rise
  have hs : (s.files.map (·.name)) ⊆ pressN := fun n hn => by
    obtain ⟨f, hf, rfl⟩ := List.mem_map.1 hn
    exact h f hf
  have := nodup_sub_len hn hs
  rw [List.length_map] at this
  have h6 : pressN.length = 6 := rfl
  omega
end Go.Proofs.Ytekcoeonlfmebaa.Kit
