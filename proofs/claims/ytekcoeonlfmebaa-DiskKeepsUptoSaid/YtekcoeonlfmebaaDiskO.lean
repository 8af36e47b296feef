/- A disk in memory: one file changed, one taken away, one given another name. -/
import Derived.Test.YtekcoeonlfmebaaCreate
namespace Go.Proofs.Ytekcoeonlfmebaa.Kit
open Go Go.RowKit

theorem DiskX.blk_ne {w : World} {d bm : Nat} {s : DS} {l1 l2 : List FE} {x : FE} (h : DiskX w d s bm (l1 ++ x :: l2)) : (∀ k ∈ x.blk, k ≠ d ∧ k ≠ bm) ∧ (∀ y ∈ l1 ++ l2, ∀ k ∈ y.blk, k ≠ d ∧ k ≠ bm ∧ k ∉ x.blk) ∧ d ≠ bm := by
  have ho := h.own
  rw [fpD_cut] at ho
  obtain ⟨h1, h2, h3⟩ := List.nodup_append.1 ho
  obtain ⟨h4, h5, h6⟩ := List.nodup_append.1 h2
  obtain ⟨h7, h8⟩ := List.nodup_cons.1 h1
  obtain ⟨h9, h10⟩ := List.nodup_cons.1 h8
  refine ⟨fun k hk => ⟨fun e => ?_, fun e => ?_⟩, fun y hy k hk => ⟨fun e => ?_, fun e => ?_, fun e => ?_⟩, fun e => h7 (e ▸ List.mem_cons_self)⟩
  · exact h3 d List.mem_cons_self k (List.mem_append_left _ hk) e.symm
  · exact h3 bm (List.mem_cons_of_mem _ List.mem_cons_self) k (List.mem_append_left _ hk) e.symm
  · subst e
    rcases List.mem_append.1 hy with hy | hy
    · exact h7 (List.mem_cons_of_mem _ (List.mem_flatMap.2 ⟨y, hy, hk⟩))
    · exact h3 k List.mem_cons_self k (List.mem_append_right _ (List.mem_flatMap.2 ⟨y, hy, hk⟩)) rfl
  · subst e
    rcases List.mem_append.1 hy with hy | hy
    · exact h9 (List.mem_flatMap.2 ⟨y, hy, hk⟩)
    · exact h3 k (List.mem_cons_of_mem _ List.mem_cons_self) k (List.mem_append_right _ (List.mem_flatMap.2 ⟨y, hy, hk⟩)) rfl
  · rcases List.mem_append.1 hy with hy | hy
    · exact h3 k (List.mem_cons_of_mem _ (List.mem_cons_of_mem _ (List.mem_flatMap.2 ⟨y, hy, hk⟩))) k (List.mem_append_left _ e) rfl
    · exact h6 k e k (List.mem_flatMap.2 ⟨y, hy, hk⟩) rfl
theorem FE.at_.kp {w w' : World} {x : FE} {S : Nat → Prop} (h : x.at_ w) (hk : Kp S w w') (hS : ∀ k ∈ x.blk, ¬ S k) : x.at_ w' :=
  ⟨(hk.block x.b (Array.getElem?_eq_some_iff.1 h.1).1 (hS x.b List.mem_cons_self)).trans h.1, h.2.kp hk fun k hb => hS k (List.mem_cons_of_mem _ (mem_bks.2 hb))⟩

/-- One file changed, its name and its block kept. -/
theorem DiskX.upd {w w' : World} {d bm : Nat} {s s' : DS} {l1 l2 : List FE} {x x' : FE} {S : Nat → Prop} (h : DiskX w d s bm (l1 ++ x :: l2)) (hk : Kp S w w') (hS : ∀ k, S k → k = d ∨ k ∈ x.blk) (hb : w'.heap[d]? = some (.cells (dcells s' bm) 69 (0, 0)))
    (hn : x'.f.name = x.f.name) (hxb : x'.b = x.b) (hx : x'.at_ w') (hin : ∀ k, Bk x'.A k → Bk x.A k ∨ w.heap.size ≤ k) (u : Fl → Fl) (hu : x'.f = u x.f) (hf : s'.files = updF x.f.name u s.files) (ok : s'.Ok) : DiskX w' d s' bm (l1 ++ x' :: l2) := by
  obtain ⟨n1, n2, n3⟩ := h.blk_ne
  have hbm : ¬ S bm := fun hs => (hS bm hs).elim (fun e => n3 e.symm) (fun hm => (n1 bm hm).2 rfl)
  have hlt := h.lt
  refine ⟨hb, ?_, fun y hy => ?_, h.swap (blk_nodup fun hbk => ?_) (fun k hk => ?_), ?_, ok⟩
  · have e : (l1 ++ x' :: l2).map FE.ent = (l1 ++ x :: l2).map FE.ent := by
      rw [List.map_append, List.map_append, List.map_cons, List.map_cons]
      have : x'.ent = x.ent := by unfold FE.ent FE.ptr; rw [hn, hxb]
      rw [this]
    rw [e]
    exact h.map.keep (hk.block bm h.map.lt hbm)
  · rcases List.mem_append.1 hy with hy | hy
    · exact (h.file y (List.mem_append_left _ hy)).kp hk fun k hkk hs => (hS k hs).elim (n2 y (List.mem_append_left _ hy) k hkk).1 (n2 y (List.mem_append_left _ hy) k hkk).2.2
    · rcases List.mem_cons.1 hy with rfl | hy
      · exact hx
      · exact (h.file y (List.mem_append_right _ (List.mem_cons_of_mem _ hy))).kp hk fun k hkk hs => (hS k hs).elim (n2 y (List.mem_append_right _ hy) k hkk).1 (n2 y (List.mem_append_right _ hy) k hkk).2.2
  · rw [hxb] at hbk
    rcases hin _ hbk with hbk | hge
    · have := (List.nodup_append.1 (List.nodup_append.1 (fpD_cut d bm l1 l2 x ▸ h.own)).2.1).1
      exact (List.nodup_cons.1 this).1 (mem_bks.2 hbk)
    · have := hlt x.b (mem_fpD.2 (.inr (.inr ⟨x, by simp, .inl rfl⟩)))
      omega
  · rcases List.mem_cons.1 hk with rfl | hk
    · exact .inl (hxb ▸ List.mem_cons_self)
    · exact (hin k (mem_bks.1 hk)).imp (fun hb => List.mem_cons_of_mem _ (mem_bks.2 hb)) id
  · have hne : ∀ y ∈ l1 ++ l2, y.f.name ≠ x.f.name := nodup_of_map h.names rfl
    have e : (l1 ++ x' :: l2).map FE.f = updF x.f.name u ((l1 ++ x :: l2).map FE.f) := by
      rw [List.map_append, List.map_append, List.map_cons, List.map_cons, updF_cut rfl, hu]
      intro g hg
      rw [← List.map_append] at hg
      obtain ⟨y, hy, rfl⟩ := List.mem_map.1 hg
      exact hne y hy
    rw [e, hf]
    exact h.perm.map _
theorem Mv.upd {w w' : World} {d bm : Nat} {l1 l2 : List FE} {x x' : FE} {S : Nat → Prop} (hk : Kp S w w') (hS : ∀ k, S k → k = d ∨ k ∈ x.blk) (hxb : x'.b = x.b) (hin : ∀ k, Bk x'.A k → Bk x.A k ∨ w.heap.size ≤ k) : Mv (fpD d bm (l1 ++ x :: l2)) (fpD d bm (l1 ++ x' :: l2)) w w' := by
  have hx : ∀ k ∈ x.blk, k ∈ fpD d bm (l1 ++ x :: l2) := fun k hk => by rw [fpD_cut]; exact List.mem_append_right _ (List.mem_append_left _ hk)
  refine ⟨hk.mono fun k _ hs => (hS k hs).elim (fun e => e ▸ mem_fpD.2 (.inl rfl)) (hx k), fun k hk => ?_⟩
  rw [fpD_cut] at hk ⊢
  rcases List.mem_append.1 hk with hk | hk
  · exact .inl (List.mem_append_left _ hk)
  · rcases List.mem_append.1 hk with hk | hk
    · rcases List.mem_cons.1 hk with rfl | hk
      · exact .inl (List.mem_append_right _ (List.mem_append_left _ (hxb ▸ List.mem_cons_self)))
      · exact (hin k (mem_bks.1 hk)).imp (fun hb => List.mem_append_right _ (List.mem_append_left _ (List.mem_cons_of_mem _ (mem_bks.2 hb)))) id
    · exact .inl (List.mem_append_right _ (List.mem_append_right _ hk))

theorem DiskX.updAt {w w' : World} {d bm : Nat} {s s' : DS} {l1 l2 : List FE} {x x' : FE} {S : Nat → Prop} (h : DiskX w d s bm (l1 ++ x :: l2)) (hk : Kp S w w') (hS : ∀ k, S k → k = d ∨ k ∈ x.blk) (hb : w'.heap[d]? = some (.cells (dcells s' bm) 69 (0, 0)))
    (hn : x'.f.name = x.f.name) (hxb : x'.b = x.b) (hx : x'.at_ w') (hin : ∀ k, Bk x'.A k → Bk x.A k ∨ w.heap.size ≤ k) (u : Fl → Fl) (hu : x'.f = u x.f) (hf : s'.files = updF x.f.name u s.files) (ok : s'.Ok) : ∃ F', DiskAt w' d s' F' ∧ Mv (fpD d bm (l1 ++ x :: l2)) F' w w' :=
  ⟨_, ⟨bm, _, h.upd hk hS hb hn hxb hx hin u hu hf ok, rfl⟩, Mv.upd hk hS hxb hin⟩
theorem del_ents {l1 l2 : List FE} {x : FE} {n : Nm} (hn : x.f.name = n) (hne : ∀ y ∈ l1 ++ l2, y.f.name ≠ n) : del ((l1 ++ x :: l2).map FE.ent) n = (l1 ++ l2).map FE.ent := by
  have hid : ∀ {l : List FE}, (∀ y ∈ l, y.f.name ≠ n) → (l.map FE.ent).filter (fun x => x.1 != n) = l.map FE.ent := fun {l} hl => List.filter_eq_self.2 fun g hg => by
    obtain ⟨y, hy, rfl⟩ := List.mem_map.1 hg
    simpa [FE.ent] using hl y hy
  unfold del
  rw [List.map_append, List.map_cons, List.filter_append, List.filter_cons_of_neg (by simp [FE.ent, hn]), hid fun y hy => hne y (List.mem_append_left _ hy), hid fun y hy => hne y (List.mem_append_right _ hy), List.map_append]
theorem fpD_sub {d bm : Nat} {l1 l2 : List FE} {x : FE} : (fpD d bm (l1 ++ l2)).Sublist (fpD d bm (l1 ++ x :: l2)) := by
  unfold fpD
  rw [List.flatMap_append, List.flatMap_append, List.flatMap_cons]
  exact ((List.Sublist.refl _).append (List.sublist_append_right _ _)).cons_cons _ |>.cons_cons _
/-- One file taken away. -/
theorem DiskX.rem {w w' : World} {d bm : Nat} {s s' : DS} {l1 l2 : List FE} {x : FE} {S : Nat → Prop} (h : DiskX w d s bm (l1 ++ x :: l2)) (hk : Kp S w w') (hS : ∀ k, S k → k = d ∨ k = bm) (hb : w'.heap[d]? = some (.cells (dcells s' bm) 69 (0, 0)))
    (hm : SMap w' bm (del ((l1 ++ x :: l2).map FE.ent) x.f.name)) (hf : s'.files = outF x.f.name s.files) (ok : s'.Ok) : DiskX w' d s' bm (l1 ++ l2) := by
  obtain ⟨n1, n2, n3⟩ := h.blk_ne
  have hne : ∀ y ∈ l1 ++ l2, y.f.name ≠ x.f.name := nodup_of_map h.names rfl
  have hin : ∀ y ∈ l1 ++ l2, y ∈ l1 ++ x :: l2 := fun y hy => by rcases List.mem_append.1 hy with hy | hy <;> simp [hy]
  refine ⟨hb, by rwa [del_ents rfl hne] at hm, fun y hy => (h.file y (hin y hy)).kp hk fun k hkk hs => (hS k hs).elim (n2 y hy k hkk).1 (n2 y hy k hkk).2.1, fpD_sub.nodup h.own, ?_, ok⟩
  have e : (l1 ++ l2).map FE.f = outF x.f.name ((l1 ++ x :: l2).map FE.f) := by
    rw [List.map_append, List.map_append, List.map_cons, outF_cut rfl]
    intro g hg
    rw [← List.map_append] at hg
    obtain ⟨y, hy, rfl⟩ := List.mem_map.1 hg
    exact hne y hy
  rw [e, hf]
  exact h.perm.filter _
theorem DiskX.remAt {w w' : World} {d bm : Nat} {s s' : DS} {l1 l2 : List FE} {x : FE} {S : Nat → Prop} (h : DiskX w d s bm (l1 ++ x :: l2)) (hk : Kp S w w') (hS : ∀ k, S k → k = d ∨ k = bm) (hb : w'.heap[d]? = some (.cells (dcells s' bm) 69 (0, 0)))
    (hm : SMap w' bm (del ((l1 ++ x :: l2).map FE.ent) x.f.name)) (hf : s'.files = outF x.f.name s.files) (ok : s'.Ok) : ∃ F', DiskAt w' d s' F' ∧ Mv (fpD d bm (l1 ++ x :: l2)) F' w w' :=
  ⟨_, ⟨bm, _, h.rem hk hS hb hm hf ok, rfl⟩, hk.mono fun k _ hs => (hS k hs).elim (fun e => e ▸ mem_fpD.2 (.inl rfl)) (fun e => e ▸ mem_fpD.2 (.inr (.inl rfl))), fun _ hk => .inl (fpD_sub.subset hk)⟩
end Go.Proofs.Ytekcoeonlfmebaa.Kit
