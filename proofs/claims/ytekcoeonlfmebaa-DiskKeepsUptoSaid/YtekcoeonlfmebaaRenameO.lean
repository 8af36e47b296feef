/- A disk in memory: a file given another name. -/
import Derived.Test.YtekcoeonlfmebaaSync
namespace Go.Proofs.Ytekcoeonlfmebaa.Kit
open Go Go.RowKit

theorem del_put {l : List (List UInt8 × Value)} {a b : Nm} {v : Value} (hab : a ≠ b) : del (put l b v) a = put (del l a) b v := by
  have hany : ((del l a).any fun x => x.1 == b) = l.any fun x => x.1 == b := by
    rw [Bool.eq_iff_iff, List.any_eq_true, List.any_eq_true]
    constructor
    · rintro ⟨x, hx, h⟩
      exact ⟨x, (List.mem_filter.1 hx).1, h⟩
    · rintro ⟨x, hx, h⟩
      refine ⟨x, List.mem_filter.2 ⟨hx, ?_⟩, h⟩
      rw [beq_iff_eq] at h
      rw [bne_iff_ne, h]
      exact fun e => hab e.symm
  unfold put
  rw [hany]
  split
  · unfold del
    rw [List.filter_map]
    have e : ((fun x : List UInt8 × Value => x.1 != a) ∘ fun x => if x.1 = b then (b, v) else x) = fun x => x.1 != a := by
      funext x
      simp only [Function.comp]
      split
      · rename_i h
        rw [h]
      · rfl
    rw [e]
  · unfold del
    rw [List.filter_append]
    congr 1
    rw [List.filter_cons_of_pos (by simpa using fun e => hab e.symm)]
    rfl
theorem put_ents {m1 m2 : List FE} {y : FE} {b : Nm} {x' : FE} (hy : y.f.name = b) (hx : x'.f.name = b) (hne : ∀ z ∈ m1 ++ m2, z.f.name ≠ b) : put ((m1 ++ y :: m2).map FE.ent) b x'.ptr = (m1 ++ x' :: m2).map FE.ent := by
  have hany : ((m1 ++ y :: m2).map FE.ent).any (fun x => x.1 == b) = true := List.any_eq_true.2 ⟨y.ent, List.mem_map.2 ⟨y, by simp, rfl⟩, by simp [FE.ent, hy]⟩
  unfold put
  rw [if_pos hany, List.map_map, List.map_append, List.map_append, List.map_cons, List.map_cons]
  have hid : ∀ {l : List FE}, (∀ z ∈ l, z.f.name ≠ b) → l.map ((fun x => if x.1 = b then (b, x'.ptr) else x) ∘ FE.ent) = l.map FE.ent := fun {l} hl => List.map_congr_left fun z hz => by
    exact if_neg (show ¬ z.ent.1 = b from hl z hz)
  rw [hid fun z hz => hne z (List.mem_append_left _ hz), hid fun z hz => hne z (List.mem_append_right _ hz)]
  simp [FE.ent, hy, hx]
theorem flat_perm {d bm : Nat} {xs ys : List FE} (h : xs.Perm ys) : (fpD d bm xs).Perm (fpD d bm ys) := ((h.flatMap_right FE.blk).cons bm).cons d
theorem at_none_ent {l : List FE} {b : Nm} (h : ∀ z ∈ l, z.f.name ≠ b) : at? (l.map FE.ent) b = none := by
  unfold at?
  have : (l.map FE.ent).find? (fun x => x.1 == b) = none := by
    rw [List.find?_eq_none]
    intro x hx
    obtain ⟨z, hz, rfl⟩ := List.mem_map.1 hx
    simpa [FE.ent] using h z hz
  rw [this]
  rfl
/-- The file x of name a is now of name b. -/
theorem DiskX.move {w w' : World} {d bm : Nat} {s s' : DS} {l1 l2 : List FE} {x : FE} {S : Nat → Prop} {b : Nm} (h : DiskX w d s bm (l1 ++ x :: l2)) (hab : x.f.name ≠ b) (hk : Kp S w w') (hS : ∀ k, S k → k = d ∨ k = bm) (hb : w'.heap[d]? = some (.cells (dcells s' bm) 69 (0, 0)))
    (hm : SMap w' bm (del (put ((l1 ++ x :: l2).map FE.ent) b x.ptr) x.f.name)) (hf : s'.files = moved x.f.name b s.files) (ok : s'.Ok) : ∃ F', DiskAt w' d s' F' ∧ Mv (fpD d bm (l1 ++ x :: l2)) F' w w' := by
  obtain ⟨n1, n2, n3⟩ := h.blk_ne
  have hne : ∀ y ∈ l1 ++ l2, y.f.name ≠ x.f.name := nodup_of_map h.names rfl
  have hin : ∀ y ∈ l1 ++ l2, y ∈ l1 ++ x :: l2 := fun y hy => by rcases List.mem_append.1 hy with hy | hy <;> simp [hy]
  rw [del_put hab, del_ents rfl hne] at hm
  have hfx : s.find x.f.name = some x.f := by
    rcases h.look x.f.name with ⟨_, h2⟩ | ⟨y, m1, m2, e, _, h3, _, h5⟩
    · have := at_none_ent (l := l1 ++ l2) hne
      rw [← del_ents (x := x) rfl hne] at this
      exact absurd h2 (by
        unfold at?
        rw [show (fun y : List UInt8 × Value => y.1 == x.f.name) = fun y => y.1 == x.f.name from rfl, List.find?_map]
        have := find_cut (x := x) hne
        rw [show ((fun y : List UInt8 × Value => y.1 == x.f.name) ∘ FE.ent) = fun y => y.f.name == x.f.name from rfl, this]
        simp)
    · have hx : x ∈ m1 ++ y :: m2 := e ▸ List.mem_append_right _ List.mem_cons_self
      rcases List.mem_append.1 hx with hx | hx
      · exact absurd rfl (h5 x (List.mem_append_left _ hx))
      · rcases List.mem_cons.1 hx with rfl | hx
        · exact h3
        · exact absurd rfl (h5 x (List.mem_append_right _ hx))
  have hzs : ((l1 ++ l2).map FE.f).Perm (outF x.f.name s.files) := by
    have e : (l1 ++ l2).map FE.f = outF x.f.name ((l1 ++ x :: l2).map FE.f) := by
      rw [List.map_append, List.map_append, List.map_cons, outF_cut rfl]
      intro g hg
      rw [← List.map_append] at hg
      obtain ⟨y, hy, rfl⟩ := List.mem_map.1 hg
      exact hne y hy
    rw [e]
    exact h.perm.filter _
  have hmv : s'.files = ins { x.f with name := b } (outF b (outF x.f.name s.files)) := by
    rw [hf]
    unfold moved
    rw [if_neg hab, show s.files.find? (fun f => f.name == x.f.name) = some x.f from hfx]
  have hfile : ∀ y ∈ l1 ++ x :: l2, y.at_ w' := fun y hy => by
    refine (h.file y hy).kp hk fun k hkk hs => ?_
    rcases List.mem_append.1 hy with hy | hy
    · exact (hS k hs).elim (n2 y (List.mem_append_left _ hy) k hkk).1 (n2 y (List.mem_append_left _ hy) k hkk).2.1
    · rcases List.mem_cons.1 hy with rfl | hy
      · exact (hS k hs).elim (n1 k hkk).1 (n1 k hkk).2
      · exact (hS k hs).elim (n2 y (List.mem_append_right _ hy) k hkk).1 (n2 y (List.mem_append_right _ hy) k hkk).2.1
  obtain ⟨x', hx'⟩ : ∃ x' : FE, x' = ⟨{ x.f with name := b }, x.b, x.A, x.c⟩ := ⟨_, rfl⟩
  have hxa : x'.at_ w' := by subst hx'; exact hfile x (by simp)
  have hxb : x'.blk = x.blk := by subst hx'; rfl
  have hxn : x'.f.name = b := by subst hx'; rfl
  have hxp : x'.ptr = x.ptr := by subst hx'; rfl
  have hxf : x'.f = { x.f with name := b } := by subst hx'; rfl
  have hperm0 : (l1 ++ l2 ++ [x]).Perm (l1 ++ x :: l2) := by
    rw [List.append_assoc]
    exact List.Perm.append_left _ List.perm_append_comm
  have hnd0 : (fpD d bm (l1 ++ l2 ++ [x'])).Nodup := by
    have e : fpD d bm (l1 ++ l2 ++ [x']) = fpD d bm (l1 ++ l2 ++ [x]) := by simp [fpD, hxb]
    rw [e]
    exact (flat_perm hperm0).nodup_iff.2 h.own
  have hsub0 : ∀ k ∈ fpD d bm (l1 ++ l2 ++ [x']), k ∈ fpD d bm (l1 ++ x :: l2) := fun k hk => by
    have e : fpD d bm (l1 ++ l2 ++ [x']) = fpD d bm (l1 ++ l2 ++ [x]) := by simp [fpD, hxb]
    rw [e] at hk
    exact (flat_perm hperm0).mem_iff.1 hk
  have hmvk : Kp (· ∈ fpD d bm (l1 ++ x :: l2)) w w' := hk.mono fun k _ hs => (hS k hs).elim (fun e => e ▸ mem_fpD.2 (.inl rfl)) (fun e => e ▸ mem_fpD.2 (.inr (.inl rfl)))
  by_cases hex : ∃ y ∈ l1 ++ l2, y.f.name = b
  · obtain ⟨y, hy, hyb⟩ := hex
    obtain ⟨m1, m2, hmm⟩ := List.append_of_mem hy
    have hnz : ((l1 ++ l2).map fun x => x.f.name).Nodup := by
      have := h.names
      have hs : ((l1 ++ l2).map fun x => x.f.name).Sublist ((l1 ++ x :: l2).map fun x => x.f.name) := ((List.Sublist.refl _).append (List.sublist_cons_self _ _)).map _
      exact hs.nodup this
    have hnb : ∀ z ∈ m1 ++ m2, z.f.name ≠ b := fun z hz e => nodup_of_map hnz hmm z hz (e.trans hyb.symm)
    rw [hmm, ← hxp, put_ents hyb hxn hnb] at hm
    have hsubl : (m1 ++ m2 ++ [x']).Sublist (l1 ++ l2 ++ [x']) := by
      rw [hmm]
      exact ((List.Sublist.refl _).append (List.sublist_cons_self _ _)).append (List.Sublist.refl _)
    have hpm : (m1 ++ x' :: m2).Perm (m1 ++ m2 ++ [x']) := by
      rw [List.append_assoc]
      exact List.Perm.append_left _ (List.perm_append_comm (l₁ := [x']))
    have hsubf : (fpD d bm (m1 ++ m2 ++ [x'])).Sublist (fpD d bm (l1 ++ l2 ++ [x'])) := by
      unfold fpD
      rw [hmm]
      simp only [List.flatMap_append, List.flatMap_cons]
      exact ((((List.Sublist.refl _).append (List.sublist_append_right _ _)).append (List.Sublist.refl _)).cons_cons bm).cons_cons d
    refine ⟨_, ⟨bm, m1 ++ x' :: m2, ⟨hb, hm, fun z hz => ?_, (flat_perm hpm).nodup_iff.2 (hsubf.nodup hnd0), ?_, ok⟩, rfl⟩, hmvk, fun k hk => .inl (hsub0 k (hsubf.subset ((flat_perm hpm).mem_iff.1 hk)))⟩
    · rcases List.mem_cons.1 ((List.perm_middle).mem_iff.1 hz) with rfl | hz
      · exact hxa
      · exact hfile z (hin z (hmm ▸ (by rcases List.mem_append.1 hz with hz | hz <;> simp [hz])))
    · have e : outF b ((l1 ++ l2).map FE.f) = (m1 ++ m2).map FE.f := by
        rw [hmm, List.map_append, List.map_cons, outF_cut hyb, List.map_append]
        intro g hg
        rw [← List.map_append] at hg
        obtain ⟨z, hz, rfl⟩ := List.mem_map.1 hg
        exact hnb z hz
      have p1 : ((m1 ++ m2).map FE.f).Perm (outF b (outF x.f.name s.files)) := e ▸ hzs.filter _
      rw [hmv, ← hxf]
      refine ((List.perm_middle (a := x')).map FE.f).trans ?_
      rw [List.map_cons]
      exact (p1.cons x'.f).trans (ins_perm _ _).symm
  · have hnb : ∀ z ∈ l1 ++ l2, z.f.name ≠ b := fun z hz e => hex ⟨z, hz, e⟩
    rw [put_new (at_none_ent hnb)] at hm
    refine ⟨_, ⟨bm, l1 ++ l2 ++ [x'], ⟨hb, ?_, fun z hz => ?_, hnd0, ?_, ok⟩, rfl⟩, hmvk, fun k hk => .inl (hsub0 k hk)⟩
    · have e : (l1 ++ l2 ++ [x']).map FE.ent = (l1 ++ l2).map FE.ent ++ [(b, x.ptr)] := by
        rw [List.map_append]
        simp [FE.ent, hxn, hxp]
      rw [e]
      exact hm
    · rcases List.mem_append.1 hz with hz | hz
      · exact hfile z (hin z hz)
      · obtain rfl := List.mem_singleton.1 hz
        exact hxa
    · have e : outF b ((l1 ++ l2).map FE.f) = (l1 ++ l2).map FE.f := List.filter_eq_self.2 fun g hg => by
        obtain ⟨z, hz, rfl⟩ := List.mem_map.1 hg
        simpa using hnb z hz
      have p1 : ((l1 ++ l2).map FE.f).Perm (outF b (outF x.f.name s.files)) := by
        have := hzs.filter (fun f => f.name != b)
        exact e ▸ this
      rw [hmv, ← hxf, List.map_append]
      exact (List.perm_append_comm (l₂ := [x'.f])).trans ((p1.cons x'.f).trans (ins_perm _ _).symm)
theorem used_moved {s : DS} (h : s.Ok) {a b : Nm} {f : Fl} (hf : s.find a = some f) (hab : a ≠ b) : usedF (moved a b s.files) + ((s.find b).map fun g => g.data.length).getD 0 = s.used := by
  have h1 := used_out h hf
  have hm : moved a b s.files = ins { f with name := b } (outF b (outF a s.files)) := by
    unfold moved
    rw [if_neg hab, show s.files.find? (fun f => f.name == a) = some f from hf]
  rw [hm, used_ins]
  have hfb : (outF a s.files).find? (fun f => f.name == b) = s.find b := by
    unfold outF DS.find
    rw [List.find?_filter]
    congr 1
    funext g
    by_cases hg : g.name = b
    · have : (g.name != a) = true := by rw [bne_iff_ne, hg]; exact fun e => hab e.symm
      rw [this]
      cases (g.name == b) <;> simp
    · have : (g.name == b) = false := by rw [beq_eq_false_iff_ne]; exact hg
      simp [this]
  cases hb : s.find b with
  | none =>
    rw [hb] at hfb
    rw [outF_none hfb]
    simp only [Option.map_none, Option.getD_none]
    omega
  | some g =>
    rw [hb] at hfb
    have h2 := used_out (h.out a) (n := b) (f := g) hfb
    have e3 : DS.used { s with files := outF a s.files } = usedF (outF a s.files) := rfl
    rw [e3] at h2
    have e4 : usedF (outF b ({ s with files := outF a s.files } : DS).files) = usedF (outF b (outF a s.files)) := rfl
    rw [e4] at h2
    simp only [Option.map_some, Option.getD_some]
    omega
end Go.Proofs.Ytekcoeonlfmebaa.Kit
