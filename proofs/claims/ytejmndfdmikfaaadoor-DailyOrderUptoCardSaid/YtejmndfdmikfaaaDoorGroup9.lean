/- daily: a group's amounts replaced or lengthened. -/
import Derived.Test.YtejmndfdmikfaaaDoorAt9
namespace Go.Proofs.YtejmndfdmikfaaaDoor.Kit
open Go Go.RowKit

theorem set_split {α : Type} : ∀ {xs : List α} {i : Nat} {x : α}, xs[i]? = some x → ∃ l1 l2, xs = l1 ++ x :: l2 ∧ l1.length = i ∧ ∀ y, xs.set i y = l1 ++ y :: l2
  | [], i, x, h => by simp at h
  | z :: xs, 0, x, h => by
    simp only [List.getElem?_cons_zero, Option.some.injEq] at h
    subst h
    exact ⟨[], xs, rfl, rfl, fun _ => rfl⟩
  | z :: xs, i + 1, x, h => by
    rw [List.getElem?_cons_succ] at h
    obtain ⟨l1, l2, h1, h2, h3⟩ := set_split h
    exact ⟨z :: l1, l2, by rw [h1]; rfl, by rw [List.length_cons, h2], fun y => by rw [List.set_cons_succ, h3]; rfl⟩
theorem fl_set2 {gs : Gs} {i : Nat} {d : Int} {s : Sl Int} (h : gs[i]? = some (d, s)) (s' : Sl Int) : (gs.set i (d, s')).flatMap gcells = (gs.flatMap gcells).set (i * 2 + 1) s'.val := by
  obtain ⟨l1, l2, h1, h2, h3⟩ := set_split h
  have hl := flat_length gcells_len l1
  rw [h3, h1, List.flatMap_append, List.flatMap_append, List.flatMap_cons, List.flatMap_cons, List.set_append_right _ _ (by rw [hl, h2]; omega), hl, h2]
  have : i * 2 + 1 - i * 2 = 1 := by omega
  rw [this]
  rfl
theorem atSl_at (gs : Gs) (d : Int) : ∃ s, (atSl gs d)[place gs d]? = some (d, s) := by
  unfold atSl
  split
  · rename_i h
    obtain ⟨x, hx, hd⟩ := Option.map_eq_some_iff.1 h
    obtain ⟨a, b⟩ := x
    obtain rfl : a = d := hd
    exact ⟨b, hx⟩
  · refine ⟨Sl.none_, ?_⟩
    have h := place_le gs d
    rw [List.getElem?_append_right (by rw [List.length_take]; omega), List.length_take, Nat.min_eq_left h, Nat.sub_self]
    rfl
theorem abs_set {gs : Gs} {i : Nat} {d : Int} {s : Sl Int} (h : gs[i]? = some (d, s)) (s' : Sl Int) : Gs.abs (gs.set i (d, s')) = (Gs.abs gs).modify i fun x => (x.1, s'.l) := by
  apply List.ext_getElem?
  intro j
  unfold Gs.abs
  rw [List.getElem?_modify, List.getElem?_map, List.getElem?_map, List.getElem?_set]
  have hlt := (List.getElem?_eq_some_iff.1 h).1
  by_cases hij : i = j
  · subst hij
    rw [if_pos rfl, if_pos hlt, h]
    simp
  · rw [if_neg hij]
    cases gs[j]? <;> simp [hij]
theorem abs_add {gs : Gs} {d a : Int} {s s' : Sl Int} (h : (atSl gs d)[place gs d]? = some (d, s)) (hl : s'.l = s.l ++ [a]) : Gs.abs ((atSl gs d).set (place gs d) (d, s')) = addG gs.abs (d, a) := by
  rw [abs_set h, abs_at]
  unfold addG
  rw [place_abs]
  apply List.ext_getElem?
  intro j
  rw [List.getElem?_modify, List.getElem?_modify]
  by_cases hij : place gs d = j
  · subst hij
    have e : (atG gs.abs d)[place gs d]? = some (d, s.l) := by
      rw [← abs_at]
      unfold Gs.abs
      rw [List.getElem?_map, h]
      rfl
    rw [e, hl]
    simp
  · simp only [if_neg hij]
/-- The amounts of a day that is not there. -/
theorem atSl_new {gs : Gs} {d : Int} (hn : ∀ x ∈ gs, x.1 ≠ d) {s : Sl Int} (h : (atSl gs d)[place gs d]? = some (d, s)) : s = Sl.none_ := by
  unfold atSl at h
  split at h
  · rename_i h1
    obtain ⟨x, hx, hd⟩ := Option.map_eq_some_iff.1 h1
    exact absurd hd (hn x (List.mem_of_getElem? hx))
  · have hp := place_le gs d
    rw [List.getElem?_append_right (by rw [List.length_take]; omega), List.length_take, Nat.min_eq_left hp, Nat.sub_self] at h
    simp only [List.getElem?_cons_zero, Option.some.injEq, Prod.mk.injEq, true_and] at h
    exact h.symm
section
variable {w w1 : World} {b g c i : Nat} {gs : Gs} {d : Int} {s s' : Sl Int}
theorem BoxG.at_ (h : BoxG w b (some ⟨g, 0, none⟩) c gs) (hi : gs[i]? = some (d, s)) : w.cell? ⟨g, i * 2 + 1, none⟩ = some s.val ∧ w.frozen? ⟨g, i * 2 + 1, none⟩ = false := by
  refine ⟨?_, h.row.frozen _⟩
  have := flat_get gcells_len gs i 1 (d, s) hi (by decide)
  exact h.row.cell this
theorem BoxG.sl_ne (h : BoxG w b (some ⟨g, 0, none⟩) c gs) (hi : gs[i]? = some (d, s)) : ¬ Bk s.A g ∧ ¬ Bk s.A b := by
  have hm : ∀ k, Bk s.A k → k ∈ blks gs.sls := fun k hk => mem_blks.2 ⟨s, List.mem_map.2 ⟨(d, s), List.mem_of_getElem? hi, rfl⟩, hk⟩
  exact ⟨fun hk => h.row_sl (Bk.some_.2 rfl) (hm _ hk), fun hk => h.not_sl (hm _ hk)⟩
theorem BoxG.setSl (h : BoxG w b (some ⟨g, 0, none⟩) c gs) (hi : gs[i]? = some (d, s)) (hk : Kp (Bk s.A) w w1) (ho : Own w1 2 1 s'.A s'.c s'.l.length (icells s'.l)) (hA : ∀ k, Bk s'.A k → Bk s.A k ∨ ¬ Foot b (some ⟨g, 0, none⟩) gs k) :
    BoxG (w1.setCell ⟨g, i * 2 + 1, none⟩ s'.val) b (some ⟨g, 0, none⟩) c (gs.set i (d, s')) ∧ Kp (fun k => k = g ∨ Bk s.A k) w (w1.setCell ⟨g, i * 2 + 1, none⟩ s'.val) ∧ (∀ k ∈ blks (Gs.sls (gs.set i (d, s'))), k ∈ blks gs.sls ∨ Bk s'.A k) := by
  obtain ⟨l1, l2, h1, h2, h3⟩ := set_split hi
  obtain ⟨hsg, hsb⟩ := h.sl_ne hi
  have hs : gs.sls = l1.map (·.2) ++ s :: l2.map (·.2) := by rw [h1]; simp [Gs.sls]
  have hs' : Gs.sls (gs.set i (d, s')) = l1.map (·.2) ++ s' :: l2.map (·.2) := by rw [h3]; simp [Gs.sls]
  have hnd := h.apart
  rw [hs, blks_app, blks_cons] at hnd
  obtain ⟨n1, n2⟩ := List.nodup_cons.1 hnd
  obtain ⟨n3, n4, n5⟩ := List.nodup_append.1 n2
  obtain ⟨m1, m2, m3⟩ := List.nodup_append.1 n4
  obtain ⟨m4, m5, m6⟩ := List.nodup_append.1 m2
  have kset : Kp (fun k => k = g) w1 (w1.setCell ⟨g, i * 2 + 1, none⟩ s'.val) := Kp.setCell _ _ _ rfl
  have kall : Kp (fun k => k = g ∨ Bk s.A k) w (w1.setCell ⟨g, i * 2 + 1, none⟩ s'.val) := hk.trans kset (fun _ _ h => .inr h) (fun _ _ h => .inl h)
  have hgb : g ≠ b := fun e => h.not_row (e ▸ Bk.some_.2 rfl)
  have hlt := h.lt
  have inold : ∀ k, k ∈ blks (l1.map (·.2)) ∨ k ∈ blks (l2.map (·.2)) → k ∈ blks gs.sls := by
    intro k hk
    rw [hs, blks_app, blks_cons]
    rcases hk with hk | hk
    · exact List.mem_append_left _ hk
    · exact List.mem_append_right _ (List.mem_append_right _ hk)
  have snot : ∀ k, (k ∈ blks (l1.map (·.2)) ∨ k ∈ blks (l2.map (·.2))) → ¬ Bk s'.A k := by
    intro k hk hb
    rcases hA k hb with h4 | h4
    · rcases hk with hk | hk
      · exact m3 k hk k (List.mem_append_left _ (mem_bks.2 h4)) rfl
      · exact m6 k (mem_bks.2 h4) k hk rfl
    · exact h4 (.inr (.inr (inold k hk)))
  have s'g : ¬ Bk s'.A g := fun hb => by
    rcases hA g hb with h4 | h4
    · exact hsg h4
    · exact h4 (.inr (.inl (Bk.some_.2 rfl)))
  have s'b : ¬ Bk s'.A b := fun hb => by
    rcases hA b hb with h4 | h4
    · exact hsb h4
    · exact h4 (.inl rfl)
  refine ⟨⟨?_, ?_, ?_, ?_⟩, kall, ?_⟩
  · rw [List.length_set]
    exact (kall.block b (hlt b (.inl rfl)) (fun e => e.elim (fun e => hgb e.symm) hsb)).trans h.box
  · rw [List.length_set, fl_set2 hi]
    exact Own.set (h.row.kp hk fun k h5 h6 => hsg (by have e : g = k := Bk.some_.1 h5; rw [e]; exact h6)) _ _
  · intro x hx
    rw [h3] at hx
    have hcase : (x ∈ gs ∧ (∀ k, Bk x.2.A k → k ∈ blks (l1.map (·.2)) ∨ k ∈ blks (l2.map (·.2)))) ∨ x = (d, s') := by
      rcases List.mem_append.1 hx with hx | hx
      · exact .inl ⟨by rw [h1]; simp [hx], fun k hk => .inl (mem_blks.2 ⟨x.2, List.mem_map_of_mem (f := (·.2)) hx, hk⟩)⟩
      · rcases List.mem_cons.1 hx with hx | hx
        · exact .inr hx
        · exact .inl ⟨by rw [h1]; simp [hx], fun k hk => .inr (mem_blks.2 ⟨x.2, List.mem_map_of_mem (f := (·.2)) hx, hk⟩)⟩
    rcases hcase with ⟨hx, hb⟩ | rfl
    · refine (h.own x hx).kp kall fun k hk e => ?_
      rcases e with rfl | e
      · exact h.row_sl (Bk.some_.2 rfl) (inold _ (hb _ hk))
      · rcases hb k hk with hb | hb
        · exact m3 k hb k (List.mem_append_left _ (mem_bks.2 e)) rfl
        · exact m6 k (mem_bks.2 e) k hb rfl
    · exact ho.kp kset fun k hk e => s'g (e ▸ hk)
  · rw [hs', blks_app, blks_cons]
    refine List.nodup_cons.2 ⟨fun hm => ?_, List.nodup_append.2 ⟨n3, List.nodup_append.2 ⟨m1, List.nodup_append.2 ⟨bks_nodup _, m5, fun k h5 k' h6 e => ?_⟩, fun k h5 k' h6 e => ?_⟩, fun k h5 k' h6 e => ?_⟩⟩
    · rcases List.mem_append.1 hm with hm | hm
      · exact n1 (List.mem_append_left _ hm)
      · rcases List.mem_append.1 hm with hm | hm
        · exact n1 (List.mem_append_right _ (List.mem_append_left _ hm))
        · rcases List.mem_append.1 hm with hm | hm
          · exact s'b (mem_bks.1 hm)
          · exact n1 (List.mem_append_right _ (List.mem_append_right _ (List.mem_append_right _ hm)))
    · subst e
      exact snot k (.inr h6) (mem_bks.1 h5)
    · subst e
      rcases List.mem_append.1 h6 with h6 | h6
      · exact snot k (.inl h5) (mem_bks.1 h6)
      · exact m3 k h5 k (List.mem_append_right _ h6) rfl
    · subst e
      rcases List.mem_append.1 h6 with h6 | h6
      · exact n5 k h5 k (List.mem_append_left _ h6) rfl
      · rcases List.mem_append.1 h6 with h6 | h6
        · have : g = k := Bk.some_.1 (mem_bks.1 h5)
          exact s'g (this ▸ mem_bks.1 h6)
        · exact n5 k h5 k (List.mem_append_right _ (List.mem_append_right _ h6)) rfl
  · intro k hk
    rw [hs', blks_app, blks_cons] at hk
    rcases List.mem_append.1 hk with hk | hk
    · exact .inl (inold k (.inl hk))
    · rcases List.mem_append.1 hk with hk | hk
      · exact .inr (mem_bks.1 hk)
      · exact .inl (inold k (.inr hk))
end
end Go.Proofs.YtejmndfdmikfaaaDoor.Kit
