/- A region whose order is open, with a choice between two operations that write: walked both ways. -/
import Derived.Test.YtejmndfdmikfaaaDoorLine
namespace Go.Proofs.YtejmndfdmikfaaaDoor.Kit
open Go Go.RowKit

section
variable {P : Program} {ops : Array Oper} {Q : Exit → Act → World → Prop} {S : World → Prop} {opw : Nat → (Act → World → Prop) → Act → World → Prop}
/-- The ways of a region: an operation taken early, one that is done, a choice of two. -/
inductive Tr where
  | done
  | get (i : Nat) (t : Tr)
  | one (i : Nat) (t : Tr)
  | two (i : Nat) (t : Tr) (j : Nat) (u : Tr)
/-- Does nothing in it read? -/
def Tr.still (R : Nat → Bool) : Tr → Bool
  | .done => true
  | .get i t => !R i && t.still R
  | .one i t => !R i && t.still R
  | .two i t j u => !R i && t.still R && (!R j && u.still R)
def planGo2 (ops : Array Oper) : Nat → Array Bool → Option Tr
  | 0, listed => if Region.ready .any ops listed = [] then some .done else none
  | fuel + 1, listed =>
    match (Region.ready .any ops listed).find? (fun i => earlyAt ops i && Region.free .any ops listed i) with
    | some i => (planGo2 ops fuel (listed.setIfInBounds i true)).map (.get i)
    | none => match Region.ready .any ops listed with
      | [] => some .done
      | [i] => match planGo2 ops fuel (listed.setIfInBounds i true) with
        | some t => if (earlyAt ops i == false) && (needs ops (readsAt ops) i || t.still (readsAt ops)) then some (.one i t) else none
        | none => none
      | [i, j] => match planGo2 ops fuel (listed.setIfInBounds i true), planGo2 ops fuel (listed.setIfInBounds j true) with
        | some t, some u => if ((earlyAt ops i == false) && (needs ops (readsAt ops) i || t.still (readsAt ops))) && ((earlyAt ops j == false) && (needs ops (readsAt ops) j || u.still (readsAt ops))) then some (.two i t j u) else none
        | _, _ => none
      | _ => none
def plan2 (ops : Array Oper) : Option Tr := if Region.noSelect ops then planGo2 ops ops.size (Array.replicate ops.size false) else none
/-- The walk along the ways. -/
def ways (opw : Nat → (Act → World → Prop) → Act → World → Prop) (P : Program) (ops : Array Oper) (Q : Exit → Act → World → Prop) (S : World → Prop) : Tr → Act → World → Prop
  | .done, a, w => Q .normal a w
  | .get i t, a, w => ∃ o v, ops[i]? = some o ∧ YieldsIf P ops (fun w => readsAt ops i = true → S w) o v a ∧ ways opw P ops Q S t (a.put o.dst v) w
  | .one i t, a, w => opw i (fun a' w' => (needs ops (readsAt ops) i = true → S w') ∧ ways opw P ops Q S t a' w') a w
  | .two i t j u, a, w => opw i (fun a' w' => (needs ops (readsAt ops) i = true → S w') ∧ ways opw P ops Q S t a' w') a w ∧ opw j (fun a' w' => (needs ops (readsAt ops) j = true → S w') ∧ ways opw P ops Q S u a' w') a w

theorem anyL_of_ways (X : OpSem P ops opw) (hsel : Region.noSelect ops = true) :
    ∀ (fuel : Nat) (listed : Array Bool) (t : Tr) (a : Act) (w : World), Closed ops listed → planGo2 ops fuel listed = some t → (t.still (readsAt ops) = false → S w) → ways opw P ops Q S t a w →
      anyL opw ops Q S (earlyAt ops) (readsAt ops) fuel listed a w := by
  intro fuel
  induction fuel with
  | zero =>
    intro listed t a w _ hp _ h
    unfold planGo2 at hp
    split at hp
    · rename_i hr
      obtain rfl := (Option.some.inj hp).symm
      exact ⟨hr, h⟩
    · cases hp
  | succ fuel ih =>
    intro listed t a w hc hp hS h
    have key : ∀ (i : Nat) (u : Tr), i ∈ Region.ready .any ops listed → planGo2 ops fuel (listed.setIfInBounds i true) = some u → earlyAt ops i = false → (needs ops (readsAt ops) i || u.still (readsAt ops)) = true →
        opw i (fun a' w' => (needs ops (readsAt ops) i = true → S w') ∧ ways opw P ops Q S u a' w') a w →
        opw i (fun a' w' => after1 ops S (earlyAt ops) (readsAt ops) i w w' ∧ anyL opw ops Q S (earlyAt ops) (readsAt ops) fuel (listed.setIfInBounds i true) a' w') a w := by
      intro i u hm hu he hcond h
      obtain ⟨_, o', ho', hall⟩ := mem_ready.1 hm
      refine X.mono (fun a' w' h' => ⟨⟨fun h => (by rw [he] at h; cases h), fun _ => h'.1⟩, ih _ _ _ _ (closed_set hc ho' hall) hu (fun hst => ?_) h'.2⟩) h
      rcases Bool.or_eq_true _ _ ▸ hcond with hc | hc
      · exact h'.1 hc
      · rw [hc] at hst; cases hst
    unfold planGo2 at hp
    split at hp
    · rename_i i hf
      obtain ⟨rest, hrest, rfl⟩ := Option.map_eq_some_iff.1 hp
      have hm := List.mem_of_find?_eq_some hf
      have hb := List.find?_some hf
      simp only [Bool.and_eq_true] at hb
      obtain ⟨o, v, ho, hy, hl⟩ := h
      obtain ⟨_, o', ho', hall⟩ := mem_ready.1 hm
      rw [ho] at ho'
      cases ho'
      refine anyL_first X ho hb.1 (Region.noSelect_spec hsel) fuel listed a w hc (Region.free_spec ho hb.2) hm hy (fun hR => hS (by simp [Tr.still, hR])) (ih _ _ _ _ (closed_set hc ho hall) hrest (fun hst => hS ?_) hl)
      simp [Tr.still, hst]
    · split at hp
      · rename_i hr
        obtain rfl := (Option.some.inj hp).symm
        refine ⟨fun _ => h, fun i hi => ?_⟩
        rw [hr] at hi
        cases hi
      · rename_i i hr
        split at hp
        · rename_i u hu
          split at hp
          · rename_i hcond
            obtain rfl := (Option.some.inj hp).symm
            rw [Bool.and_eq_true] at hcond
            have hm : i ∈ Region.ready .any ops listed := by rw [hr]; exact List.mem_singleton.2 rfl
            refine ⟨fun h0 => (by rw [hr] at h0; cases h0), fun j hj => ?_⟩
            rw [hr] at hj
            obtain rfl := List.mem_singleton.1 hj
            exact key _ _ hm hu (by simpa using hcond.1) hcond.2 h
          · cases hp
        · cases hp
      · rename_i i j hr
        split at hp
        · rename_i u v hu hv
          split at hp
          · rename_i hcond
            obtain rfl := (Option.some.inj hp).symm
            rw [Bool.and_eq_true, Bool.and_eq_true, Bool.and_eq_true] at hcond
            have hmi : i ∈ Region.ready .any ops listed := by rw [hr]; simp
            have hmj : j ∈ Region.ready .any ops listed := by rw [hr]; simp
            refine ⟨fun h0 => (by rw [hr] at h0; cases h0), fun k hk => ?_⟩
            rw [hr] at hk
            rcases List.mem_cons.1 hk with rfl | hk
            · exact key _ _ hmi hu (by simpa using hcond.1.1) hcond.1.2 h.1
            · obtain rfl := List.mem_singleton.1 hk
              exact key _ _ hmj hv (by simpa using hcond.2.1) hcond.2.2 h.2
          · cases hp
        · cases hp
      · cases hp
theorem any_of_plan2 (S : World → Prop) {a : Act} {w : World} {t : Tr} (hp : plan2 ops = some t) (hS : S w) (h : ways (wpOp P ops (Calm Q)) P ops (Calm Q) S t a w) :
    wpAny P .any ops (Calm Q) ops.size (Array.replicate ops.size false) a w := by
  refine any_of_L (S := S) (E := earlyAt ops) (R := readsAt ops) _ _ _ _ ?_
  unfold plan2 at hp
  split at hp
  · rename_i hs
    exact anyL_of_ways (opSem_wpOp (fun _ _ _ h => h)) hs _ _ _ _ _ (closed_start ops) hp (fun _ => hS) h
  · cases hp
/-- The beginning. -/
theorem wp_region_ways (S : World → Prop) {id : Nat} {a : Act} {w : World} {t : Tr} (hm : P.follows .mixedOrders = true) (hp : plan2 ops = some t) (hS : S w.drew)
    (h : ways (wpOp P ops (Calm Q)) P ops (Calm Q) S t a w.drew) : (Code.region id ops true).wp P Q a w :=
  wp_mono (wp_region_any hm (any_of_plan2 S hp hS h)) Calm.imp
theorem ways_get {i : Nat} {t : Tr} {a : Act} {w : World} {o : Oper} (ho : ops[i]? = some o) (hw : Region.wanted o (yielded ops a.tmps) = true)
    (h : ∀ K : Act → Prop, (∀ a', ways opw P ops Q S t a' w → K a') → ∃ v, (∀ w, (readsAt ops i = true → S w) → (execOp a.eval o).run P w = .ok (.value v) w) ∧ K (a.put o.dst v)) : ways opw P ops Q S (.get i t) a w := by
  obtain ⟨v, h1, h2⟩ := h _ (fun _ h => h)
  exact ⟨o, v, ho, .inl ⟨hw, h1⟩, h2⟩
theorem ways_past {i : Nat} {t : Tr} {a : Act} {w : World} {o : Oper} (ho : ops[i]? = some o) (hw : Region.wanted o (yielded ops a.tmps) = false)
    (h : ∀ K : Act → Prop, (∀ a', ways opw P ops Q S t a' w → K a') → K (a.put o.dst undef)) : ways opw P ops Q S (.get i t) a w :=
  ⟨o, undef, ho, .inr ⟨hw, rfl⟩, h _ (fun _ h => h)⟩
theorem opw_do {i : Nat} {t : Tr} {a : Act} {w : World} {o : Oper} {Q' : Exit → Act → World → Prop} (ho : ops[i]? = some o) (hw : Region.wanted o (yielded ops a.tmps) = true)
    (h : ∀ K : Act → World → Prop, (∀ a' w', (needs ops (readsAt ops) i = true → S w') → ways (wpOp P ops Q') P ops Q S t a' w' → K a' w') → o.wp P a w K Q') :
    wpOp P ops Q' i (fun a' w' => (needs ops (readsAt ops) i = true → S w') ∧ ways (wpOp P ops Q') P ops Q S t a' w') a w := by
  unfold wpOp
  rw [ho]
  simp only [hw, if_true]
  exact .inl (h _ fun a' w' h1 h2 => ⟨h1, h2⟩)
theorem ways_one {i : Nat} {t : Tr} {a : Act} {w : World} {o : Oper} {Q' : Exit → Act → World → Prop} (ho : ops[i]? = some o) (hw : Region.wanted o (yielded ops a.tmps) = true)
    (h : ∀ K : Act → World → Prop, (∀ a' w', (needs ops (readsAt ops) i = true → S w') → ways (wpOp P ops Q') P ops Q S t a' w' → K a' w') → o.wp P a w K Q') : ways (wpOp P ops Q') P ops Q S (.one i t) a w := opw_do ho hw h
theorem ways_two {i j : Nat} {t u : Tr} {a : Act} {w : World} {oi oj : Oper} {Q' : Exit → Act → World → Prop} (hi : ops[i]? = some oi) (hwi : Region.wanted oi (yielded ops a.tmps) = true) (hj : ops[j]? = some oj) (hwj : Region.wanted oj (yielded ops a.tmps) = true)
    (h1 : ∀ K : Act → World → Prop, (∀ a' w', (needs ops (readsAt ops) i = true → S w') → ways (wpOp P ops Q') P ops Q S t a' w' → K a' w') → oi.wp P a w K Q')
    (h2 : ∀ K : Act → World → Prop, (∀ a' w', (needs ops (readsAt ops) j = true → S w') → ways (wpOp P ops Q') P ops Q S u a' w' → K a' w') → oj.wp P a w K Q') : ways (wpOp P ops Q') P ops Q S (.two i t j u) a w :=
  ⟨opw_do hi hwi h1, opw_do hj hwj h2⟩
theorem ways_done {a : Act} {w : World} (h : Q .normal a w) : ways opw P ops (Calm Q) S .done a w := h
end
end Go.Proofs.YtejmndfdmikfaaaDoor.Kit
