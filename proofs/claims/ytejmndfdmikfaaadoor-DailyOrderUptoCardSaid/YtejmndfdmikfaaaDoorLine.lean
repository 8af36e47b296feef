/- A region whose order is open, walked once: what only computes or reads is taken as soon as it may come up; of the others there is never a choice. -/
import Derived.OrdersHeld
import Derived.Deep.RegionHeld3
import Derived.OrdersIn
import Derived.RangeFuncCalls
import Derived.Test.YtejmndfdmikfaaaDoorKit
namespace Go.Proofs.YtejmndfdmikfaaaDoor.Kit
open Go Go.RowKit

section
variable {P : Program} {ops : Array Oper} {Q : Exit → Act → World → Prop} {S : World → Prop}

/-- What an operation waits for, as the bits of a number (Region.before's own step). -/
def maskOf (acc : Array Nat) (o : Oper) : Nat := o.after.foldl (fun s e => if Region.binds .any e then s ||| 2 ^ e.on ||| acc.getD e.on 0 else s) 0
theorem before_eq (ops : Array Oper) : Region.before ops = ops.toList.foldl (fun acc o => acc.push (maskOf acc o)) #[] := by
  unfold Region.before maskOf
  rw [← Array.foldl_toList]
theorem mask_bit {acc : Array Nat} {o : Oper} {k : Nat} (h : (maskOf acc o).testBit k = true) : ∃ e ∈ o.after, Region.binds .any e = true ∧ (e.on = k ∨ (acc.getD e.on 0).testBit k = true) := by
  unfold maskOf at h
  rw [← Array.foldl_toList] at h
  have key : ∀ (l : List Edge) (s : Nat), (l.foldl (fun s e => if Region.binds .any e then s ||| 2 ^ e.on ||| acc.getD e.on 0 else s) s).testBit k = true → s.testBit k = true ∨ ∃ e ∈ l, Region.binds .any e = true ∧ (e.on = k ∨ (acc.getD e.on 0).testBit k = true) := by
    intro l
    induction l with
    | nil => intro s h; exact .inl h
    | cons e l ih =>
      intro s h
      rw [List.foldl_cons] at h
      rcases ih _ h with h | ⟨e', he', r⟩
      · split at h
        · rename_i hb
          rw [Nat.testBit_or, Nat.testBit_or, Bool.or_eq_true, Bool.or_eq_true] at h
          rcases h with (h | h) | h
          · exact .inl h
          · rw [Nat.testBit_two_pow] at h
            exact .inr ⟨e, List.mem_cons_self, hb, .inl (of_decide_eq_true h)⟩
          · exact .inr ⟨e, List.mem_cons_self, hb, .inr h⟩
        · exact .inl h
      · exact .inr ⟨e', List.mem_cons_of_mem _ he', r⟩
  rcases key _ _ h with h | ⟨e, he, r⟩
  · simp at h
  · exact ⟨e, by simpa using he, r⟩
theorem masks (l : List Oper) : ∀ (acc : Array Nat) (i v : Nat), (l.foldl (fun acc o => acc.push (maskOf acc o)) acc)[i]? = some v →
    acc[i]? = some v ∨ ∃ (o : Oper) (acc' : Array Nat), acc.size ≤ i ∧ l[i - acc.size]? = some o ∧ v = maskOf acc' o ∧ acc'.size = i ∧ ∀ (k u : Nat), acc'[k]? = some u → (l.foldl (fun acc o => acc.push (maskOf acc o)) acc)[k]? = some u := by
  induction l with
  | nil => intro acc i v h; exact .inl h
  | cons o l ih =>
    intro acc i v h
    rw [List.foldl_cons] at h
    have keep : ∀ (l : List Oper) (acc : Array Nat) (k u : Nat), acc[k]? = some u → (l.foldl (fun acc o => acc.push (maskOf acc o)) acc)[k]? = some u := by
      intro l
      induction l with
      | nil => intro acc k u h; exact h
      | cons o l ih =>
        intro acc k u h
        rw [List.foldl_cons]
        refine ih _ _ _ ?_
        rw [Array.getElem?_push, if_neg (by have := (Array.getElem?_eq_some_iff.1 h).1; omega)]
        exact h
    rcases ih _ _ _ h with h1 | ⟨o', acc', hle, ho, hv, hs, hk⟩
    · rw [Array.getElem?_push] at h1
      split at h1
      · rename_i e
        cases h1
        refine .inr ⟨o, acc, by omega, ?_, rfl, by omega, fun k u hk => ?_⟩
        · rw [show i - acc.size = 0 by omega]
          rfl
        · exact keep (o :: l) acc k u hk
      · exact .inl h1
    · rw [Array.size_push] at hle ho
      refine .inr ⟨o', acc', by omega, ?_, hv, hs, hk⟩
      rw [show i - acc.size = (i - (acc.size + 1)) + 1 by omega]
      exact ho

/-- Whatever is listed waits for what is listed alone. -/
def Closed (ops : Array Oper) (listed : Array Bool) : Prop := ∀ (k : Nat) (o : Oper), ops[k]? = some o → listed.getD k false = true → ∀ e ∈ o.after, Region.binds .any e = true → listed.getD e.on false = true

theorem before_listed {listed : Array Bool} (hc : Closed ops listed) : ∀ (n i : Nat), i ≤ n → ∀ (o : Oper), ops[i]? = some o → (∀ e ∈ o.after, Region.binds .any e = true → listed.getD e.on false = true) →
    ∀ k, ((Region.before ops).getD i 0).testBit k = true → listed.getD k false = true := by
  intro n
  induction n with
  | zero =>
    intro i hi o ho hall k hk
    obtain rfl : i = 0 := by omega
    rw [before_eq] at hk
    cases hb : (ops.toList.foldl (fun acc o => acc.push (maskOf acc o)) #[])[0]? with
    | none =>
      rw [Array.getD_eq_getD_getElem?, hb] at hk
      simp at hk
    | some v =>
      rw [Array.getD_eq_getD_getElem?, hb, Option.getD_some] at hk
      rcases masks ops.toList #[] 0 v hb with h | ⟨o', acc', _, ho', hv, hs, _⟩
      · simp at h
      · simp only [List.size_toArray, List.length_nil, Nat.sub_zero, Array.getElem?_toList] at ho'
        rw [ho] at ho'
        cases ho'
        subst hv
        obtain ⟨e, he, hbd, h | h⟩ := mask_bit hk
        · subst h
          exact hall e he hbd
        · have : acc' = #[] := Array.eq_empty_of_size_eq_zero hs
          subst this
          simp at h
  | succ n ih =>
    intro i hi o ho hall k hk
    rw [before_eq] at hk
    cases hb : (ops.toList.foldl (fun acc o => acc.push (maskOf acc o)) #[])[i]? with
    | none =>
      rw [Array.getD_eq_getD_getElem?, hb] at hk
      simp at hk
    | some v =>
      rw [Array.getD_eq_getD_getElem?, hb, Option.getD_some] at hk
      rcases masks ops.toList #[] i v hb with h | ⟨o', acc', _, ho', hv, hs, hkeep⟩
      · simp at h
      · simp only [List.size_toArray, List.length_nil, Nat.sub_zero, Array.getElem?_toList] at ho'
        rw [ho] at ho'
        cases ho'
        subst hv
        obtain ⟨e, he, hbd, h | h⟩ := mask_bit hk
        · subst h
          exact hall e he hbd
        · have hon := hall e he hbd
          cases hq : acc'[e.on]? with
          | none => simp [Array.getD_eq_getD_getElem?, hq] at h
          | some u =>
            have hlt : e.on < i := by have := (Array.getElem?_eq_some_iff.1 hq).1; omega
            rw [Array.getD_eq_getD_getElem?, hq, Option.getD_some] at h
            have hlo : e.on < ops.size := by have := (Array.getElem?_eq_some_iff.1 ho).1; omega
            refine ih e.on (by omega) ops[e.on] (Array.getElem?_eq_getElem hlo) (hc e.on _ (Array.getElem?_eq_getElem hlo) hon) k ?_
            rw [before_eq, Array.getD_eq_getD_getElem?, hkeep _ _ hq, Option.getD_some]
            exact h

/-- Is there an operation that reads and need not have come up when operation j does? -/
def needs (ops : Array Oper) (E : Nat → Bool) (j : Nat) : Bool :=
  (List.range ops.size).any fun i => E i && i != j && !((Region.before ops).getD j 0).testBit i

/-- What the walk asks of the meaning of one operation. -/
structure OpSem (P : Program) (ops : Array Oper) (opw : Nat → (Act → World → Prop) → Act → World → Prop) : Prop where
  mono : ∀ {i : Nat} {a : Act} {w : World} {K K' : Act → World → Prop}, (∀ a w, K a w → K' a w) → opw i K a w → opw i K' a w
  yields : ∀ {S : World → Prop} {i : Nat} {o : Oper} {v : Value} {a : Act} {w : World} {K : Act → World → Prop}, ops[i]? = some o → YieldsIf P ops S o v a → S w → K (a.put o.dst v) w → opw i K a w
  put : ∀ {S : World → Prop} {j : Nat} {oi oj : Oper} {v : Value} {K : Act → World → Prop} {a : Act} {w : World}, ops[j]? = some oj → oi.apart ops oj = true → (∀ cs b, oi.op ≠ .select cs b) → (∀ cs b, oj.op ≠ .select cs b) →
    YieldsIf P ops S oi v a → opw j K (a.put oi.dst v) w → opw j (fun a' w' => YieldsIf P ops S oi v a' ∧ K (a'.put oi.dst v) w') a w
variable {opw : Nat → (Act → World → Prop) → Act → World → Prop}

/-- What is asked of the world behind an operation: one that is early leaves it alone; behind another S holds where somebody may still read. -/
def after1 (ops : Array Oper) (S : World → Prop) (E R : Nat → Bool) (i : Nat) (w w' : World) : Prop := (E i = true → w' = w) ∧ (E i = false → needs ops R i = true → S w')

/-- Whatever order is picked from here on. -/
def anyL (opw : Nat → (Act → World → Prop) → Act → World → Prop) (ops : Array Oper) (Q : Exit → Act → World → Prop) (S : World → Prop) (E R : Nat → Bool) : Nat → Array Bool → Act → World → Prop
  | 0, listed, a, w => Region.ready .any ops listed = [] ∧ Q .normal a w
  | fuel + 1, listed, a, w =>
    (Region.ready .any ops listed = [] → Q .normal a w) ∧
    ∀ i ∈ Region.ready .any ops listed, opw i (fun a' w' => after1 ops S E R i w w' ∧ anyL opw ops Q S E R fuel (listed.setIfInBounds i true) a' w') a w

theorem any_of_L {E R : Nat → Bool} : ∀ (fuel : Nat) (listed : Array Bool) (a : Act) (w : World), anyL (wpOp P ops Q) ops Q S E R fuel listed a w → wpAny P .any ops Q fuel listed a w
  | 0, _, _, _, h => h
  | fuel + 1, _, _, _, h => ⟨h.1, fun i hi => wpOp_mono (fun a' w' h' => any_of_L fuel _ a' w' h'.2) (h.2 i hi)⟩
theorem anyIn_of_L {E R : Nat → Bool} {F : Fence} {n : Nat} : ∀ (fuel : Nat) (listed : Array Bool) (a : Act) (w : World), anyL (wpOpIn F n P ops Q) ops Q S E R fuel listed a w → wpAnyIn F n P .any ops Q fuel listed a w
  | 0, _, _, _, h => h
  | fuel + 1, _, _, _, h => ⟨h.1, fun i hi => wpOpIn_mono (fun a' w' h' => anyIn_of_L fuel _ a' w' h'.2) (h.2 i hi)⟩

theorem opSem_wpOp (hQ : ∀ c a w, ¬ Q (.panic c) a w) : OpSem P ops (wpOp P ops Q) where
  mono h h' := wpOp_mono h h'
  yields hi hy hS h := hy.wpOp hi hS h
  put hj hap hsi hsj hy h := wpOp_putIf hj hap hsi hsj (fun _ _ _ h => absurd h (hQ _ _ _)) hy h

theorem opIn_putIf {F : Fence} {n : Nat} (hF : ∀ f, F.fn f) (hro : F.round = none) (hQ : ∀ c a w, ¬ Q (.panic c) a w) {j : Nat} {oi oj : Oper} {v : Value} (hj : ops[j]? = some oj) (hap : oi.apart ops oj = true)
    (hsi : ∀ cs b, oi.op ≠ .select cs b) (hsj : ∀ cs b, oj.op ≠ .select cs b) {K : Act → World → Prop} {a : Act} {w : World}
    (hy : YieldsIf P ops S oi v a) (h : wpOpIn F n P ops Q j K (a.put oi.dst v) w) :
    wpOpIn F n P ops Q j (fun a' w' => YieldsIf P ops S oi v a' ∧ K (a'.put oi.dst v) w') a w := by
  obtain ⟨h1, h2, h3⟩ := Oper.apart_spec hap
  have keep : ∀ (a : Act), YieldsIf P ops S oi v a → ∀ u, YieldsIf P ops S oi v (a.put oj.dst u) := fun a hy u =>
    hy.of_same (execOp_put oi hsi a oj.dst u h3) (wanted_put oi a oj.dst u h3)
  have keepD : ∀ d, YieldsIf P ops S oi v { a with defers := d :: a.defers } := fun d => hy.of_same rfl rfl
  unfold wpOpIn at *
  simp only [hj] at *
  rw [wanted_put oj a oi.dst v h1] at h
  split
  · rename_i hw
    simp only [hw, if_true] at h
    unfold Oper.wpIn at *
    refine ⟨fun f _ => hF f, ?_⟩
    have h := h.2
    rw [hro, Oper.semAt_none, execOp_put oj hsj a oi.dst v h1] at h
    rw [hro, Oper.semAt_none]
    generalize (execOp a.eval oj).run P w = r at *
    cases r with
    | ok x w' =>
      cases x <;> simp only [Oper.uponIn] at h ⊢
      case value u => exact ⟨keep a hy u, by rw [← Act.put_comm a v u h2]; exact h⟩
      case skip => exact ⟨keep a hy _, by rw [← Act.put_comm a v undef h2]; exact h⟩
      case defer d =>
        refine ⟨keep _ (keepD d) _, ?_⟩
        rw [← Act.put_comm _ v undef h2, ← Act.put_defers]
        exact h
      case enter f args =>
        refine ⟨h.1, CallsIn.mono h.2 fun e w'' he => ?_⟩
        cases e with
        | returned u => exact ⟨keep a hy u, by rw [← Act.put_comm a v u h2]; exact he⟩
        | panicked c => exact absurd he (hQ _ _ _)
        | outgrown => exact he
      case row row args => exact ⟨h.1, RowsIn.mono h.2 fun u w'' he => ⟨keep a hy u, by rw [← Act.put_comm a v u h2]; exact he⟩⟩
      case round l f tmps assign body =>
        refine ⟨h.1, RoundIn.mono h.2 fun e w'' he => ?_⟩
        cases e with
        | returned u => exact ⟨keep a hy u, by rw [← Act.put_comm a v u h2]; exact he⟩
        | panicked c => exact absurd he (hQ _ _ _)
        | outgrown => exact he
    | halt x w' =>
      cases x <;> simp only [Oper.uponIn] at h ⊢
      case panic u => exact absurd h (hQ _ _ _)
  · rename_i hw
    simp only [hw] at h
    exact ⟨fun f _ => hF f, keep a hy _, by rw [← Act.put_comm a v undef h2]; exact h.2⟩

theorem opSem_wpOpIn {F : Fence} {n : Nat} (hF : ∀ f, F.fn f) (hro : F.round = none) (hQ : ∀ c a w, ¬ Q (.panic c) a w) : OpSem P ops (wpOpIn F n P ops Q) where
  mono h h' := wpOpIn_mono h h'
  yields hi hy hS h := by
    unfold wpOpIn
    simp only [hi]
    rcases hy with ⟨hw, hv⟩ | ⟨hw, rfl⟩
    · simp only [hw, if_true, Oper.wpIn, hro, Oper.semAt_none, hv _ hS, Oper.uponIn]
      exact ⟨fun f _ => hF f, h⟩
    · simp only [hw, Bool.false_eq_true, if_false]
      exact ⟨fun f _ => hF f, h⟩
  put hj hap hsi hsj hy h := opIn_putIf hF hro hQ hj hap hsi hsj hy h

theorem closed_set {listed : Array Bool} {j : Nat} {oj : Oper} (hc : Closed ops listed) (hoj : ops[j]? = some oj) (hall : ∀ e ∈ oj.after, Region.binds .any e = true → listed.getD e.on false = true) : Closed ops (listed.setIfInBounds j true) := by
  intro k o ho hk e he hb
  by_cases hjk : j = k
  · subst hjk
    rw [hoj] at ho
    cases ho
    exact getD_set_true (hall e he hb)
  · rw [getD_set_ne false hjk] at hk
    exact getD_set_true (hc k o ho hk e he hb)

theorem anyL_first (X : OpSem P ops opw) {E R : Nat → Bool} {i : Nat} {oi : Oper} {v : Value} (hi : ops[i]? = some oi) (hE : E i = true) (hsel : ∀ (j : Nat) (o : Oper) cs b, ops[j]? = some o → o.op ≠ .select cs b) :
    ∀ (fuel : Nat) (listed : Array Bool) (a : Act) (w : World), Closed ops listed →
      (∀ j oj, ops[j]? = some oj → j ≠ i → listed.getD j true = false → (∀ e ∈ oj.after, Region.binds .any e = true → e.on ≠ i) → oi.apart ops oj = true) →
      i ∈ Region.ready .any ops listed → YieldsIf P ops (fun w => R i = true → S w) oi v a → (R i = true → S w) →
      anyL opw ops Q S E R fuel (listed.setIfInBounds i true) (a.put oi.dst v) w → anyL opw ops Q S E R (fuel + 1) listed a w := by
  have hlt : i < ops.size := (Array.getElem?_eq_some_iff.1 hi).1
  have hself : ∀ w : World, after1 ops S E R i w w := fun w => ⟨fun _ => rfl, fun h => by rw [hE] at h; cases h⟩
  intro fuel
  induction fuel with
  | zero =>
    intro listed a w _ _ hr hy hS H
    refine ⟨fun h => (by rw [h] at hr; cases hr), fun j hj => ?_⟩
    by_cases hji : j = i
    · subst hji
      exact X.yields hi hy hS ⟨hself w, H⟩
    · have := ready_mono hj hji
      rw [H.1] at this
      cases this
  | succ fuel ih =>
    intro listed a w hc hfree hr hy hS H
    refine ⟨fun h => (by rw [h] at hr; cases hr), fun j hj => ?_⟩
    by_cases hji : j = i
    · subst hji
      exact X.yields hi hy hS ⟨hself w, H⟩
    · have h1 := H.2 j (ready_mono hj hji)
      obtain ⟨hjun, oj, hoj, hall⟩ := mem_ready.1 hj
      have hiun : listed.getD i false = false := by
        have h0 := (mem_ready.1 hr).1
        rcases Nat.lt_or_ge i listed.size with h' | h'
        · simpa [h'] using h0
        · simp [Array.getElem?_eq_none h'] at h0 ⊢
      have hnot : ∀ e ∈ oj.after, Region.binds .any e = true → e.on ≠ i := fun e he hb heq => by
        have h1 := hall e he hb
        rw [heq, hiun] at h1
        cases h1
      have h2 := X.put hoj (hfree j oj hoj hji hjun hnot) (fun cs b => hsel i oi cs b hi) (fun cs b => hsel j oj cs b hoj) hy h1
      have hn : R i = true → needs ops R j = true := fun hR => by
        unfold needs
        rw [List.any_eq_true]
        refine ⟨i, List.mem_range.2 hlt, ?_⟩
        have hb : ((Region.before ops).getD j 0).testBit i = false := by
          cases hb : ((Region.before ops).getD j 0).testBit i with
          | false => rfl
          | true =>
            have := before_listed hc j j (Nat.le_refl _) oj hoj hall i hb
            rw [hiun] at this
            cases this
        rw [hb]
        simp [hR, Ne.symm hji]
      have hfree' : ∀ k ok, ops[k]? = some ok → k ≠ i → (listed.setIfInBounds j true).getD k true = false →
          (∀ e ∈ ok.after, Region.binds .any e = true → e.on ≠ i) → oi.apart ops ok = true := fun k ok hk hki hun hno => by
        refine hfree k ok hk hki ?_ hno
        by_cases hjk : j = k
        · subst hjk; exact hjun
        · rw [getD_set_ne true hjk] at hun; exact hun
      refine X.mono (fun a' w' h3 => ⟨h3.2.1, ih (listed.setIfInBounds j true) a' w' (closed_set hc hoj hall) hfree' (ready_mono hr (Ne.symm hji)) h3.1 (fun hR => ?_) ?_⟩) h2
      · cases hEj : E j with
        | true => rw [h3.2.1.1 hEj]; exact hS hR
        | false => exact h3.2.1.2 hEj (hn hR)
      · rw [Array.setIfInBounds_comm _ _ hji]
        exact h3.2.2

/-! ### The plan -/
/-- Does the operation only compute or read? -/
def early : Op → Bool
  | .move _ | .assign _ | .pick _ _ _ | .load _ _ | .nilCheck _ | .binOp _ _ _ _ _ | .unOp _ _ _ | .convert _ _ _ | .fieldAddr _ _ _ | .field _ _ _ | .indexAddr _ _ _ | .index _ _ _ | .lookup _ _ _ _
  | .extract _ _ | .slice _ _ _ _ _ | .makeInterface _ _ | .build _ _ | .typeAssert _ _ _ _ => true
  | .call c => match c.callee with
    | .builtin .len | .builtin .cap | .builtin .min | .builtin .max => true
    | _ => false
  | _ => false
def earlyAt (ops : Array Oper) (i : Nat) : Bool := ((ops[i]?).map fun o => early o.op).getD false
/-- Does it read the world? -/
def reads : Op → Bool
  | .load _ _ | .convert _ _ _ | .lookup _ _ _ _ | .index _ _ _ | .binOp _ _ _ _ _ => true
  | .call _ => true
  | _ => false
def readsAt (ops : Array Oper) (i : Nat) : Bool := ((ops[i]?).map fun o => early o.op && (match o.op with | .binOp _ _ _ _ _ => false | .call c => (match c.callee with | .builtin .len | .builtin .cap | .builtin .min | .builtin .max => false | _ => true) | op => reads op)).getD false

/-- The order in which the region is walked: number by number, and whether it is taken early; none: there is a choice. -/
def planGo (ops : Array Oper) : Nat → Array Bool → Option (List (Nat × Bool))
  | 0, listed => if Region.ready .any ops listed = [] then some [] else none
  | fuel + 1, listed =>
    match (Region.ready .any ops listed).find? (fun i => earlyAt ops i && Region.free .any ops listed i) with
    | some i => (planGo ops fuel (listed.setIfInBounds i true)).map ((i, true) :: ·)
    | none => match Region.ready .any ops listed with
      | [] => some []
      | [i] => match planGo ops fuel (listed.setIfInBounds i true) with
        | some rest => if (earlyAt ops i == false) && (needs ops (readsAt ops) i || rest.all (fun x => !readsAt ops x.1)) then some ((i, false) :: rest) else none
        | none => none
      | _ => none
def plan (ops : Array Oper) : Option (List (Nat × Bool)) := if Region.noSelect ops then planGo ops ops.size (Array.replicate ops.size false) else none

/-- The walk along the plan. -/
def line (opw : Nat → (Act → World → Prop) → Act → World → Prop) (P : Program) (ops : Array Oper) (Q : Exit → Act → World → Prop) (S : World → Prop) : List (Nat × Bool) → Act → World → Prop
  | [], a, w => Q .normal a w
  | (i, true) :: rest, a, w => ∃ o v, ops[i]? = some o ∧ YieldsIf P ops (fun w => readsAt ops i = true → S w) o v a ∧ line opw P ops Q S rest (a.put o.dst v) w
  | (i, false) :: rest, a, w => opw i (fun a' w' => (needs ops (readsAt ops) i = true → S w') ∧ line opw P ops Q S rest a' w') a w

theorem anyL_of_line (X : OpSem P ops opw) (hsel : Region.noSelect ops = true) :
    ∀ (fuel : Nat) (listed : Array Bool) (pl : List (Nat × Bool)) (a : Act) (w : World), Closed ops listed → planGo ops fuel listed = some pl → ((pl.any fun x => readsAt ops x.1) = true → S w) → line opw P ops Q S pl a w →
      anyL opw ops Q S (earlyAt ops) (readsAt ops) fuel listed a w := by
  intro fuel
  induction fuel with
  | zero =>
    intro listed pl a w _ hp _ h
    unfold planGo at hp
    split at hp
    · rename_i hr
      obtain rfl := (Option.some.inj hp).symm
      exact ⟨hr, h⟩
    · cases hp
  | succ fuel ih =>
    intro listed pl a w hc hp hS h
    unfold planGo at hp
    split at hp
    · rename_i i hf
      obtain ⟨rest, hrest, rfl⟩ := Option.map_eq_some_iff.1 hp
      have hm := List.mem_of_find?_eq_some hf
      have hb := List.find?_some hf
      simp only [Bool.and_eq_true] at hb
      obtain ⟨o, v, ho, hy, hl⟩ := h
      obtain ⟨_, o', ho', hall⟩ := mem_ready.1 hm
      rw [ho] at ho'
      cases ho'
      refine anyL_first X ho hb.1 (Region.noSelect_spec hsel) fuel listed a w hc (Region.free_spec ho hb.2) hm hy (fun hR => hS (by simp [hR])) (ih _ _ _ _ (closed_set hc ho hall) hrest (fun hany => hS ?_) hl)
      rw [List.any_cons, hany, Bool.or_true]
    · split at hp
      · rename_i hr
        obtain rfl := (Option.some.inj hp).symm
        refine ⟨fun _ => h, fun i hi => ?_⟩
        rw [hr] at hi
        cases hi
      · rename_i i hr
        split at hp
        · rename_i rest hrest
          split at hp
          · rename_i hcond
            obtain rfl := (Option.some.inj hp).symm
            rw [Bool.and_eq_true] at hcond
            have he : earlyAt ops i = false := by simpa using hcond.1
            have hm : i ∈ Region.ready .any ops listed := by rw [hr]; exact List.mem_singleton.2 rfl
            obtain ⟨_, o', ho', hall⟩ := mem_ready.1 hm
            refine ⟨fun h0 => (by rw [hr] at h0; cases h0), fun j hj => ?_⟩
            rw [hr] at hj
            obtain rfl := List.mem_singleton.1 hj
            refine X.mono (fun a' w' h' => ⟨⟨fun h => (by rw [he] at h; cases h), fun _ => h'.1⟩, ih _ _ _ _ (closed_set hc ho' hall) hrest (fun hany => ?_) h'.2⟩) h
            rcases Bool.or_eq_true _ _ ▸ hcond.2 with hc | hc
            · exact h'.1 hc
            · rw [List.any_eq_true] at hany
              obtain ⟨x, hx, hx2⟩ := hany
              have := List.all_eq_true.1 hc x hx
              simp [hx2] at this
          · cases hp
        · cases hp
      · cases hp

theorem closed_start (ops : Array Oper) : Closed ops (Array.replicate ops.size false) := by
  intro k o _ hk
  rw [Array.getD_eq_getD_getElem?, Array.getElem?_replicate] at hk
  split at hk <;> cases hk

/-- The region neither panics nor grows too great. -/
def Calm (Q : Exit → Act → World → Prop) : Exit → Act → World → Prop
  | .panic _, _, _ => False
  | .outgrown, _, _ => False
  | e, a, w => Q e a w
theorem Calm.imp {Q : Exit → Act → World → Prop} : ∀ e a w, Calm Q e a w → Q e a w := fun e a w h => by
  cases e <;> first | exact h | exact h.elim

theorem any_of_plan (S : World → Prop) {a : Act} {w : World} {pl : List (Nat × Bool)} (hp : plan ops = some pl) (hS : S w) (h : line (wpOp P ops (Calm Q)) P ops (Calm Q) S pl a w) :
    wpAny P .any ops (Calm Q) ops.size (Array.replicate ops.size false) a w := by
  refine any_of_L (S := S) (E := earlyAt ops) (R := readsAt ops) _ _ _ _ ?_
  unfold plan at hp
  split at hp
  · rename_i hs
    exact anyL_of_line (opSem_wpOp (fun _ _ _ h => h)) hs _ _ _ _ _ (closed_start ops) hp (fun _ => hS) h
  · cases hp
theorem anyIn_of_plan {F : Fence} {n : Nat} (hF : ∀ f, F.fn f) (hro : F.round = none) (S : World → Prop) {a : Act} {w : World} {pl : List (Nat × Bool)} (hp : plan ops = some pl) (hS : S w)
    (h : line (wpOpIn F n P ops (Calm Q)) P ops (Calm Q) S pl a w) : wpAnyIn F n P .any ops (Calm Q) ops.size (Array.replicate ops.size false) a w := by
  refine anyIn_of_L (S := S) (E := earlyAt ops) (R := readsAt ops) _ _ _ _ ?_
  unfold plan at hp
  split at hp
  · rename_i hs
    exact anyL_of_line (opSem_wpOpIn hF hro (fun _ _ _ h => h)) hs _ _ _ _ _ (closed_start ops) hp (fun _ => hS) h
  · cases hp

/-- The beginning. -/
theorem wp_region_line (S : World → Prop) {id : Nat} {a : Act} {w : World} {pl : List (Nat × Bool)} (hm : P.follows .mixedOrders = true) (hp : plan ops = some pl) (hS : S w.drew)
    (h : line (wpOp P ops (Calm Q)) P ops (Calm Q) S pl a w.drew) : (Code.region id ops true).wp P Q a w :=
  wp_mono (wp_region_any hm (any_of_plan S hp hS h)) Calm.imp
/-- The beginning, in the wide fence. -/
theorem wpIn_region_lineW (S : World → Prop) {id n : Nat} {a : Act} {w : World} {pl : List (Nat × Bool)} (hm : P.follows .mixedOrders = true) (hp : plan ops = some pl) (hS : S w.drew)
    (h : line (wpOpIn Fence.wide n P ops (Calm Q)) P ops (Calm Q) S pl a w.drew) : (Code.region id ops true).wpIn Fence.wide n P Q a w :=
  wpIn_mono (wpIn_region_any hm (anyIn_of_plan (fun _ => trivial) rfl S hp hS h)) Calm.imp

theorem line_take {i : Nat} {rest : List (Nat × Bool)} {a : Act} {w : World} {o : Oper} {v : Value} (ho : ops[i]? = some o) (hw : Region.wanted o (yielded ops a.tmps) = true)
    (hv : ∀ w, (readsAt ops i = true → S w) → (execOp a.eval o).run P w = .ok (.value v) w) (h : line opw P ops Q S rest (a.put o.dst v) w) : line opw P ops Q S ((i, true) :: rest) a w := ⟨o, v, ho, .inl ⟨hw, hv⟩, h⟩
/-- The same, what follows behind a letter: so the frame is laid out anew. -/
theorem line_get {i : Nat} {rest : List (Nat × Bool)} {a : Act} {w : World} {o : Oper} (ho : ops[i]? = some o) (hw : Region.wanted o (yielded ops a.tmps) = true)
    (h : ∀ K : Act → Prop, (∀ a', line opw P ops Q S rest a' w → K a') → ∃ v, (∀ w, (readsAt ops i = true → S w) → (execOp a.eval o).run P w = .ok (.value v) w) ∧ K (a.put o.dst v)) : line opw P ops Q S ((i, true) :: rest) a w := by
  obtain ⟨v, h1, h2⟩ := h _ (fun _ h => h)
  exact ⟨o, v, ho, .inl ⟨hw, h1⟩, h2⟩
theorem line_past {i : Nat} {rest : List (Nat × Bool)} {a : Act} {w : World} {o : Oper} (ho : ops[i]? = some o) (hw : Region.wanted o (yielded ops a.tmps) = false)
    (h : ∀ K : Act → Prop, (∀ a', line opw P ops Q S rest a' w → K a') → K (a.put o.dst undef)) : line opw P ops Q S ((i, true) :: rest) a w :=
  ⟨o, undef, ho, .inr ⟨hw, rfl⟩, h _ (fun _ h => h)⟩
theorem line_pass {i : Nat} {rest : List (Nat × Bool)} {a : Act} {w : World} {o : Oper} (ho : ops[i]? = some o) (hw : Region.wanted o (yielded ops a.tmps) = false)
    (h : line opw P ops Q S rest (a.put o.dst undef) w) : line opw P ops Q S ((i, true) :: rest) a w := ⟨o, undef, ho, .inr ⟨hw, rfl⟩, h⟩
theorem line_do {i : Nat} {rest : List (Nat × Bool)} {a : Act} {w : World} {o : Oper} {Q' : Exit → Act → World → Prop} (ho : ops[i]? = some o) (hw : Region.wanted o (yielded ops a.tmps) = true)
    (h : ∀ K : Act → World → Prop, (∀ a' w', (needs ops (readsAt ops) i = true → S w') → line (wpOp P ops Q') P ops Q S rest a' w' → K a' w') → o.wp P a w K Q') : line (wpOp P ops Q') P ops Q S ((i, false) :: rest) a w := by
  unfold line wpOp
  rw [ho]
  simp only [hw, if_true]
  exact .inl (h _ fun a' w' h1 h2 => ⟨h1, h2⟩)
theorem line_doIn {F : Fence} {n i : Nat} {rest : List (Nat × Bool)} {a : Act} {w : World} {o : Oper} {Q' : Exit → Act → World → Prop} (ho : ops[i]? = some o) (hw : Region.wanted o (yielded ops a.tmps) = true)
    (h : ∀ K : Act → World → Prop, (∀ a' w', (needs ops (readsAt ops) i = true → S w') → line (wpOpIn F n P ops Q') P ops Q S rest a' w' → K a' w') → o.wpIn F n P a w K Q') : line (wpOpIn F n P ops Q') P ops Q S ((i, false) :: rest) a w := by
  unfold line wpOpIn
  rw [ho]
  simp only [hw, if_true]
  exact h _ fun a' w' h1 h2 => ⟨h1, h2⟩
theorem line_miss {i : Nat} {rest : List (Nat × Bool)} {a : Act} {w : World} {o : Oper} {Q' : Exit → Act → World → Prop} (ho : ops[i]? = some o) (hw : Region.wanted o (yielded ops a.tmps) = false)
    (hS : needs ops (readsAt ops) i = true → S w) (h : line (wpOp P ops Q') P ops Q S rest (a.put o.dst undef) w) : line (wpOp P ops Q') P ops Q S ((i, false) :: rest) a w := by
  unfold line wpOp
  rw [ho]
  simp only [hw, Bool.false_eq_true, if_false]
  exact ⟨hS, h⟩
theorem line_missIn {F : Fence} {n i : Nat} {rest : List (Nat × Bool)} {a : Act} {w : World} {o : Oper} {Q' : Exit → Act → World → Prop} (hF : ∀ f, F.fn f) (ho : ops[i]? = some o) (hw : Region.wanted o (yielded ops a.tmps) = false)
    (hS : needs ops (readsAt ops) i = true → S w) (h : line (wpOpIn F n P ops Q') P ops Q S rest (a.put o.dst undef) w) : line (wpOpIn F n P ops Q') P ops Q S ((i, false) :: rest) a w := by
  unfold line wpOpIn
  rw [ho]
  simp only [hw, Bool.false_eq_true, if_false]
  exact ⟨fun f _ => hF f, hS, h⟩
theorem no_need {R : Nat → Bool} {i : Nat} {X : Prop} (h : needs ops R i = false) : needs ops R i = true → X := fun h' => by rw [h] at h'; cases h'
theorem line_nil {a : Act} {w : World} (h : Q .normal a w) : line opw P ops (Calm Q) S [] a w := h
end

/-! ### A region in the round of a range over a function -/
theorem opIn_of_op {l n : Nat} {P : Program} {o : Oper} {a : Act} {w : World} {K : Act → World → Prop} {Q : Exit → Act → World → Prop} (hdef : ∀ c, o.op ≠ .defer c) (h : o.wp P a w K Q) :
    o.wpIn (Fence.wide.inRound l) n P a w K Q := by
  refine ⟨fun _ _ => trivial, ?_⟩
  rw [Oper.semAt_eq _ _ _ hdef]
  unfold Oper.wp at h
  generalize (execOp a.eval o).run P w = r at *
  cases r with
  | ok x w' =>
    cases x <;> simp only [Oper.upon] at h <;> simp only [Oper.uponIn]
    case value => exact h
    case skip => exact h
    case defer => exact h
    case enter f args => exact ⟨fun e => (by cases e), CallsIn.inRound l (callsIn_wide.2 h)⟩
    case row row args => exact ⟨fun e => (by cases e), fun c cs _ => by obtain ⟨v, w', r, s⟩ := h c cs; exact ⟨v, w', r, stepsIn_wide.2 s⟩⟩
  | halt x w' => cases x <;> simp only [Oper.upon] at h <;> simp only [Oper.uponIn] <;> exact h

theorem anyIn_of_any {l n : Nat} {P : Program} {ops : Array Oper} {Q : Exit → Act → World → Prop} {md : Region.Mode} (hdef : ∀ (i : Nat) (o : Oper) (c : Call), ops[i]? = some o → o.op ≠ .defer c) (hQ : ¬ LetsOut Q) :
    ∀ (fuel : Nat) (listed : Array Bool) (a : Act) (w : World), wpAny P md ops Q fuel listed a w → wpAnyIn (Fence.wide.inRound l) n P md ops Q fuel listed a w
  | 0, _, _, _, h => h
  | fuel + 1, listed, a, w, h => ⟨h.1, fun i hi => by
      have h1 := wpOp_mono (fun a' w' h' => anyIn_of_any (l := l) (n := n) hdef hQ fuel _ a' w' h') (h.2 i hi)
      unfold wpOp at h1
      unfold wpOpIn
      split
      · rename_i ho
        simp only [ho] at h1
        exact h1
      · rename_i o ho
        simp only [ho] at h1
        split
        · rename_i hw
          simp only [hw, if_true] at h1
          rcases h1 with h1 | h1
          · exact opIn_of_op (fun c => hdef i o c ho) h1
          · exact absurd h1.2 hQ
        · rename_i hw
          simp only [hw] at h1
          exact ⟨fun _ _ => trivial, h1⟩⟩

def noDefer (ops : Array Oper) : Bool := ops.all fun o => match o.op with | .defer _ => false | _ => true
theorem noDefer_spec {ops : Array Oper} (h : noDefer ops = true) (i : Nat) (o : Oper) (c : Call) (ho : ops[i]? = some o) : o.op ≠ .defer c := by
  intro heq
  have := Array.all_eq_true_iff_forall_mem.1 h o (Array.mem_of_getElem? ho)
  simp [heq] at this

/-- The beginning, in a round. -/
theorem wpIn_region_line {P : Program} {ops : Array Oper} {Q : Exit → Act → World → Prop} (S : World → Prop) {l n id : Nat} {a : Act} {w : World} {pl : List (Nat × Bool)} (hm : P.follows .mixedOrders = true) (hp : plan ops = some pl) (hd : noDefer ops = true) (hS : S w.drew)
    (h : line (wpOp P ops (Calm Q)) P ops (Calm Q) S pl a w.drew) : (Code.region id ops true).wpIn (Fence.wide.inRound l) n P Q a w :=
  wpIn_mono (wpIn_region_any hm (anyIn_of_any (noDefer_spec hd) (fun ⟨_, _, h⟩ => h) _ _ _ _ (any_of_plan S hp hS h))) Calm.imp
end Go.Proofs.YtejmndfdmikfaaaDoor.Kit
