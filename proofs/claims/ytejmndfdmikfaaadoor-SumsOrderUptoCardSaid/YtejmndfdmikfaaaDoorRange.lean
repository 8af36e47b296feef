/- A loop over an iterator that keeps state of its own in blocks of its own (C); the body changes blocks T alone, and is left by its end alone. -/
import Derived.RangeFuncCalls
import Derived.RangeFuncLeaves
import Derived.RangeFuncFrom
import Derived.RangeFuncBox
import Derived.Test.YtejmndfdmikfaaaDoorOwn
namespace Go.Proofs.YtejmndfdmikfaaaDoor.Kit
open Go Go.RowKit

theorem Kp.putObj (w : World) (l : Nat) (o : Obj) : Kp (fun k => k = l) w (w.putObj l o) :=
  ⟨rfl, rfl, rfl, by simp [World.putObj], fun k _ hk => World.putObj_heap_other hk⟩
theorem Boxed.kp {S : Nat → Prop} {w w' : World} {B : Nat} {t : TypeId} {v : Value} (h : Boxed w B t v) (hk : Kp S w w') (hS : ¬ S B) : Boxed w' B t v := (hk.block B h.lt hS).trans h
/-- How a round is left: by its end alone. -/
def stPost {α : Type} (T : Nat → Prop) (I : List α → World → Prop) (xs : List α) (W : World) : Exit → Act → World → Prop
  | .normal, _, W' => Kp T W W' ∧ I xs W'
  | _, _, _ => False

theorem wpIn_range_state {F : Fence} {n : Nat} {P : Program} {α : Type} {g : Operand} {ps : Array Tmp} {assign body : Code} {Q : Exit → Act → World → Prop} {a : Act} {w : World}
    (hro : F.round = none) (h1 : 1 ≤ n) {gf : Nat} {lb : Array Value} (hg : a.eval g = .func (.func gf) #[] lb) (hFg : F.fn gf) (eg : ∀ args w, (callFunc gf args).run P w = .ok (.enter gf args) w)
    {encs : α → Array Value} (hps : ∀ x, (encs x).size = ps.size) {C T : Nat → Prop} (hC : ∀ k, C k → k < w.heap.size) (hT : ∀ k, T k → k < w.heap.size) {S : List α → Prop}
    (hseq : ∀ (l : Nat) (J : List α → World → Prop) (W : World), New w W → (∀ s W W', J s W → Kp C W W' → J s W') →
      (∀ pre x rest W1, S (pre ++ x :: rest) → J pre W1 → YieldAt F (n - 1 - 1) P l (encs x) W1 fun e W' => e = .returned (.bool true) ∧ J (pre ++ [x]) W' ∧ Kp (fun k => T k ∨ k = w.heap.size + 1) W1 W') →
      J [] W → CallsIn F (n - 1) P gf (#[.func (.yield l) #[] #[]] ++ lb) W fun e W' => (∃ v, e = .returned v) ∧ ∃ xs, S xs ∧ J xs W')
    (I : List α → World → Prop) (hI : ∀ s W W', I s W → Kp (fun k => C k ∨ k = w.heap.size ∨ k = w.heap.size + 1) W W' → I s W') (h0 : I [] w) (a₁ : α → Act)
    (hassign : ∀ (l : Nat) (x : α) (W : World) (K : Act → World → Prop), K (a₁ x) W →
      assign.wpIn (F.inRound l) (n - 1 - 1) P (Exit.then K (fun _ _ _ => False)) { tmps := (ps.zip (encs x)).foldl (fun t (p, v) => t.setIfInBounds p v) a.tmps, defers := [] } W)
    (hbody : ∀ (l : Nat) (pre : List α) (x : α) (rest : List α) (W : World), S (pre ++ x :: rest) → I pre W → w.heap.size + 2 ≤ W.heap.size → body.wpIn (F.inRound l) (n - 1 - 1) P (stPost T I (pre ++ [x]) W) (a₁ x) W)
    (hdone : ∀ (xs : List α) (W : World), S xs → I xs W → w.heap.size + 2 ≤ W.heap.size → W.heap[w.heap.size]? = some (.deferred (some [])) → Q .normal { a with defers := { target := .collected w.heap.size, args := #[] } :: a.defers } W) :
    (Code.rangeFunc g ps assign body).wpIn F n P Q a w := by
  refine wpIn_rangeFunc ?_
  intro fn hfn
  rw [hro]
  obtain ⟨B, hB⟩ : ∃ B, w.heap.size = B := ⟨_, rfl⟩
  obtain ⟨rec, hrec⟩ : ∃ rec : LoopState → Loop, rec = fun st => { state := st, pending := none, fn, tmps := a.tmps, params := ps, assign, body, defers := B } := ⟨_, rfl⟩
  obtain ⟨W1, hW1⟩ : ∃ W1, (w.alloc (.deferred (some []))).alloc (.loop (rec .ready)) = W1 := ⟨_, rfl⟩
  have k1 : New w W1 := hW1 ▸ (Kp.alloc _ _ _).trans (Kp.alloc _ _ _) (fun _ _ h => h) (fun _ _ h => h)
  have l1 : W1.heap[B + 1]? = some (.loop (rec .ready)) := by
    rw [← hW1, ← hB]
    have := heap_alloc_new (w.alloc (.deferred (some []))) (.loop (rec .ready))
    rwa [World.size_alloc] at this
  have d1 : W1.heap[B]? = some (.deferred (some [])) := by
    rw [← hW1, ← hB]
    exact (Below.heap_alloc _ _ _ (by simp)).trans (heap_alloc_new w _)
  have nC : ¬ C B ∧ ¬ C (B + 1) := ⟨fun h => by have := hC _ h; omega, fun h => by have := hC _ h; omega⟩
  have nT : ¬ T B ∧ ¬ T (B + 1) := ⟨fun h => by have := hT _ h; omega, fun h => by have := hT _ h; omega⟩
  have hen : (Instr.enterLoop fn a.tmps ps assign body none).run P w = .ok (B + 1, [{ target := .collected B, args := #[] }]) W1 := by
    rw [← hW1, hrec, ← hB]
    exact run_enterLoop_outer _ _ _ _ _
  have hcall := hseq (B + 1) (fun pre W => I pre W ∧ W.heap[B + 1]? = some (.loop (rec .ready)) ∧ W.heap[B]? = some (.deferred (some []))) W1 k1
    (fun s W W' hs hk => ⟨hI s W W' hs.1 (hk.mono fun _ _ h => .inl h), (hk.block _ (Array.getElem?_eq_some_iff.1 hs.2.1).1 nC.2).trans hs.2.1, (hk.block _ (Array.getElem?_eq_some_iff.1 hs.2.2).1 nC.1).trans hs.2.2⟩)
    (fun pre x rest W hS hs => by
      obtain ⟨hi, hl, hd⟩ := hs
      have hlt := (Array.getElem?_eq_some_iff.1 hl).1
      have hdt := (Array.getElem?_eq_some_iff.1 hd).1
      have hy := run_yield (P := P) (args := encs x) hl (by rw [hrec]; exact hps x)
      rw [hrec] at hy
      refine ⟨fn, _, assign, body, hy, roundIn_of_wpIn hfn (hassign _ x W _ ⟨_, run_beginRound hl (by rw [hrec]), ?_⟩)⟩
      obtain ⟨W2, hW2⟩ : ∃ W2, W.putObj (B + 1) (.loop { rec .ready with state := .busy }) = W2 := ⟨_, rfl⟩
      have k2 : Kp (fun k => k = B + 1) W W2 := hW2 ▸ Kp.putObj _ _ _
      have l2 : W2.heap[B + 1]? = some (.loop { rec .ready with state := .busy }) := hW2 ▸ World.putObj_heap_same hlt
      have d2 : W2.heap[B]? = some (.deferred (some [])) := (k2.block _ hdt (by omega)).trans hd
      rw [hW2]
      have hi2 : I pre W2 := hI _ _ _ hi (k2.mono fun _ _ h => .inr (.inr (by omega)))
      refine wpIn_mono (hbody _ pre x rest W2 hS hi2 (by have := k2.size; omega)) ?_
      rintro e a3 W3 hp
      cases e with
      | normal =>
        obtain ⟨k3, hi3⟩ := hp
        have l3 : W3.heap[B + 1]? = some (.loop { rec .ready with state := .busy }) := (k3.block _ (Array.getElem?_eq_some_iff.1 l2).1 nT.2).trans l2
        have d3 : W3.heap[B]? = some (.deferred (some [])) := (k3.block _ (Array.getElem?_eq_some_iff.1 d2).1 nT.1).trans d2
        have hend := run_endRound (P := P) none l3
        refine ⟨_, _, hend, rfl, ⟨hI _ _ _ hi3 ((Kp.putObj _ _ _).mono fun _ _ h => .inr (.inr (by omega))), ?_, ?_⟩, ?_⟩
        · rw [World.putObj_heap_same (Array.getElem?_eq_some_iff.1 l3).1, hrec]
          rfl
        · exact (World.putObj_heap_other (by omega)).trans d3
        · exact (k2.trans (k3.trans (Kp.putObj _ _ _) (U := fun k => T k ∨ k = w.heap.size + 1) (fun _ _ h => .inl h) (fun _ _ h => .inr (by omega))) (fun _ _ h => .inr (by omega)) (fun _ _ h => h))
      | ret => exact hp.elim
      | exit id => exact hp.elim
      | goto t => exact hp.elim
      | panic ch => exact hp.elim
      | outgrown => exact hp.elim)
    ⟨hI _ _ _ h0 (k1.mono fun _ _ h => h.elim), l1, d1⟩
  refine ⟨B + 1, [{ target := .collected B, args := #[] }], W1, { target := .fn (.func gf) lb, args := #[.func (.yield (B + 1)) #[] #[]] }, W1, gf, #[.func (.yield (B + 1)) #[] #[]] ++ lb, W1, hen, ?_, ?_, ?_, fun _ => h1, ?_⟩
  · simp only [resolve, hg]
    simp [go_sem]
  · intro f' hf'
    simp [Target.leads] at hf'
    subst hf'
    exact hFg
  · simp [invoke, go_sem, eg]
  · refine CallsIn.mono hcall fun e W2 he => ?_
    obtain ⟨⟨v, rfl⟩, xs, hS, hi, hl, hd⟩ := he
    have hend := run_endLoop (P := P) hl (by rw [hrec]; simp)
    generalize hX : ({ rec LoopState.ready with state := .exhausted } : Loop) = X at hend
    have hp : (rec LoopState.ready).pending = none := by rw [hrec]
    rw [hp] at hend
    have kX : Kp (fun k => k = B + 1) W2 (W2.putObj (B + 1) (.loop X)) := Kp.putObj _ _ _
    have iX : I xs (W2.putObj (B + 1) (.loop X)) := hI _ _ _ hi (kX.mono fun _ _ h => .inr (.inr (by omega)))
    have dX : (W2.putObj (B + 1) (.loop X)).heap[B]? = some (.deferred (some [])) := (World.putObj_heap_other (by omega)).trans hd
    have sX : w.heap.size + 2 ≤ (W2.putObj (B + 1) (.loop X)).heap.size := by
      have h2 := (Array.getElem?_eq_some_iff.1 hl).1
      have := kX.size
      omega
    have hq := hdone xs _ hS iX sX (by rw [hB]; exact dX)
    rw [hB] at hq
    exact ⟨none, _, hend, hq⟩
end Go.Proofs.YtejmndfdmikfaaaDoor.Kit
