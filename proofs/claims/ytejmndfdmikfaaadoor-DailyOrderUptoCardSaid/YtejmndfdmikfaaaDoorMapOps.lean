/- Maps keyed by strings: a store and a delete, at one operation. -/
import Derived.Test.YtejmndfdmikfaaaDoorMap
import Derived.WalkKit
namespace Go.Proofs.YtejmndfdmikfaaaDoor.Kit
open Go Go.RowKit

section
variable {P : Program} {w : World} {a : Act} {Q : Exit → Act → World → Prop}

theorem wp_mapput {o : Oper} {K : Act → World → Prop} (t : TypeId) (m x v : Operand) (ho : o.op = .mapUpdate t m x v) (k e : TypeId) (ht : P.underlying t = some (.map k e)) (hk : P.underlying k = some .string) (b : Nat) (l : List (List UInt8 × Value)) (hm : a.eval m = .map (some b)) (h : SMap w b l)
    (key : List UInt8) (hx : a.eval x = sv key) (u : Value) (hv : a.eval v = u) (hK : ∀ w', SMap w' b (put l key u) → Kp (fun j => j = b) w w' → K (a.put o.dst undef) w') : o.wp P a w K Q := by
  obtain ⟨w', hr, h1, h2⟩ := run_put (P := P) ht hk h key u
  unfold Oper.wp execOp
  simp only [ho, hm, hx, hv, Sem.run_bind, hr, Sem.run_pure, Result.andThen_ok]
  exact hK w' h1 h2
theorem wpList_mapput {ops : Array Oper} {rest : List Oper} {o : Oper} (hgd : o.guard = none) (t : TypeId) (m x v : Operand) (ho : o.op = .mapUpdate t m x v) (k e : TypeId) (ht : P.underlying t = some (.map k e)) (hk : P.underlying k = some .string) (b : Nat) (l : List (List UInt8 × Value)) (hm : a.eval m = .map (some b)) (h : SMap w b l)
    (key : List UInt8) (hx : a.eval x = sv key) (u : Value) (hv : a.eval v = u) (hK : ∀ w', SMap w' b (put l key u) → Kp (fun j => j = b) w w' → wpList P ops Q rest (a.put o.dst undef) w') : wpList P ops Q (o :: rest) a w :=
  wpList_plain hgd fun _ hK' => wp_mapput t m x v ho k e ht hk b l hm h key hx u hv fun w' h1 h2 => hK' _ _ (hK w' h1 h2)
theorem wp_mapdel {o : Oper} {K : Act → World → Prop} (t k : TypeId) (m x : Operand) (ho : o.op = .call { callee := .builtin .delete, args := #[m, x], argTypes := #[t, k] }) (e : TypeId) (ht : P.underlying t = some (.map k e)) (hk : P.underlying k = some .string) (b : Nat) (l : List (List UInt8 × Value)) (hm : a.eval m = .map (some b)) (h : SMap w b l)
    (key : List UInt8) (hx : a.eval x = sv key) (hK : ∀ w', SMap w' b (del l key) → Kp (fun j => j = b) w w' → K (a.put o.dst (.tuple #[])) w') : o.wp P a w K Q := by
  obtain ⟨w', hr, h1, h2⟩ := run_del (P := P) ht hk h key o.type
  unfold Oper.wp execOp
  simp only [ho, resolve, invoke, builtin, Sem.run_bind, Sem.run_pure, Result.andThen_ok, List.map_toArray, List.map_cons, List.map_nil, hm, hx, hr]
  exact hK w' h1 h2
theorem wpList_mapdel {ops : Array Oper} {rest : List Oper} {o : Oper} (hgd : o.guard = none) (t k : TypeId) (m x : Operand) (ho : o.op = .call { callee := .builtin .delete, args := #[m, x], argTypes := #[t, k] }) (e : TypeId) (ht : P.underlying t = some (.map k e)) (hk : P.underlying k = some .string) (b : Nat) (l : List (List UInt8 × Value)) (hm : a.eval m = .map (some b)) (h : SMap w b l)
    (key : List UInt8) (hx : a.eval x = sv key) (hK : ∀ w', SMap w' b (del l key) → Kp (fun j => j = b) w w' → wpList P ops Q rest (a.put o.dst (.tuple #[])) w') : wpList P ops Q (o :: rest) a w :=
  wpList_plain hgd fun _ hK' => wp_mapdel t k m x ho e ht hk b l hm h key hx fun w' h1 h2 => hK' _ _ (hK w' h1 h2)
end
end Go.Proofs.YtejmndfdmikfaaaDoor.Kit
