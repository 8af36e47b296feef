/- tally.add: a number added to what a map holds of a name; what is 0 goes. -/
import Derived.Test.YtejmndfdmikfaaaDoorProg
import Derived.Test.YtejmndfdmikfaaaDoorApplyM
namespace Go.Proofs.YtejmndfdmikfaaaDoor.Kit
open Go Go.RowKit

theorem Tryd.zero_i64 (w : World) : (zeroValue 2).run Tryd.prog w = .ok (.int .i64 0) w := by
  have := Tryd.zeroValue2
  simp [this]
theorem Tryd.zero_int (w : World) : (zeroValue 3).run Tryd.prog w = .ok (.int .i64 0) w := by
  have := Tryd.zeroValue3
  simp [this]
theorem look_num {t k e : TypeId} (ht : Tryd.prog.underlying t = some (.map k e)) (hk : Tryd.prog.underlying k = some .string) (hz : ∀ w, (zeroValue e).run Tryd.prog w = .ok (.int .i64 0) w) {w : World} {b : Nat} {l : Prs} {F : List UInt8 → Int} (h : SMap w b l) (hT : IsT l F) (n : List UInt8) :
    (Instr.lookup t (.map (some b)) (.string (bstr n)) false).run Tryd.prog w = .ok (.int .i64 (F n)) w := by
  have := run_look (P := Tryd.prog) ht hk (hz w) h n false
  rw [this, if_neg (by decide), hT.get]
/-- What add makes of a map of numbers. -/
def AddPost (w : World) (b : Nat) (F : List UInt8 → Int) (e : Ending) (w' : World) : Prop := e = .returned (.tuple #[]) ∧ (∃ l', SMap w' b l' ∧ IsT l' F) ∧ Kp (fun j => j = b) w w'
set_option maxHeartbeats 1000000 in
theorem add64_calls (w : World) (b : Nat) (l : Prs) (F : List UInt8 → Int) (n : List UInt8) (x : Int) (h : SMap w b l) (hT : IsT l F) :
    Calls Tryd.prog 56 #[.map (some b), .string (bstr n), .int .i64 x] w (AddPost w b (setO F n (wr (F n + x)))) := by
  have ht := Tryd.underlying69
  have hk := Tryd.underlying9
  have l0 := look_num ht hk Tryd.zero_i64 h hT n
  obtain ⟨v, hv⟩ : ∃ v, wr (F n + x) = v := ⟨_, rfl⟩
  rw [hv]
  obtain ⟨w1, r1, m1, k1⟩ := run_put (P := Tryd.prog) ht hk h n (.int .i64 v)
  have l1 : (Instr.lookup 69 (.map (some b)) (.string (bstr n)) false).run Tryd.prog w1 = .ok (.int .i64 v) w1 := by
    have := run_look (P := Tryd.prog) ht hk (Tryd.zero_i64 w1) m1 n false
    rw [this, if_neg (by decide), at_put, if_pos rfl]
    rfl
  by_cases h0 : v = 0
  · subst h0
    obtain ⟨w2, r2, m2, k2⟩ := run_del (P := Tryd.prog) ht hk m1 n 0
    have HX := Lib.hid (And.intro m2 (And.intro k2 (And.intro k1 hT)))
    clear m1 m2 k1 k2 h hT
    go_enter Tryd.func56, Tryd.ntmps56
    go_wp2
    go_end0
    exact ⟨rfl, ⟨_, HX.out.1, HX.out.2.2.2.del n _⟩, HX.out.2.2.1.trans HX.out.2.1 (fun _ _ h => h) (fun _ _ h => h)⟩
  · have HX := Lib.hid (And.intro m1 (And.intro k1 hT))
    have h0' : (v == 0) = false := by simpa using h0
    have H0 := Lib.hid h0
    clear m1 k1 h hT h0
    go_enter Tryd.func56, Tryd.ntmps56
    go_wp2
    go_end0
    exact ⟨rfl, ⟨_, HX.out.1, HX.out.2.2.put n H0.out⟩, HX.out.2.1⟩
set_option maxHeartbeats 1000000 in
theorem add_calls (w : World) (b : Nat) (l : Prs) (F : List UInt8 → Int) (n : List UInt8) (x : Int) (h : SMap w b l) (hT : IsT l F) :
    Calls Tryd.prog 58 #[.map (some b), .string (bstr n), .int .i64 x] w (AddPost w b (setO F n (wr (F n + x)))) := by
  have ht := Tryd.underlying71
  have hk := Tryd.underlying9
  have l0 := look_num ht hk Tryd.zero_int h hT n
  obtain ⟨v, hv⟩ : ∃ v, wr (F n + x) = v := ⟨_, rfl⟩
  rw [hv]
  obtain ⟨w1, r1, m1, k1⟩ := run_put (P := Tryd.prog) ht hk h n (.int .i64 v)
  have l1 : (Instr.lookup 71 (.map (some b)) (.string (bstr n)) false).run Tryd.prog w1 = .ok (.int .i64 v) w1 := by
    have := run_look (P := Tryd.prog) ht hk (Tryd.zero_int w1) m1 n false
    rw [this, if_neg (by decide), at_put, if_pos rfl]
    rfl
  by_cases h0 : v = 0
  · subst h0
    obtain ⟨w2, r2, m2, k2⟩ := run_del (P := Tryd.prog) ht hk m1 n 0
    have HX := Lib.hid (And.intro m2 (And.intro k2 (And.intro k1 hT)))
    clear m1 m2 k1 k2 h hT
    go_enter Tryd.func58, Tryd.ntmps58
    go_wp2
    go_end0
    exact ⟨rfl, ⟨_, HX.out.1, HX.out.2.2.2.del n _⟩, HX.out.2.2.1.trans HX.out.2.1 (fun _ _ h => h) (fun _ _ h => h)⟩
  · have HX := Lib.hid (And.intro m1 (And.intro k1 hT))
    have h0' : (v == 0) = false := by simpa using h0
    have H0 := Lib.hid h0
    clear m1 k1 h hT h0
    go_enter Tryd.func58, Tryd.ntmps58
    go_wp2
    go_end0
    exact ⟨rfl, ⟨_, HX.out.1, HX.out.2.2.put n H0.out⟩, HX.out.2.1⟩
end Go.Proofs.YtejmndfdmikfaaaDoor.Kit
