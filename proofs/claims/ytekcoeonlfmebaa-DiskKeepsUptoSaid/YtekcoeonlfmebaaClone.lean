/- slices.Clone and slices.Clip of bytes. -/
import Derived.Test.YtekcoeonlfmebaaNew
import Derived.WalkSpells
namespace Go.Proofs.Ytekcoeonlfmebaa.Kit
open Go Go.RowKit

def ClonePost (w : World) (l : List UInt8) (e : Ending) (w' : World) : Prop := ∃ A n c, e = .returned (.slice A n c) ∧ NewBytes w l w' A n c

set_option maxRecDepth 100000 in
set_option maxHeartbeats 1000000 in
theorem Clone_calls (w : World) (A : Option Addr) (n c : Nat) (l : List UInt8) (hl : RdB w A l) (hn : n = l.length) (hb : n ≤ 70368744177664) :
    Calls Try.prog 34 #[.slice A n c] w (ClonePost w l) := by
  subst hn
  have H := Lib.hid hl
  clear hl
  have q := fun w => Lib.run_eql_slice_nil (P := Try.prog) w 28 5 A l.length c 0 0 Try.underlying28
  cases A with
  | none =>
    have hnil : l = [] := Classical.byContradiction fun hl => by obtain ⟨_, _, e, _⟩ := H.out hl; cases e
    subst hnil
    have q' : ∀ w, (binOp BinOp.eql 28 (.slice none 0 c) (.slice none 0 0)).run Try.prog w = .ok (.bool true) w := q
    clear q
    go_enter Try.func34, Try.ntmps34
    go_wp2_with fail
    go_ret
    exact ⟨none, 0, 0, rfl, rfl, Own.nil _ _ _, Kp.refl _ _, fun k h => absurd h Bk.none_⟩
  | some a =>
    have q' : ∀ w, (binOp BinOp.eql 28 (.slice (some a) l.length c) (.slice none 0 0)).run Try.prog w = .ok (.bool false) w := q
    clear q
    go_enter Try.func34, Try.ntmps34
    go_wp2_with (at_builtin; refine wpList_append_src _ rfl (.tmp 5) (.tmp 6) 28 28 rfl 5 (.int .u8 0) 1 1 Try.underlying28 Try.info_u8 rfl _ 0 0 [] rfl (Own.bare _ _ _) _ rfl l.length (bcs l) (Src.ofRdB _ Try.underlying28 c (H.out.new (Kp.alloc _ _ _))) (by omega) (by omega) ?_; intro A2 c2 w2 h1 h2 h3; have H2 := Lib.hid (And.intro h1 (And.intro h2 h3)); clear h1 h2 h3)
    go_ret
    refine ⟨A2, l.length, c2, by simp, rfl, by simpa using H2.out.1, (Kp.alloc (fun _ => False) w _).trans H2.out.2.1 (fun _ _ h => h) (fun x hx h => by have := Bk.some_.1 h; simp at this; omega), fun j hj => (H2.out.2.2 j hj).elim (fun h => by have := Bk.some_.1 h; simp at this; omega) (fun h => by simp at h; omega)⟩

theorem Clip_calls (w : World) (A : Option Addr) (n c : Nat) (h : n ≤ c) :
    Calls Try.prog 46 #[.slice A n c] w fun e w' => e = .returned (.slice A n n) ∧ w = w' := by
  have hs := run_slice_mid3 (P := Try.prog) 28 5 Try.underlying28 1 Try.size_u8 A n c 0 n n (Nat.zero_le _) (Nat.le_refl _) h
  rw [adv_zero] at hs
  go_enter Try.func46, Try.ntmps46
  go_wp2
  go_ret
  exact ⟨rfl, rfl⟩
end Go.Proofs.Ytekcoeonlfmebaa.Kit
