/- disk: there; changing: what a changing call does round its own work. -/
import Derived.Test.YtekcoeonlfmebaaDisk
import Derived.Test.YtekcoeonlfmebaaLine
import Derived.Deep.DeepMust
namespace Go.Proofs.Ytekcoeonlfmebaa.Kit
open Go Go.RowKit

theorem zero_filep (w : World) : (zeroValue 71).run Try.prog w = .ok (.pointer none) w := by kernel_rfl

set_option maxHeartbeats 1000000 in
theorem there_calls (w : World) (d : Nat) (s : DS) (F : List Nat) (n : Nm) (hD : DiskAt w d s F) (hn : n.length ≤ 9223372036854775807) :
    Calls Try.prog 42 #[.pointer (some ⟨d, 0, none⟩), .string (bstr n)] w fun e w' => e = .returned (.int .i64 (s.there n : Int)) ∧ New w w' := by
  have HD := Lib.hid hD
  clear hD
  by_cases hg : goodN n = true
  · cases hf : s.find n
    · have hs : s.there n = 31 := by unfold DS.there; rw [if_pos hg, hf]; rfl
      rw [hs]
      have HF := Lib.hid hf
      clear hs hf
      go_enter Try.func42, Try.ntmps42
      go_wp2_with fail
      refine (good_calls w n hn).mono ?_
      rintro e w1 ⟨rfl, hn1⟩
      rw [hg]
      have HN := Lib.hid hn1
      obtain ⟨bm, xs, hX, -⟩ := HD.out.new hn1
      have f2 : w1.cell? ⟨d, 2, none⟩ = some (.map (some bm)) := (cell_of_block hX.blk).trans rfl
      have HX := Lib.hid hX
      clear hn1 hX hg
      have H2 : Hid (at? (xs.map FE.ent) n = none) := Lib.hid (by
        rcases HX.out.look n with ⟨_, h⟩ | ⟨x, l1, l2, _, _, h3, _⟩
        · exact h
        · rw [HF.out] at h3; cases h3)
      go_wp2_with (at_lookup; refine wpList_look rfl _ _ 67 rfl 9 71 Try.underlying67 Try.underlying9 zero_filep bm (xs.map FE.ent) rfl HX.out.map n rfl (.pointer none) (by rw [H2.out]; rfl) ?_)
      go_ret
      exact ⟨rfl, HN.out⟩
    · have hs : s.there n = 0 := by unfold DS.there; rw [if_pos hg, hf]; rfl
      rw [hs]
      have HF := Lib.hid hf
      clear hs hf
      go_enter Try.func42, Try.ntmps42
      go_wp2_with fail
      refine (good_calls w n hn).mono ?_
      rintro e w1 ⟨rfl, hn1⟩
      rw [hg]
      have HN := Lib.hid hn1
      obtain ⟨bm, xs, hX, -⟩ := HD.out.new hn1
      have f2 : w1.cell? ⟨d, 2, none⟩ = some (.map (some bm)) := (cell_of_block hX.blk).trans rfl
      have HX := Lib.hid hX
      clear hn1 hX hg
      obtain ⟨x, H2⟩ : ∃ x : FE, Hid (at? (xs.map FE.ent) n = some x.ptr) := by
        rcases HX.out.look n with ⟨h, _⟩ | ⟨x, l1, l2, _, _, _, h4, _⟩
        · rw [HF.out] at h; cases h
        · exact ⟨x, Lib.hid h4⟩
      go_wp2_with (at_lookup; refine wpList_look rfl _ _ 67 rfl 9 71 Try.underlying67 Try.underlying9 zero_filep bm (xs.map FE.ent) rfl HX.out.map n rfl (.pointer (some ⟨x.b, 0, none⟩)) (by rw [H2.out]; rfl) ?_)
      go_ret
      exact ⟨rfl, HN.out⟩
  · have hg' : goodN n = false := by simpa using hg
    have hs : s.there n = 32 := by unfold DS.there; rw [if_neg hg]
    rw [hs]
    clear hg hs
    go_enter Try.func42, Try.ntmps42
    go_wp2_with fail
    refine (good_calls w n hn).mono ?_
    rintro e w1 ⟨rfl, hn1⟩
    rw [hg']
    have HN := Lib.hid hn1
    clear hn1 hg'
    go_wp2_with fail
    go_ret
    exact ⟨rfl, HN.out⟩
end Go.Proofs.Ytekcoeonlfmebaa.Kit
