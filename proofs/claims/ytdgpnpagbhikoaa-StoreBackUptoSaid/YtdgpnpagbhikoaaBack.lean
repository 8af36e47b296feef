/- The law StoreBack: frames there and back, torn ends. Where what comes in is of bulk at most the form's own bound. -/
import Derived.Test.YtdgpnpagbhikoaaRead
import Derived.Test.YtdgpnpagbhikoaaBackWalk
import Derived.WalkKit
import Derived.ProofKit
import Derived.JoinedCond
namespace Go.Proofs.Ytdgpnpagbhikoaa
open Go.ChangeShapes Go.WideShapes Go.ChangeAt Go.RowKit Go.Proofs.Ytdgpnpagbhikoaa.Kit
namespace Back
theorem own : ownKnob Try.prog.godebug = none := by kernel_rfl

set_option maxRecDepth 100000 in
theorem lifted (os : Os) (started : os.Started) (H : Type) (enc : TypeId × Value → H) (F : Stop.Interp) :
    ReturnsInHanded {} Try.checked os 5 .any ((Rows.OpenSpec.upto Rows.storeBackSpec).pre6 enc Try.prog Try.f5 Rows.storeBackUptoRow.domain false) (((Rows.OpenSpec.upto Rows.storeBackSpec).at F).post enc Try.prog Try.f5 false true false false) := by
  refine returnsInHanded_of_cond (C := Try.checked) (s := Rows.OpenSpec.upto Rows.storeBackSpec) (k := Rows.uptoSmall) rfl own started (by kernel_rfl) Try.func5
    (OpenSpec.witness (enc := enc) (C := Try.checked) (s := Rows.OpenSpec.upto Rows.storeBackSpec) (k := Rows.uptoSmall) rfl false ⟨#[], #[.slice none 0 0, .int .i64 0, .slice none 0 0], []⟩ 8 (by kernel_rfl) (by kernel_rfl) (by kernel_rfl)
      (x := ([.nil, .lit (.int .i64 0), .nil], [], [])) (by kernel_rfl) rfl (by kernel_rfl)) ?_
  intro W base args ds gs before hval hW _ hk _
  have hW' := hW
  obtain ⟨p, q, hA0, hV, rfl, hfz, hnd⟩ := hW
  have hA : DataW.TrodAll enc Try.prog W 0 (fun _ => true) true Try.f5.params.toList args.toList ds p := hA0
  rw [Try.params5] at hA hval
  obtain ⟨v0, v1, v2, d0, d1, d2, p0, p1, p2, rfl, rfl, rfl, h0, h1, h2⟩ := trodAll_three hA
  obtain ⟨rfl, rfl⟩ := trodVars_none hV
  obtain ⟨a0, n0, c0, rfl⟩ := okWide_slice Try.underlying25 (hval 0 25 v0 rfl rfl)
  obtain ⟨a2, n2, c2, rfl⟩ := okWide_slice Try.underlying26 (hval 2 26 v2 rfl rfl)
  have h1k := h1
  obtain ⟨cut, rfl, rfl, rfl, wc⟩ := open_int Try.underlying3 (hval 1 3 v1 rfl rfl) h1
  have hcut := bounds_i64 wc
  have h0k := h0
  have h2k := h2
  obtain ⟨fuel0, hf0⟩ := h0
  obtain ⟨fuel2, hf2⟩ := h2
  simp only [List.append_nil] at hW' hk
  have hbulk := bulks.bound hk
  have hb0 := bulks.part_le (H := H) (d := d0) (l := [d0, .lit (.int .i64 cut), d2]) (by simp)
  have hb2 := bulks.part_le (H := H) (d := d2) (l := [d0, .lit (.int .i64 cut), d2]) (by simp)
  have hlt : ∀ x ∈ p0 ++ p2, x.block < W.heap.size := fun x hx => by simpa using hW'.lt x hx
  obtain ⟨A, c, xs, hv0, hx, hxc, _, hxb, hxe⟩ := open_lists hf0
  obtain ⟨b, hv2, hl, hlc, _, hlb⟩ := open_bytes hf2
  have hv2' : Value.slice a2 n2 c2 = .slice b.A b.l.length b.c := hv2
  simp only [Value.slice.injEq] at hv0 hv2'
  obtain ⟨rfl, rfl, rfl⟩ := hv0
  obtain ⟨rfl, rfl, rfl⟩ := hv2'
  clear hA0 hV
  simp only at hxb hxe hlb
  refine (StoreBack_calls W a0 b.A xs.length c0 b.l.length b.c cut xs b.l hx hl rfl rfl hxc hlc (by omega) (by omega) (fun x hx' => by have := hxe x hx'; omega)).mono ?_
  rintro e W' ⟨rfl, hn⟩
  have bel : Below W.heap.size W W' := hn.below
  refine ⟨_, rfl, _, _, _, [], p0 ++ p2, [], hW', trodAll_mk1 (shut_bool Try.underlying4 _), ?_, rfl, bel.frame _, fun h => by cases h⟩
  have := trodAll_mk3 (Below.trod Try.laidOut (by kernel_rfl) (of_decide_eq_true (by kernel_rfl)) h0k bel (fun x hx => hlt x (by simp [hx]))) (Below.trod Try.laidOut (by kernel_rfl) (of_decide_eq_true (by kernel_rfl)) h1k bel (fun x hx => by cases hx)) (Below.trod Try.laidOut (by kernel_rfl) (of_decide_eq_true (by kernel_rfl)) h2k bel (fun x hx => hlt x (by simp [hx])))
  rw [List.nil_append] at this
  exact this
end Back

/-- Frames there and back, torn ends. -/
theorem storeBack_holds : Rows.StoreBackUptoSaid :=
  OpenClaim.holds_of_cond 5 Try.f5 rfl rfl rfl rfl rfl rfl rfl ⟨rfl, rfl, rfl, rfl, rfl⟩ rfl rfl rfl rfl rfl (by kernel_rfl) Try.func5 (by kernel_rfl)
    (of_decide_eq_true (by kernel_rfl)) (by unfold Func.isWrapper; first | (rw [if_pos (by decide +kernel)]; kernel_rfl) | (rw [if_neg (by decide +kernel)]; exact ⟨rfl, rfl⟩))
    (fun os started H enc _ F => Back.lifted os started H enc F)
#print axioms storeBack_holds
end Go.Proofs.Ytdgpnpagbhikoaa
