/-
  DERIVED. GIVEN WITH THE SEED: THE CARDS: each row of YtdgpnpagbhikoaaDoorRows.lean that lists a variable, with what it lists TIED to the program's text (the seventh form; the later family's looks); each row that meets fmt, with fmt's text TOLD by the authors' own Lean function (tested against real Go, not proved from fmt's source: count such statements apart). THE CARD IS WHAT COUNTS. Prove the row's statement (the work); the ties are given (YtdgpnpagbhikoaaDoorTie.lean); close each card by the builder's one call (the guide's Derived/Test/ToyasCard.lean, 'card_holds'). Laid BY PROGRAM, IN A SANDBOX (cutbox-door.mjs). By AI agents, Wed Nov 11 2026. No macro, syntax, notation, axiom, sorry.
-/
import Derived.Test.YtdgpnpagbhikoaaDoorRows
import GoSem.ClaimSeven
namespace Go.Proofs.YtdgpnpagbhikoaaDoor
namespace Rows

/-- THE TIED CARD OF 'daybooklaw11.CkptNames'. -/
def ckptNamesCard : Claim7 := { stood := { row := ckptNamesRow, standIns := [], harness := (true, "35324194b54707f12dabfda2f79f6603179036013c2ecc61c83c29691303dbad"), looks := false }, kinds := [], alts := [], laidByText := true, laidKinds := [.data, .data, .data], laidTests := true, laidLooks := .later }
def CkptNamesCardSaid : Prop := Claim7.holds Tryd.pinned (.plain (OpenSpec.ofChange ckptNamesSpec)) ckptNamesCard

/-- THE SECOND FORM's CARD OF 'daybooklaw11.CkptNames'. -/
def ckptNamesUptoCard : Claim7 := { stood := { row := ckptNamesUptoRow, standIns := [], harness := (true, "35324194b54707f12dabfda2f79f6603179036013c2ecc61c83c29691303dbad"), looks := false }, kinds := [], alts := [], laidByText := true, laidKinds := [.data, .data, .data], laidTests := true, laidLooks := .later }
def CkptNamesUptoCardSaid : Prop := Claim7.holds Tryd.pinned (.plain (OpenSpec.upto ckptNamesSpec)) ckptNamesUptoCard
end Rows
end Go.Proofs.YtdgpnpagbhikoaaDoor
