/-
  DERIVED. GIVEN WITH THE SEED: THE CARDS: each row of YtdgpnpagbhikoaaGreatDoorRows.lean that lists a variable, with what it lists TIED to the program's text (the seventh form; the later family's looks); each row that meets fmt, with fmt's text TOLD by the authors' own Lean function (tested against real Go, not proved from fmt's source: count such statements apart). THE CARD IS WHAT COUNTS. Prove the row's statement (the work); the ties are given (YtdgpnpagbhikoaaGreatDoorTie.lean); close each card by the builder's one call (the guide's Derived/Test/ToyasCard.lean, 'card_holds'). Laid BY PROGRAM, IN A SANDBOX (cutbox-door.mjs). By AI agents, Wed Nov 11 2026. No macro, syntax, notation, axiom, sorry.
-/
import Derived.Test.YtdgpnpagbhikoaaGreatDoorRows
import GoSem.ClaimSeven
namespace Go.Proofs.YtdgpnpagbhikoaaGreatDoor
namespace Rows

/-- THE TIED CARD OF 'daybooklaw04.StoreFrames'. -/
def storeFramesCard : Claim7 := { stood := { row := storeFramesRow, standIns := [], harness := (true, "be52f4b1912704bc3197ad6152fd864f6602d1a752e0ccef27aeafbfec2eaf5c"), looks := true }, kinds := [], alts := [], laidByText := true, laidKinds := [.data, .data, .data], laidTests := true, laidLooks := .later }
def StoreFramesCardSaid : Prop := Claim7.holds Tryz.pinned (.plain (OpenSpec.ofChange storeFramesSpec)) storeFramesCard

/-- THE TIED CARD OF 'daybooklaw04.StoreScans'. -/
def storeScansCard : Claim7 := { stood := { row := storeScansRow, standIns := [], harness := (true, "be52f4b1912704bc3197ad6152fd864f6602d1a752e0ccef27aeafbfec2eaf5c"), looks := true }, kinds := [], alts := [], laidByText := true, laidKinds := [.data, .data, .data], laidTests := true, laidLooks := .later }
def StoreScansCardSaid : Prop := Claim7.holds Tryz.pinned (.plain (OpenSpec.ofChange storeScansSpec)) storeScansCard

/-- THE TIED CARD OF 'daybooklaw11.CkptEncodes'. -/
def ckptEncodesCard : Claim7 := { stood := { row := ckptEncodesRow, standIns := [], harness := (true, "be52f4b1912704bc3197ad6152fd864f6602d1a752e0ccef27aeafbfec2eaf5c"), looks := true }, kinds := [], alts := [], laidByText := true, laidKinds := [.data, .data, .data, .data], laidTests := true, laidLooks := .later }
def CkptEncodesCardSaid : Prop := Claim7.holds Tryz.pinned (.plain (OpenSpec.ofChange ckptEncodesSpec)) ckptEncodesCard

/-- THE TIED CARD OF 'daybooklaw11.CkptDecodes'. -/
def ckptDecodesCard : Claim7 := { stood := { row := ckptDecodesRow, standIns := [], harness := (true, "be52f4b1912704bc3197ad6152fd864f6602d1a752e0ccef27aeafbfec2eaf5c"), looks := true }, kinds := [], alts := [], laidByText := true, laidKinds := [.data, .data, .data, .data], laidTests := true, laidLooks := .later }
def CkptDecodesCardSaid : Prop := Claim7.holds Tryz.pinned (.plain (OpenSpec.ofChange ckptDecodesSpec)) ckptDecodesCard

/-- THE SECOND FORM's CARD OF 'daybooklaw04.StoreFrames'. -/
def storeFramesUptoCard : Claim7 := { stood := { row := storeFramesUptoRow, standIns := [], harness := (true, "be52f4b1912704bc3197ad6152fd864f6602d1a752e0ccef27aeafbfec2eaf5c"), looks := true }, kinds := [], alts := [], laidByText := true, laidKinds := [.data, .data, .data], laidTests := true, laidLooks := .later }
def StoreFramesUptoCardSaid : Prop := Claim7.holds Tryz.pinned (.plain (OpenSpec.upto storeFramesSpec)) storeFramesUptoCard

/-- THE SECOND FORM's CARD OF 'daybooklaw04.StoreScans'. -/
def storeScansUptoCard : Claim7 := { stood := { row := storeScansUptoRow, standIns := [], harness := (true, "be52f4b1912704bc3197ad6152fd864f6602d1a752e0ccef27aeafbfec2eaf5c"), looks := true }, kinds := [], alts := [], laidByText := true, laidKinds := [.data, .data, .data], laidTests := true, laidLooks := .later }
def StoreScansUptoCardSaid : Prop := Claim7.holds Tryz.pinned (.plain (OpenSpec.upto storeScansSpec)) storeScansUptoCard

/-- THE SECOND FORM's CARD OF 'daybooklaw11.CkptEncodes'. -/
def ckptEncodesUptoCard : Claim7 := { stood := { row := ckptEncodesUptoRow, standIns := [], harness := (true, "be52f4b1912704bc3197ad6152fd864f6602d1a752e0ccef27aeafbfec2eaf5c"), looks := true }, kinds := [], alts := [], laidByText := true, laidKinds := [.data, .data, .data, .data], laidTests := true, laidLooks := .later }
def CkptEncodesUptoCardSaid : Prop := Claim7.holds Tryz.pinned (.plain (OpenSpec.upto ckptEncodesSpec)) ckptEncodesUptoCard

/-- THE SECOND FORM's CARD OF 'daybooklaw11.CkptDecodes'. -/
def ckptDecodesUptoCard : Claim7 := { stood := { row := ckptDecodesUptoRow, standIns := [], harness := (true, "be52f4b1912704bc3197ad6152fd864f6602d1a752e0ccef27aeafbfec2eaf5c"), looks := true }, kinds := [], alts := [], laidByText := true, laidKinds := [.data, .data, .data, .data], laidTests := true, laidLooks := .later }
def CkptDecodesUptoCardSaid : Prop := Claim7.holds Tryz.pinned (.plain (OpenSpec.upto ckptDecodesSpec)) ckptDecodesUptoCard
end Rows
end Go.Proofs.YtdgpnpagbhikoaaGreatDoor
