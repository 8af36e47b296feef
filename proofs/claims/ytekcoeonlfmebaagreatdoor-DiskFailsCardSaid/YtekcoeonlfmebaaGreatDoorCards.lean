/-
  DERIVED. GIVEN WITH THE SEED: THE CARDS: each row of YtekcoeonlfmebaaGreatDoorRows.lean that lists a variable, with what it lists TIED to the program's text (the seventh form; the later family's looks); each row that meets fmt, with fmt's text TOLD by the authors' own Lean function (tested against real Go, not proved from fmt's source: count such statements apart). THE CARD IS WHAT COUNTS. Prove the row's statement (the work); the ties are given (YtekcoeonlfmebaaGreatDoorTie.lean); close each card by the builder's one call (the guide's Derived/Test/ToyasCard.lean, 'card_holds'). Laid BY PROGRAM, IN A SANDBOX (cutbox-door.mjs). By AI agents, Wed Nov 11 2026. No macro, syntax, notation, axiom, sorry.
-/
import Derived.Test.YtekcoeonlfmebaaGreatDoorRows
import GoSem.ClaimSeven
namespace Go.Proofs.YtekcoeonlfmebaaGreatDoor
namespace Rows

/-- THE TIED CARD OF 'daybooklaw03.DiskStates'. -/
def diskStatesCard : Claim7 := { stood := { row := diskStatesRow, standIns := [], harness := (true, "7f3d31abbfb2eeb6fffa858944f4e65d631c3e9bd9d34e56111775611dd11993"), looks := false }, kinds := [], alts := [], laidByText := true, laidKinds := [.data, .data, .data], laidTests := true, laidLooks := .later }
def DiskStatesCardSaid : Prop := Claim7.holds Tryz.pinned (.plain (OpenSpec.ofChange diskStatesSpec)) diskStatesCard

/-- THE TIED CARD OF 'daybooklaw03.DiskChanges'. -/
def diskChangesCard : Claim7 := { stood := { row := diskChangesRow, standIns := [], harness := (true, "7f3d31abbfb2eeb6fffa858944f4e65d631c3e9bd9d34e56111775611dd11993"), looks := false }, kinds := [], alts := [], laidByText := true, laidKinds := [.data, .data, .data], laidTests := true, laidLooks := .later }
def DiskChangesCardSaid : Prop := Claim7.holds Tryz.pinned (.plain (OpenSpec.ofChange diskChangesSpec)) diskChangesCard

/-- THE TIED CARD OF 'daybooklaw03.DiskLooks'. -/
def diskLooksCard : Claim7 := { stood := { row := diskLooksRow, standIns := [], harness := (true, "7f3d31abbfb2eeb6fffa858944f4e65d631c3e9bd9d34e56111775611dd11993"), looks := false }, kinds := [], alts := [], laidByText := true, laidKinds := [.data, .data, .data], laidTests := true, laidLooks := .later }
def DiskLooksCardSaid : Prop := Claim7.holds Tryz.pinned (.plain (OpenSpec.ofChange diskLooksSpec)) diskLooksCard

/-- THE TIED CARD OF 'daybooklaw03.DiskFails'. -/
def diskFailsCard : Claim7 := { stood := { row := diskFailsRow, standIns := [], harness := (true, "7f3d31abbfb2eeb6fffa858944f4e65d631c3e9bd9d34e56111775611dd11993"), looks := false }, kinds := [], alts := [], laidByText := true, laidKinds := [.data, .data, .data], laidTests := true, laidLooks := .later }
def DiskFailsCardSaid : Prop := Claim7.holds Tryz.pinned (.plain (OpenSpec.ofChange diskFailsSpec)) diskFailsCard

/-- THE TIED CARD OF 'daybooklaw03.DiskAll'. -/
def diskAllCard : Claim7 := { stood := { row := diskAllRow, standIns := [], harness := (true, "7f3d31abbfb2eeb6fffa858944f4e65d631c3e9bd9d34e56111775611dd11993"), looks := false }, kinds := [], alts := [], laidByText := true, laidKinds := [.data, .data, .data], laidTests := true, laidLooks := .later }
def DiskAllCardSaid : Prop := Claim7.holds Tryz.pinned (.plain (OpenSpec.ofChange diskAllSpec)) diskAllCard

/-- THE SECOND FORM's CARD OF 'daybooklaw03.DiskStates'. -/
def diskStatesUptoCard : Claim7 := { stood := { row := diskStatesUptoRow, standIns := [], harness := (true, "7f3d31abbfb2eeb6fffa858944f4e65d631c3e9bd9d34e56111775611dd11993"), looks := false }, kinds := [], alts := [], laidByText := true, laidKinds := [.data, .data, .data], laidTests := true, laidLooks := .later }
def DiskStatesUptoCardSaid : Prop := Claim7.holds Tryz.pinned (.plain (OpenSpec.upto diskStatesSpec)) diskStatesUptoCard

/-- THE SECOND FORM's CARD OF 'daybooklaw03.DiskChanges'. -/
def diskChangesUptoCard : Claim7 := { stood := { row := diskChangesUptoRow, standIns := [], harness := (true, "7f3d31abbfb2eeb6fffa858944f4e65d631c3e9bd9d34e56111775611dd11993"), looks := false }, kinds := [], alts := [], laidByText := true, laidKinds := [.data, .data, .data], laidTests := true, laidLooks := .later }
def DiskChangesUptoCardSaid : Prop := Claim7.holds Tryz.pinned (.plain (OpenSpec.upto diskChangesSpec)) diskChangesUptoCard

/-- THE SECOND FORM's CARD OF 'daybooklaw03.DiskLooks'. -/
def diskLooksUptoCard : Claim7 := { stood := { row := diskLooksUptoRow, standIns := [], harness := (true, "7f3d31abbfb2eeb6fffa858944f4e65d631c3e9bd9d34e56111775611dd11993"), looks := false }, kinds := [], alts := [], laidByText := true, laidKinds := [.data, .data, .data], laidTests := true, laidLooks := .later }
def DiskLooksUptoCardSaid : Prop := Claim7.holds Tryz.pinned (.plain (OpenSpec.upto diskLooksSpec)) diskLooksUptoCard

/-- THE SECOND FORM's CARD OF 'daybooklaw03.DiskFails'. -/
def diskFailsUptoCard : Claim7 := { stood := { row := diskFailsUptoRow, standIns := [], harness := (true, "7f3d31abbfb2eeb6fffa858944f4e65d631c3e9bd9d34e56111775611dd11993"), looks := false }, kinds := [], alts := [], laidByText := true, laidKinds := [.data, .data, .data], laidTests := true, laidLooks := .later }
def DiskFailsUptoCardSaid : Prop := Claim7.holds Tryz.pinned (.plain (OpenSpec.upto diskFailsSpec)) diskFailsUptoCard

/-- THE SECOND FORM's CARD OF 'daybooklaw03.DiskAll'. -/
def diskAllUptoCard : Claim7 := { stood := { row := diskAllUptoRow, standIns := [], harness := (true, "7f3d31abbfb2eeb6fffa858944f4e65d631c3e9bd9d34e56111775611dd11993"), looks := false }, kinds := [], alts := [], laidByText := true, laidKinds := [.data, .data, .data], laidTests := true, laidLooks := .later }
def DiskAllUptoCardSaid : Prop := Claim7.holds Tryz.pinned (.plain (OpenSpec.upto diskAllSpec)) diskAllUptoCard
end Rows
end Go.Proofs.YtekcoeonlfmebaaGreatDoor
