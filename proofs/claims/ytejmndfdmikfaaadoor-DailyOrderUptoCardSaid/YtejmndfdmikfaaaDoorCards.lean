/-
  DERIVED. GIVEN WITH THE SEED: THE CARDS: each row of YtejmndfdmikfaaaDoorRows.lean that lists a variable, with what it lists TIED to the program's text (the seventh form; the later family's looks); each row that meets fmt, with fmt's text TOLD by the authors' own Lean function (tested against real Go, not proved from fmt's source: count such statements apart). THE CARD IS WHAT COUNTS. Prove the row's statement (the work); the ties are given (YtejmndfdmikfaaaDoorTie.lean); close each card by the builder's one call (the guide's Derived/Test/ToyasCard.lean, 'card_holds'). Laid BY PROGRAM, IN A SANDBOX (cutbox-door.mjs). By AI agents, Wed Nov 11 2026. No macro, syntax, notation, axiom, sorry.
-/
import Derived.Test.YtejmndfdmikfaaaDoorRows
import GoSem.ClaimSeven
namespace Go.Proofs.YtejmndfdmikfaaaDoor
namespace Rows

/-- THE TIED CARD OF 'daybooklaw08.SumsBack'. -/
def sumsBackCard : Claim7 := { stood := { row := sumsBackRow, standIns := [], harness := (true, "17d4ddffc326e1c0ef36dc36bb70f7707493eca0f3a794c0e73db09b92f14a9b"), looks := false }, kinds := [], alts := [], laidByText := true, laidKinds := [.data, .pinned], laidTests := true, laidLooks := .later }
def SumsBackCardSaid : Prop := Claim7.holds Tryd.pinned (.plain (OpenSpec.ofChange sumsBackSpec)) sumsBackCard

/-- THE TIED CARD OF 'daybooklaw08.SumsTree'. -/
def sumsTreeCard : Claim7 := { stood := { row := sumsTreeRow, standIns := [], harness := (true, "17d4ddffc326e1c0ef36dc36bb70f7707493eca0f3a794c0e73db09b92f14a9b"), looks := false }, kinds := [], alts := [], laidByText := true, laidKinds := [.data, .pinned], laidTests := true, laidLooks := .later }
def SumsTreeCardSaid : Prop := Claim7.holds Tryd.pinned (.plain (OpenSpec.ofChange sumsTreeSpec)) sumsTreeCard

/-- THE TIED CARD OF 'daybooklaw08.SumsOrder'. -/
def sumsOrderCard : Claim7 := { stood := { row := sumsOrderRow, standIns := [], harness := (true, "17d4ddffc326e1c0ef36dc36bb70f7707493eca0f3a794c0e73db09b92f14a9b"), looks := false }, kinds := [], alts := [], laidByText := true, laidKinds := [.data, .pinned], laidTests := true, laidLooks := .later }
def SumsOrderCardSaid : Prop := Claim7.holds Tryd.pinned (.plain (OpenSpec.ofChange sumsOrderSpec)) sumsOrderCard

/-- THE TIED CARD OF 'daybooklaw09.DailyLater'. -/
def dailyLaterCard : Claim7 := { stood := { row := dailyLaterRow, standIns := [], harness := (true, "17d4ddffc326e1c0ef36dc36bb70f7707493eca0f3a794c0e73db09b92f14a9b"), looks := false }, kinds := [], alts := [], laidByText := true, laidKinds := [.data, .pinned], laidTests := true, laidLooks := .later }
def DailyLaterCardSaid : Prop := Claim7.holds Tryd.pinned (.plain (OpenSpec.ofChange dailyLaterSpec)) dailyLaterCard

/-- THE TIED CARD OF 'daybooklaw09.DailyBack'. -/
def dailyBackCard : Claim7 := { stood := { row := dailyBackRow, standIns := [], harness := (true, "17d4ddffc326e1c0ef36dc36bb70f7707493eca0f3a794c0e73db09b92f14a9b"), looks := false }, kinds := [], alts := [], laidByText := true, laidKinds := [.data, .pinned], laidTests := true, laidLooks := .later }
def DailyBackCardSaid : Prop := Claim7.holds Tryd.pinned (.plain (OpenSpec.ofChange dailyBackSpec)) dailyBackCard

/-- THE TIED CARD OF 'daybooklaw09.DailyDays'. -/
def dailyDaysCard : Claim7 := { stood := { row := dailyDaysRow, standIns := [], harness := (true, "17d4ddffc326e1c0ef36dc36bb70f7707493eca0f3a794c0e73db09b92f14a9b"), looks := false }, kinds := [], alts := [], laidByText := true, laidKinds := [.data, .pinned], laidTests := true, laidLooks := .later }
def DailyDaysCardSaid : Prop := Claim7.holds Tryd.pinned (.plain (OpenSpec.ofChange dailyDaysSpec)) dailyDaysCard

/-- THE TIED CARD OF 'daybooklaw09.DailyOrder'. -/
def dailyOrderCard : Claim7 := { stood := { row := dailyOrderRow, standIns := [], harness := (true, "17d4ddffc326e1c0ef36dc36bb70f7707493eca0f3a794c0e73db09b92f14a9b"), looks := false }, kinds := [], alts := [], laidByText := true, laidKinds := [.data, .pinned], laidTests := true, laidLooks := .later }
def DailyOrderCardSaid : Prop := Claim7.holds Tryd.pinned (.plain (OpenSpec.ofChange dailyOrderSpec)) dailyOrderCard

/-- THE SECOND FORM's CARD OF 'daybooklaw08.SumsBack'. -/
def sumsBackUptoCard : Claim7 := { stood := { row := sumsBackUptoRow, standIns := [], harness := (true, "17d4ddffc326e1c0ef36dc36bb70f7707493eca0f3a794c0e73db09b92f14a9b"), looks := false }, kinds := [], alts := [], laidByText := true, laidKinds := [.data, .pinned], laidTests := true, laidLooks := .later }
def SumsBackUptoCardSaid : Prop := Claim7.holds Tryd.pinned (.plain (OpenSpec.upto sumsBackSpec)) sumsBackUptoCard

/-- THE SECOND FORM's CARD OF 'daybooklaw08.SumsTree'. -/
def sumsTreeUptoCard : Claim7 := { stood := { row := sumsTreeUptoRow, standIns := [], harness := (true, "17d4ddffc326e1c0ef36dc36bb70f7707493eca0f3a794c0e73db09b92f14a9b"), looks := false }, kinds := [], alts := [], laidByText := true, laidKinds := [.data, .pinned], laidTests := true, laidLooks := .later }
def SumsTreeUptoCardSaid : Prop := Claim7.holds Tryd.pinned (.plain (OpenSpec.upto sumsTreeSpec)) sumsTreeUptoCard

/-- THE SECOND FORM's CARD OF 'daybooklaw08.SumsOrder'. -/
def sumsOrderUptoCard : Claim7 := { stood := { row := sumsOrderUptoRow, standIns := [], harness := (true, "17d4ddffc326e1c0ef36dc36bb70f7707493eca0f3a794c0e73db09b92f14a9b"), looks := false }, kinds := [], alts := [], laidByText := true, laidKinds := [.data, .pinned], laidTests := true, laidLooks := .later }
def SumsOrderUptoCardSaid : Prop := Claim7.holds Tryd.pinned (.plain (OpenSpec.upto sumsOrderSpec)) sumsOrderUptoCard

/-- THE SECOND FORM's CARD OF 'daybooklaw09.DailyLater'. -/
def dailyLaterUptoCard : Claim7 := { stood := { row := dailyLaterUptoRow, standIns := [], harness := (true, "17d4ddffc326e1c0ef36dc36bb70f7707493eca0f3a794c0e73db09b92f14a9b"), looks := false }, kinds := [], alts := [], laidByText := true, laidKinds := [.data, .pinned], laidTests := true, laidLooks := .later }
def DailyLaterUptoCardSaid : Prop := Claim7.holds Tryd.pinned (.plain (OpenSpec.upto dailyLaterSpec)) dailyLaterUptoCard

/-- THE SECOND FORM's CARD OF 'daybooklaw09.DailyBack'. -/
def dailyBackUptoCard : Claim7 := { stood := { row := dailyBackUptoRow, standIns := [], harness := (true, "17d4ddffc326e1c0ef36dc36bb70f7707493eca0f3a794c0e73db09b92f14a9b"), looks := false }, kinds := [], alts := [], laidByText := true, laidKinds := [.data, .pinned], laidTests := true, laidLooks := .later }
def DailyBackUptoCardSaid : Prop := Claim7.holds Tryd.pinned (.plain (OpenSpec.upto dailyBackSpec)) dailyBackUptoCard

/-- THE SECOND FORM's CARD OF 'daybooklaw09.DailyDays'. -/
def dailyDaysUptoCard : Claim7 := { stood := { row := dailyDaysUptoRow, standIns := [], harness := (true, "17d4ddffc326e1c0ef36dc36bb70f7707493eca0f3a794c0e73db09b92f14a9b"), looks := false }, kinds := [], alts := [], laidByText := true, laidKinds := [.data, .pinned], laidTests := true, laidLooks := .later }
def DailyDaysUptoCardSaid : Prop := Claim7.holds Tryd.pinned (.plain (OpenSpec.upto dailyDaysSpec)) dailyDaysUptoCard

/-- THE SECOND FORM's CARD OF 'daybooklaw09.DailyOrder'. -/
def dailyOrderUptoCard : Claim7 := { stood := { row := dailyOrderUptoRow, standIns := [], harness := (true, "17d4ddffc326e1c0ef36dc36bb70f7707493eca0f3a794c0e73db09b92f14a9b"), looks := false }, kinds := [], alts := [], laidByText := true, laidKinds := [.data, .pinned], laidTests := true, laidLooks := .later }
def DailyOrderUptoCardSaid : Prop := Claim7.holds Tryd.pinned (.plain (OpenSpec.upto dailyOrderSpec)) dailyOrderUptoCard
end Rows
end Go.Proofs.YtejmndfdmikfaaaDoor
