/-
  NARROWER THAN 'FOR EVERY INPUT', by the rows' own cells (each row's printed sentence says how): SumsBack: laid · SumsTree: laid · SumsOrder: laid · DailyLater: laid · DailyBack: laid · DailyDays: laid · DailyOrder: laid.
  DERIVED. THE GIVEN ROWS OF THIS SEAT. 7 by the template 'for every input the law returns true; each argument reads behind the call as it read before'; 0 by the template 'total and deterministic' (their statements: YtejmndfdmikfaaaDoorTotals.lean).
  GIVEN WITH THE SEED: the statements are not yours to turn. If you find one false, say at which input.
  Laid BY PROGRAM, IN A SANDBOX (cutbox-rows.mjs): the forced cells as the released guide's own fill.sh prints them over the translation 184c72938fc9cb63… (all of the seat's roots in one cut). By AI agents, Wed Nov 11 2026. No macro, syntax, notation, axiom, sorry.
-/
import Derived.Test.YtejmndfdmikfaaaDoorChecked
import GoSem.PinnedTables
import GoSem.Claim
import GoSem.ClaimJoined
import GoSem.ClaimMapViews
import Derived.JoinedTies
import Derived.KernelRfl
namespace Go.Proofs.YtejmndfdmikfaaaDoor
/- THE CELL 'sum', in the pinned program and in every row, IS THE sha256 OF THE DUMP (.gsa) THAT YtejmndfdmikfaaaDoorProg.lean LOADS. Nothing in Lean hashes anything: it is a label: what it is worth is what the hold of that sum in a sandbox is worth. -/
noncomputable def Tryd.pinned : Pinned := { name := "ytejmndfdmikfaaadoor", sum := "184c72938fc9cb633c1d3cdcc21bbc0137a2926f5927fbc78a0204642771c2df", checked := Tryd.checked }
namespace Rows
def none {H : Type} : Left H := { results := [], args := [] }

/- WHAT THE LISTED PACKAGE-LEVEL VARIABLES READ AS WHEN THE CALL BEGINS. Each datum BY PROGRAM (the guide's laid-datum.mjs) off the statement by which the dump's own 'gosem.cut.vars' lays the variable. In a bare row this is a premise. The card (YtejmndfdmikfaaaDoorCards.lean) ties it to the program's text. -/
def laid_unicode_utf8_acceptRanges {H : Type} : DataW H := .agg [.agg [.lit (.int .u8 128), .lit (.int .u8 191)], .agg [.lit (.int .u8 160), .lit (.int .u8 191)], .agg [.lit (.int .u8 128), .lit (.int .u8 159)], .agg [.lit (.int .u8 144), .lit (.int .u8 191)], .agg [.lit (.int .u8 128), .lit (.int .u8 143)], .agg [.lit (.int .u8 0), .lit (.int .u8 0)], .agg [.lit (.int .u8 0), .lit (.int .u8 0)], .agg [.lit (.int .u8 0), .lit (.int .u8 0)], .agg [.lit (.int .u8 0), .lit (.int .u8 0)], .agg [.lit (.int .u8 0), .lit (.int .u8 0)], .agg [.lit (.int .u8 0), .lit (.int .u8 0)], .agg [.lit (.int .u8 0), .lit (.int .u8 0)], .agg [.lit (.int .u8 0), .lit (.int .u8 0)], .agg [.lit (.int .u8 0), .lit (.int .u8 0)], .agg [.lit (.int .u8 0), .lit (.int .u8 0)], .agg [.lit (.int .u8 0), .lit (.int .u8 0)]]
/-- One of Go's own tables, pinned by name: the form's constant. -/
def laid_unicode_utf8_first : DataW Unit := Go.Pinned.utf8First

/-- 'daybooklaw08.SumsBack': WHATEVER THE INPUT: true; the input reads as it did. -/
def sumsBackSpec : ChangeSpec := { name := "sumsBack", fn := fun _ => fun
  | [d1, d2, d3] => { results := [.lit (.bool true)], args := [d1, d2, d3] }
  | _ => none }
def sumsBackRow : OpenClaim := { program := "ytejmndfdmikfaaadoor", sum := "184c72938fc9cb633c1d3cdcc21bbc0137a2926f5927fbc78a0204642771c2df", func := "daybook/daybooklaw08.SumsBack", spec := "sumsBack", inPlace := ["internal/bytealg.CountString", "internal/bytealg.IndexByteString", "internal/bytealg.IndexString"], unfollowed := true, recurses := true, named := ["unicode/utf8.first", "unicode/utf8.acceptRanges", "internal/bytealg.MaxLen"], apart := false, laid := [("unicode/utf8.acceptRanges", laid_unicode_utf8_acceptRanges), ("unicode/utf8.first", laid_unicode_utf8_first)] }
def SumsBackSaid : Prop := sumsBackRow.holds Tryd.pinned (OpenSpec.ofChange sumsBackSpec)

/-- ITS FALSE NEIGHBOUR: 'it returns false'. Refute it at one input. -/
def sumsBackWrong : ChangeSpec := { name := "sumsBack", fn := fun _ => fun
  | [d1, d2, d3] => { results := [.lit (.bool false)], args := [d1, d2, d3] }
  | _ => none }
def SumsBackWrongFalsely : Prop := sumsBackRow.holds Tryd.pinned (OpenSpec.ofChange sumsBackWrong)

/-- 'daybooklaw08.SumsTree': WHATEVER THE INPUT: true; the input reads as it did. -/
def sumsTreeSpec : ChangeSpec := { name := "sumsTree", fn := fun _ => fun
  | [d] => { results := [.lit (.bool true)], args := [d] }
  | _ => none }
def sumsTreeRow : OpenClaim := { program := "ytejmndfdmikfaaadoor", sum := "184c72938fc9cb633c1d3cdcc21bbc0137a2926f5927fbc78a0204642771c2df", func := "daybook/daybooklaw08.SumsTree", spec := "sumsTree", inPlace := ["internal/bytealg.CountString", "internal/bytealg.IndexByteString", "internal/bytealg.IndexString"], unfollowed := true, recurses := true, named := ["unicode/utf8.first", "unicode/utf8.acceptRanges", "internal/bytealg.MaxLen"], apart := false, laid := [("unicode/utf8.acceptRanges", laid_unicode_utf8_acceptRanges), ("unicode/utf8.first", laid_unicode_utf8_first)] }
def SumsTreeSaid : Prop := sumsTreeRow.holds Tryd.pinned (OpenSpec.ofChange sumsTreeSpec)

/-- ITS FALSE NEIGHBOUR: 'it returns false'. Refute it at one input. -/
def sumsTreeWrong : ChangeSpec := { name := "sumsTree", fn := fun _ => fun
  | [d] => { results := [.lit (.bool false)], args := [d] }
  | _ => none }
def SumsTreeWrongFalsely : Prop := sumsTreeRow.holds Tryd.pinned (OpenSpec.ofChange sumsTreeWrong)

/-- 'daybooklaw08.SumsOrder': WHATEVER THE INPUT: true; the input reads as it did. -/
def sumsOrderSpec : ChangeSpec := { name := "sumsOrder", fn := fun _ => fun
  | [d] => { results := [.lit (.bool true)], args := [d] }
  | _ => none }
def sumsOrderRow : OpenClaim := { program := "ytejmndfdmikfaaadoor", sum := "184c72938fc9cb633c1d3cdcc21bbc0137a2926f5927fbc78a0204642771c2df", func := "daybook/daybooklaw08.SumsOrder", spec := "sumsOrder", inPlace := ["internal/bytealg.CountString", "internal/bytealg.IndexByteString", "internal/bytealg.IndexString"], unfollowed := true, recurses := true, named := ["unicode/utf8.first", "unicode/utf8.acceptRanges", "internal/bytealg.MaxLen"], apart := false, laid := [("unicode/utf8.acceptRanges", laid_unicode_utf8_acceptRanges), ("unicode/utf8.first", laid_unicode_utf8_first)] }
def SumsOrderSaid : Prop := sumsOrderRow.holds Tryd.pinned (OpenSpec.ofChange sumsOrderSpec)

/-- ITS FALSE NEIGHBOUR: 'it returns false'. Refute it at one input. -/
def sumsOrderWrong : ChangeSpec := { name := "sumsOrder", fn := fun _ => fun
  | [d] => { results := [.lit (.bool false)], args := [d] }
  | _ => none }
def SumsOrderWrongFalsely : Prop := sumsOrderRow.holds Tryd.pinned (OpenSpec.ofChange sumsOrderWrong)

/-- 'daybooklaw09.DailyLater': WHATEVER THE INPUT: true; the input reads as it did. -/
def dailyLaterSpec : ChangeSpec := { name := "dailyLater", fn := fun _ => fun
  | [d1, d2, d3, d4] => { results := [.lit (.bool true)], args := [d1, d2, d3, d4] }
  | _ => none }
def dailyLaterRow : OpenClaim := { program := "ytejmndfdmikfaaadoor", sum := "184c72938fc9cb633c1d3cdcc21bbc0137a2926f5927fbc78a0204642771c2df", func := "daybook/daybooklaw09.DailyLater", spec := "dailyLater", inPlace := ["internal/bytealg.CountString", "internal/bytealg.IndexByteString", "internal/bytealg.IndexString", "slices.overlaps[daybook/daily.entry[[]int64]]", "math/bits.Add64"], unfollowed := true, recurses := true, named := ["unicode/utf8.first", "unicode/utf8.acceptRanges", "internal/bytealg.MaxLen"], apart := false, laid := [("unicode/utf8.acceptRanges", laid_unicode_utf8_acceptRanges), ("unicode/utf8.first", laid_unicode_utf8_first)] }
def DailyLaterSaid : Prop := dailyLaterRow.holds Tryd.pinned (OpenSpec.ofChange dailyLaterSpec)

/-- ITS FALSE NEIGHBOUR: 'it returns false'. Refute it at one input. -/
def dailyLaterWrong : ChangeSpec := { name := "dailyLater", fn := fun _ => fun
  | [d1, d2, d3, d4] => { results := [.lit (.bool false)], args := [d1, d2, d3, d4] }
  | _ => none }
def DailyLaterWrongFalsely : Prop := dailyLaterRow.holds Tryd.pinned (OpenSpec.ofChange dailyLaterWrong)

/-- 'daybooklaw09.DailyBack': WHATEVER THE INPUT: true; the input reads as it did. -/
def dailyBackSpec : ChangeSpec := { name := "dailyBack", fn := fun _ => fun
  | [d1, d2] => { results := [.lit (.bool true)], args := [d1, d2] }
  | _ => none }
def dailyBackRow : OpenClaim := { program := "ytejmndfdmikfaaadoor", sum := "184c72938fc9cb633c1d3cdcc21bbc0137a2926f5927fbc78a0204642771c2df", func := "daybook/daybooklaw09.DailyBack", spec := "dailyBack", inPlace := ["internal/bytealg.CountString", "internal/bytealg.IndexByteString", "internal/bytealg.IndexString", "slices.overlaps[daybook/daily.entry[[]int64]]", "math/bits.Add64"], unfollowed := true, recurses := true, named := ["unicode/utf8.first", "unicode/utf8.acceptRanges", "internal/bytealg.MaxLen"], apart := false, laid := [("unicode/utf8.acceptRanges", laid_unicode_utf8_acceptRanges), ("unicode/utf8.first", laid_unicode_utf8_first)] }
def DailyBackSaid : Prop := dailyBackRow.holds Tryd.pinned (OpenSpec.ofChange dailyBackSpec)

/-- ITS FALSE NEIGHBOUR: 'it returns false'. Refute it at one input. -/
def dailyBackWrong : ChangeSpec := { name := "dailyBack", fn := fun _ => fun
  | [d1, d2] => { results := [.lit (.bool false)], args := [d1, d2] }
  | _ => none }
def DailyBackWrongFalsely : Prop := dailyBackRow.holds Tryd.pinned (OpenSpec.ofChange dailyBackWrong)

/-- 'daybooklaw09.DailyDays': WHATEVER THE INPUT: true; the input reads as it did. -/
def dailyDaysSpec : ChangeSpec := { name := "dailyDays", fn := fun _ => fun
  | [d1, d2, d3, d4, d5] => { results := [.lit (.bool true)], args := [d1, d2, d3, d4, d5] }
  | _ => none }
def dailyDaysRow : OpenClaim := { program := "ytejmndfdmikfaaadoor", sum := "184c72938fc9cb633c1d3cdcc21bbc0137a2926f5927fbc78a0204642771c2df", func := "daybook/daybooklaw09.DailyDays", spec := "dailyDays", inPlace := ["internal/bytealg.CountString", "internal/bytealg.IndexByteString", "internal/bytealg.IndexString", "slices.overlaps[daybook/daily.entry[[]int64]]", "math/bits.Add64"], unfollowed := true, recurses := true, named := ["unicode/utf8.first", "unicode/utf8.acceptRanges", "internal/bytealg.MaxLen"], apart := false, laid := [("unicode/utf8.acceptRanges", laid_unicode_utf8_acceptRanges), ("unicode/utf8.first", laid_unicode_utf8_first)] }
def DailyDaysSaid : Prop := dailyDaysRow.holds Tryd.pinned (OpenSpec.ofChange dailyDaysSpec)

/-- ITS FALSE NEIGHBOUR: 'it returns false'. Refute it at one input. -/
def dailyDaysWrong : ChangeSpec := { name := "dailyDays", fn := fun _ => fun
  | [d1, d2, d3, d4, d5] => { results := [.lit (.bool false)], args := [d1, d2, d3, d4, d5] }
  | _ => none }
def DailyDaysWrongFalsely : Prop := dailyDaysRow.holds Tryd.pinned (OpenSpec.ofChange dailyDaysWrong)

/-- 'daybooklaw09.DailyOrder': WHATEVER THE INPUT: true; the input reads as it did. -/
def dailyOrderSpec : ChangeSpec := { name := "dailyOrder", fn := fun _ => fun
  | [d] => { results := [.lit (.bool true)], args := [d] }
  | _ => none }
def dailyOrderRow : OpenClaim := { program := "ytejmndfdmikfaaadoor", sum := "184c72938fc9cb633c1d3cdcc21bbc0137a2926f5927fbc78a0204642771c2df", func := "daybook/daybooklaw09.DailyOrder", spec := "dailyOrder", inPlace := ["internal/bytealg.CountString", "internal/bytealg.IndexByteString", "internal/bytealg.IndexString", "slices.overlaps[daybook/daily.entry[[]int64]]", "math/bits.Add64"], unfollowed := true, recurses := true, named := ["unicode/utf8.first", "unicode/utf8.acceptRanges", "internal/bytealg.MaxLen"], apart := false, laid := [("unicode/utf8.acceptRanges", laid_unicode_utf8_acceptRanges), ("unicode/utf8.first", laid_unicode_utf8_first)] }
def DailyOrderSaid : Prop := dailyOrderRow.holds Tryd.pinned (OpenSpec.ofChange dailyOrderSpec)

/-- ITS FALSE NEIGHBOUR: 'it returns false'. Refute it at one input. -/
def dailyOrderWrong : ChangeSpec := { name := "dailyOrder", fn := fun _ => fun
  | [d] => { results := [.lit (.bool false)], args := [d] }
  | _ => none }
def DailyOrderWrongFalsely : Prop := dailyOrderRow.holds Tryd.pinned (OpenSpec.ofChange dailyOrderWrong)

/- THE SECOND FORM. 'bulk': how many values and letters a reading holds, each counted each time it is reached (what is shared counts as often as it is met; a slice's spare places count too). A statement '..UptoSaid' is the law's where the arguments, and the package variables that the reading takes, are together of bulk at most 1048576: NARROWER than '..Said'. Prove '..Said' where nothing that the law and all that it calls make is longer than what came in: it says more and counts as full. Else prove '..UptoSaid'. A law counts once. -/
mutual
def uptoBulk {H : Type} : DataW H → Nat
  | .lit (.string bytes) => bytes.length + 1
  | .lit _ => 1
  | .nil => 1
  | .ptr d => uptoBulk d + 1
  | .slice elems spare => uptoBulkAll elems + uptoBulkAll spare + 1
  | .agg parts => uptoBulkAll parts + 1
  | .iface _ d => uptoBulk d + 1
  | .map entries => uptoBulkEntries entries + 1
  | .held _ => 1
def uptoBulkAll {H : Type} : List (DataW H) → Nat
  | [] => 0
  | d :: r => uptoBulk d + uptoBulkAll r
def uptoBulkEntries {H : Type} : List (Lit × DataW H) → Nat
  | [] => 0
  | x :: r => uptoBulkEntry x + uptoBulkEntries r
def uptoBulkEntry {H : Type} : Lit × DataW H → Nat
  | (.string bytes, d) => bytes.length + uptoBulk d + 1
  | (_, d) => uptoBulk d + 1
 end
def uptoSmall : (H : Type) → List (DataW H) → Bool := fun _ ds => decide (uptoBulkAll ds ≤ 1048576)
def OpenSpec.upto (s : _root_.Go.ChangeSpec) : _root_.Go.OpenSpec := { _root_.Go.OpenSpec.ofChange s with cond := some uptoSmall }

/-- 'daybooklaw08.SumsBack', WHERE WHAT IT READS IS OF BULK AT MOST 1048576: true; the input reads as it did. -/
def sumsBackUptoRow : OpenClaim := { program := "ytejmndfdmikfaaadoor", sum := "184c72938fc9cb633c1d3cdcc21bbc0137a2926f5927fbc78a0204642771c2df", func := "daybook/daybooklaw08.SumsBack", spec := "sumsBack", inPlace := ["internal/bytealg.CountString", "internal/bytealg.IndexByteString", "internal/bytealg.IndexString"], unfollowed := true, recurses := true, named := ["unicode/utf8.first", "unicode/utf8.acceptRanges", "internal/bytealg.MaxLen"], apart := false, laid := [("unicode/utf8.acceptRanges", laid_unicode_utf8_acceptRanges), ("unicode/utf8.first", laid_unicode_utf8_first)], narrowed := true }
def SumsBackUptoSaid : Prop := sumsBackUptoRow.holds Tryd.pinned (OpenSpec.upto sumsBackSpec)

/-- 'daybooklaw08.SumsTree', WHERE WHAT IT READS IS OF BULK AT MOST 1048576: true; the input reads as it did. -/
def sumsTreeUptoRow : OpenClaim := { program := "ytejmndfdmikfaaadoor", sum := "184c72938fc9cb633c1d3cdcc21bbc0137a2926f5927fbc78a0204642771c2df", func := "daybook/daybooklaw08.SumsTree", spec := "sumsTree", inPlace := ["internal/bytealg.CountString", "internal/bytealg.IndexByteString", "internal/bytealg.IndexString"], unfollowed := true, recurses := true, named := ["unicode/utf8.first", "unicode/utf8.acceptRanges", "internal/bytealg.MaxLen"], apart := false, laid := [("unicode/utf8.acceptRanges", laid_unicode_utf8_acceptRanges), ("unicode/utf8.first", laid_unicode_utf8_first)], narrowed := true }
def SumsTreeUptoSaid : Prop := sumsTreeUptoRow.holds Tryd.pinned (OpenSpec.upto sumsTreeSpec)

/-- 'daybooklaw08.SumsOrder', WHERE WHAT IT READS IS OF BULK AT MOST 1048576: true; the input reads as it did. -/
def sumsOrderUptoRow : OpenClaim := { program := "ytejmndfdmikfaaadoor", sum := "184c72938fc9cb633c1d3cdcc21bbc0137a2926f5927fbc78a0204642771c2df", func := "daybook/daybooklaw08.SumsOrder", spec := "sumsOrder", inPlace := ["internal/bytealg.CountString", "internal/bytealg.IndexByteString", "internal/bytealg.IndexString"], unfollowed := true, recurses := true, named := ["unicode/utf8.first", "unicode/utf8.acceptRanges", "internal/bytealg.MaxLen"], apart := false, laid := [("unicode/utf8.acceptRanges", laid_unicode_utf8_acceptRanges), ("unicode/utf8.first", laid_unicode_utf8_first)], narrowed := true }
def SumsOrderUptoSaid : Prop := sumsOrderUptoRow.holds Tryd.pinned (OpenSpec.upto sumsOrderSpec)

/-- 'daybooklaw09.DailyLater', WHERE WHAT IT READS IS OF BULK AT MOST 1048576: true; the input reads as it did. -/
def dailyLaterUptoRow : OpenClaim := { program := "ytejmndfdmikfaaadoor", sum := "184c72938fc9cb633c1d3cdcc21bbc0137a2926f5927fbc78a0204642771c2df", func := "daybook/daybooklaw09.DailyLater", spec := "dailyLater", inPlace := ["internal/bytealg.CountString", "internal/bytealg.IndexByteString", "internal/bytealg.IndexString", "slices.overlaps[daybook/daily.entry[[]int64]]", "math/bits.Add64"], unfollowed := true, recurses := true, named := ["unicode/utf8.first", "unicode/utf8.acceptRanges", "internal/bytealg.MaxLen"], apart := false, laid := [("unicode/utf8.acceptRanges", laid_unicode_utf8_acceptRanges), ("unicode/utf8.first", laid_unicode_utf8_first)], narrowed := true }
def DailyLaterUptoSaid : Prop := dailyLaterUptoRow.holds Tryd.pinned (OpenSpec.upto dailyLaterSpec)

/-- 'daybooklaw09.DailyBack', WHERE WHAT IT READS IS OF BULK AT MOST 1048576: true; the input reads as it did. -/
def dailyBackUptoRow : OpenClaim := { program := "ytejmndfdmikfaaadoor", sum := "184c72938fc9cb633c1d3cdcc21bbc0137a2926f5927fbc78a0204642771c2df", func := "daybook/daybooklaw09.DailyBack", spec := "dailyBack", inPlace := ["internal/bytealg.CountString", "internal/bytealg.IndexByteString", "internal/bytealg.IndexString", "slices.overlaps[daybook/daily.entry[[]int64]]", "math/bits.Add64"], unfollowed := true, recurses := true, named := ["unicode/utf8.first", "unicode/utf8.acceptRanges", "internal/bytealg.MaxLen"], apart := false, laid := [("unicode/utf8.acceptRanges", laid_unicode_utf8_acceptRanges), ("unicode/utf8.first", laid_unicode_utf8_first)], narrowed := true }
def DailyBackUptoSaid : Prop := dailyBackUptoRow.holds Tryd.pinned (OpenSpec.upto dailyBackSpec)

/-- 'daybooklaw09.DailyDays', WHERE WHAT IT READS IS OF BULK AT MOST 1048576: true; the input reads as it did. -/
def dailyDaysUptoRow : OpenClaim := { program := "ytejmndfdmikfaaadoor", sum := "184c72938fc9cb633c1d3cdcc21bbc0137a2926f5927fbc78a0204642771c2df", func := "daybook/daybooklaw09.DailyDays", spec := "dailyDays", inPlace := ["internal/bytealg.CountString", "internal/bytealg.IndexByteString", "internal/bytealg.IndexString", "slices.overlaps[daybook/daily.entry[[]int64]]", "math/bits.Add64"], unfollowed := true, recurses := true, named := ["unicode/utf8.first", "unicode/utf8.acceptRanges", "internal/bytealg.MaxLen"], apart := false, laid := [("unicode/utf8.acceptRanges", laid_unicode_utf8_acceptRanges), ("unicode/utf8.first", laid_unicode_utf8_first)], narrowed := true }
def DailyDaysUptoSaid : Prop := dailyDaysUptoRow.holds Tryd.pinned (OpenSpec.upto dailyDaysSpec)

/-- 'daybooklaw09.DailyOrder', WHERE WHAT IT READS IS OF BULK AT MOST 1048576: true; the input reads as it did. -/
def dailyOrderUptoRow : OpenClaim := { program := "ytejmndfdmikfaaadoor", sum := "184c72938fc9cb633c1d3cdcc21bbc0137a2926f5927fbc78a0204642771c2df", func := "daybook/daybooklaw09.DailyOrder", spec := "dailyOrder", inPlace := ["internal/bytealg.CountString", "internal/bytealg.IndexByteString", "internal/bytealg.IndexString", "slices.overlaps[daybook/daily.entry[[]int64]]", "math/bits.Add64"], unfollowed := true, recurses := true, named := ["unicode/utf8.first", "unicode/utf8.acceptRanges", "internal/bytealg.MaxLen"], apart := false, laid := [("unicode/utf8.acceptRanges", laid_unicode_utf8_acceptRanges), ("unicode/utf8.first", laid_unicode_utf8_first)], narrowed := true }
def DailyOrderUptoSaid : Prop := dailyOrderUptoRow.holds Tryd.pinned (OpenSpec.upto dailyOrderSpec)

end Rows
end Go.Proofs.YtejmndfdmikfaaaDoor
