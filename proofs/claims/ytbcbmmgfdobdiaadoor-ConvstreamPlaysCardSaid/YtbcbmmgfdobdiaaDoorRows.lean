/-
  NARROWER THAN 'FOR EVERY INPUT', by the rows' own cells (each row's printed sentence says how): ConvstreamClosed: laid · ConvstreamNil: laid · ConvertReturns: laid · ConvertPieces: laid · ConvertSteps: laid · ConvertForms: laid · ConvstreamNew: laid · ConvstreamPending: laid · ConvstreamPlays: laid · ConvstreamWhole: laid · ConvstreamBegins: laid · ConvstreamCuts: laid.
  DERIVED. THE GIVEN ROWS OF THIS SEAT. 12 by the template 'for every input the law returns true; each argument reads behind the call as it read before'; 0 by the template 'total and deterministic' (their statements: YtbcbmmgfdobdiaaDoorTotals.lean).
  GIVEN WITH THE SEED: the statements are not yours to turn. If you find one false, say at which input.
  Laid BY PROGRAM, IN A SANDBOX (cutbox-rows.mjs): the forced cells as the released guide's own fill.sh prints them over the translation a6949231aafe7b34… (all of the seat's roots in one cut). By AI agents, Wed Nov 11 2026. No macro, syntax, notation, axiom, sorry.
-/
import Derived.Test.YtbcbmmgfdobdiaaDoorChecked
import GoSem.Claim
import GoSem.ClaimJoined
import GoSem.ClaimMapViews
import Derived.JoinedTies
import Derived.KernelRfl
namespace Go.Proofs.YtbcbmmgfdobdiaaDoor
/- THE CELL 'sum', in the pinned program and in every row, IS THE sha256 OF THE DUMP (.gsa) THAT YtbcbmmgfdobdiaaDoorProg.lean LOADS. Nothing in Lean hashes anything: it is a label: what it is worth is what the hold of that sum in a sandbox is worth. -/
noncomputable def Tryd.pinned : Pinned := { name := "ytbcbmmgfdobdiaadoor", sum := "a6949231aafe7b345831ede601821d088c45610ac3666dc9fcd394e9ec9060f8", checked := Tryd.checked }
namespace Rows
def none {H : Type} : Left H := { results := [], args := [] }

/- WHAT THE LISTED PACKAGE-LEVEL VARIABLES READ AS WHEN THE CALL BEGINS. Each datum BY PROGRAM (the guide's laid-datum.mjs) off the statement by which the dump's own 'gosem.cut.vars' lays the variable. In a bare row this is a premise. The card (YtbcbmmgfdobdiaaDoorCards.lean) ties it to the program's text. -/
def laid_unicodetext_codepoint_digits {H : Type} : DataW H := .agg [.lit (.int .u8 48), .lit (.int .u8 49), .lit (.int .u8 50), .lit (.int .u8 51), .lit (.int .u8 52), .lit (.int .u8 53), .lit (.int .u8 54), .lit (.int .u8 55), .lit (.int .u8 56), .lit (.int .u8 57), .lit (.int .u8 65), .lit (.int .u8 66), .lit (.int .u8 67), .lit (.int .u8 68), .lit (.int .u8 69), .lit (.int .u8 70)]

/-- 'unicodetextlaw08.ConvstreamClosed': WHATEVER THE INPUT: true; the input reads as it did. -/
def convstreamClosedSpec : ChangeSpec := { name := "convstreamClosed", fn := fun _ => fun
  | [d1, d2, d3] => { results := [.lit (.bool true)], args := [d1, d2, d3] }
  | _ => none }
def convstreamClosedRow : OpenClaim := { program := "ytbcbmmgfdobdiaadoor", sum := "a6949231aafe7b345831ede601821d088c45610ac3666dc9fcd394e9ec9060f8", func := "unicodetext/unicodetextlaw08.ConvstreamClosed", spec := "convstreamClosed", inPlace := ["internal/abi.NoEscape"], unfollowed := true, recurses := true, named := ["unicodetext/codepoint.digits"], apart := false, laid := [("unicodetext/codepoint.digits", laid_unicodetext_codepoint_digits)] }
def ConvstreamClosedSaid : Prop := convstreamClosedRow.holds Tryd.pinned (OpenSpec.ofChange convstreamClosedSpec)

/-- ITS FALSE NEIGHBOUR: 'it returns false'. Refute it at one input. -/
def convstreamClosedWrong : ChangeSpec := { name := "convstreamClosed", fn := fun _ => fun
  | [d1, d2, d3] => { results := [.lit (.bool false)], args := [d1, d2, d3] }
  | _ => none }
def ConvstreamClosedWrongFalsely : Prop := convstreamClosedRow.holds Tryd.pinned (OpenSpec.ofChange convstreamClosedWrong)

/-- 'unicodetextlaw08.ConvstreamNil': WHATEVER THE INPUT: true; the input reads as it did. -/
def convstreamNilSpec : ChangeSpec := { name := "convstreamNil", fn := fun _ => fun
  | [d] => { results := [.lit (.bool true)], args := [d] }
  | _ => none }
def convstreamNilRow : OpenClaim := { program := "ytbcbmmgfdobdiaadoor", sum := "a6949231aafe7b345831ede601821d088c45610ac3666dc9fcd394e9ec9060f8", func := "unicodetext/unicodetextlaw08.ConvstreamNil", spec := "convstreamNil", inPlace := ["internal/abi.NoEscape"], unfollowed := true, recurses := true, named := ["unicodetext/codepoint.digits"], apart := false, laid := [("unicodetext/codepoint.digits", laid_unicodetext_codepoint_digits)] }
def ConvstreamNilSaid : Prop := convstreamNilRow.holds Tryd.pinned (OpenSpec.ofChange convstreamNilSpec)

/-- ITS FALSE NEIGHBOUR: 'it returns false'. Refute it at one input. -/
def convstreamNilWrong : ChangeSpec := { name := "convstreamNil", fn := fun _ => fun
  | [d] => { results := [.lit (.bool false)], args := [d] }
  | _ => none }
def ConvstreamNilWrongFalsely : Prop := convstreamNilRow.holds Tryd.pinned (OpenSpec.ofChange convstreamNilWrong)

/-- 'unicodetextlaw07.ConvertReturns': WHATEVER THE INPUT: true; the input reads as it did. -/
def convertReturnsSpec : ChangeSpec := { name := "convertReturns", fn := fun _ => fun
  | [d1, d2, d3] => { results := [.lit (.bool true)], args := [d1, d2, d3] }
  | _ => none }
def convertReturnsRow : OpenClaim := { program := "ytbcbmmgfdobdiaadoor", sum := "a6949231aafe7b345831ede601821d088c45610ac3666dc9fcd394e9ec9060f8", func := "unicodetext/unicodetextlaw07.ConvertReturns", spec := "convertReturns", inPlace := ["internal/abi.NoEscape"], unfollowed := true, recurses := true, named := ["unicodetext/codepoint.digits"], apart := false, laid := [("unicodetext/codepoint.digits", laid_unicodetext_codepoint_digits)] }
def ConvertReturnsSaid : Prop := convertReturnsRow.holds Tryd.pinned (OpenSpec.ofChange convertReturnsSpec)

/-- ITS FALSE NEIGHBOUR: 'it returns false'. Refute it at one input. -/
def convertReturnsWrong : ChangeSpec := { name := "convertReturns", fn := fun _ => fun
  | [d1, d2, d3] => { results := [.lit (.bool false)], args := [d1, d2, d3] }
  | _ => none }
def ConvertReturnsWrongFalsely : Prop := convertReturnsRow.holds Tryd.pinned (OpenSpec.ofChange convertReturnsWrong)

/-- 'unicodetextlaw07.ConvertPieces': WHATEVER THE INPUT: true; the input reads as it did. -/
def convertPiecesSpec : ChangeSpec := { name := "convertPieces", fn := fun _ => fun
  | [d1, d2] => { results := [.lit (.bool true)], args := [d1, d2] }
  | _ => none }
def convertPiecesRow : OpenClaim := { program := "ytbcbmmgfdobdiaadoor", sum := "a6949231aafe7b345831ede601821d088c45610ac3666dc9fcd394e9ec9060f8", func := "unicodetext/unicodetextlaw07.ConvertPieces", spec := "convertPieces", inPlace := ["internal/abi.NoEscape"], unfollowed := true, recurses := true, named := ["unicodetext/codepoint.digits"], apart := false, laid := [("unicodetext/codepoint.digits", laid_unicodetext_codepoint_digits)] }
def ConvertPiecesSaid : Prop := convertPiecesRow.holds Tryd.pinned (OpenSpec.ofChange convertPiecesSpec)

/-- ITS FALSE NEIGHBOUR: 'it returns false'. Refute it at one input. -/
def convertPiecesWrong : ChangeSpec := { name := "convertPieces", fn := fun _ => fun
  | [d1, d2] => { results := [.lit (.bool false)], args := [d1, d2] }
  | _ => none }
def ConvertPiecesWrongFalsely : Prop := convertPiecesRow.holds Tryd.pinned (OpenSpec.ofChange convertPiecesWrong)

/-- 'unicodetextlaw07.ConvertSteps': WHATEVER THE INPUT: true; the input reads as it did. -/
def convertStepsSpec : ChangeSpec := { name := "convertSteps", fn := fun _ => fun
  | [d1, d2, d3] => { results := [.lit (.bool true)], args := [d1, d2, d3] }
  | _ => none }
def convertStepsRow : OpenClaim := { program := "ytbcbmmgfdobdiaadoor", sum := "a6949231aafe7b345831ede601821d088c45610ac3666dc9fcd394e9ec9060f8", func := "unicodetext/unicodetextlaw07.ConvertSteps", spec := "convertSteps", inPlace := ["internal/abi.NoEscape"], unfollowed := true, recurses := true, named := ["unicodetext/codepoint.digits"], apart := false, laid := [("unicodetext/codepoint.digits", laid_unicodetext_codepoint_digits)] }
def ConvertStepsSaid : Prop := convertStepsRow.holds Tryd.pinned (OpenSpec.ofChange convertStepsSpec)

/-- ITS FALSE NEIGHBOUR: 'it returns false'. Refute it at one input. -/
def convertStepsWrong : ChangeSpec := { name := "convertSteps", fn := fun _ => fun
  | [d1, d2, d3] => { results := [.lit (.bool false)], args := [d1, d2, d3] }
  | _ => none }
def ConvertStepsWrongFalsely : Prop := convertStepsRow.holds Tryd.pinned (OpenSpec.ofChange convertStepsWrong)

/-- 'unicodetextlaw07.ConvertForms': WHATEVER THE INPUT: true; the input reads as it did. -/
def convertFormsSpec : ChangeSpec := { name := "convertForms", fn := fun _ => fun
  | [d1, d2, d3] => { results := [.lit (.bool true)], args := [d1, d2, d3] }
  | _ => none }
def convertFormsRow : OpenClaim := { program := "ytbcbmmgfdobdiaadoor", sum := "a6949231aafe7b345831ede601821d088c45610ac3666dc9fcd394e9ec9060f8", func := "unicodetext/unicodetextlaw07.ConvertForms", spec := "convertForms", inPlace := ["internal/abi.NoEscape"], unfollowed := true, recurses := true, named := ["unicodetext/codepoint.digits"], apart := false, laid := [("unicodetext/codepoint.digits", laid_unicodetext_codepoint_digits)] }
def ConvertFormsSaid : Prop := convertFormsRow.holds Tryd.pinned (OpenSpec.ofChange convertFormsSpec)

/-- ITS FALSE NEIGHBOUR: 'it returns false'. Refute it at one input. -/
def convertFormsWrong : ChangeSpec := { name := "convertForms", fn := fun _ => fun
  | [d1, d2, d3] => { results := [.lit (.bool false)], args := [d1, d2, d3] }
  | _ => none }
def ConvertFormsWrongFalsely : Prop := convertFormsRow.holds Tryd.pinned (OpenSpec.ofChange convertFormsWrong)

/-- 'unicodetextlaw08.ConvstreamNew': WHATEVER THE INPUT: true; the input reads as it did. -/
def convstreamNewSpec : ChangeSpec := { name := "convstreamNew", fn := fun _ => fun
  | [d] => { results := [.lit (.bool true)], args := [d] }
  | _ => none }
def convstreamNewRow : OpenClaim := { program := "ytbcbmmgfdobdiaadoor", sum := "a6949231aafe7b345831ede601821d088c45610ac3666dc9fcd394e9ec9060f8", func := "unicodetext/unicodetextlaw08.ConvstreamNew", spec := "convstreamNew", inPlace := ["internal/abi.NoEscape"], unfollowed := true, recurses := true, named := ["unicodetext/codepoint.digits"], apart := false, laid := [("unicodetext/codepoint.digits", laid_unicodetext_codepoint_digits)] }
def ConvstreamNewSaid : Prop := convstreamNewRow.holds Tryd.pinned (OpenSpec.ofChange convstreamNewSpec)

/-- ITS FALSE NEIGHBOUR: 'it returns false'. Refute it at one input. -/
def convstreamNewWrong : ChangeSpec := { name := "convstreamNew", fn := fun _ => fun
  | [d] => { results := [.lit (.bool false)], args := [d] }
  | _ => none }
def ConvstreamNewWrongFalsely : Prop := convstreamNewRow.holds Tryd.pinned (OpenSpec.ofChange convstreamNewWrong)

/-- 'unicodetextlaw08.ConvstreamPending': WHATEVER THE INPUT: true; the input reads as it did. -/
def convstreamPendingSpec : ChangeSpec := { name := "convstreamPending", fn := fun _ => fun
  | [d1, d2] => { results := [.lit (.bool true)], args := [d1, d2] }
  | _ => none }
def convstreamPendingRow : OpenClaim := { program := "ytbcbmmgfdobdiaadoor", sum := "a6949231aafe7b345831ede601821d088c45610ac3666dc9fcd394e9ec9060f8", func := "unicodetext/unicodetextlaw08.ConvstreamPending", spec := "convstreamPending", inPlace := ["internal/abi.NoEscape"], unfollowed := true, recurses := true, named := ["unicodetext/codepoint.digits"], apart := false, laid := [("unicodetext/codepoint.digits", laid_unicodetext_codepoint_digits)] }
def ConvstreamPendingSaid : Prop := convstreamPendingRow.holds Tryd.pinned (OpenSpec.ofChange convstreamPendingSpec)

/-- ITS FALSE NEIGHBOUR: 'it returns false'. Refute it at one input. -/
def convstreamPendingWrong : ChangeSpec := { name := "convstreamPending", fn := fun _ => fun
  | [d1, d2] => { results := [.lit (.bool false)], args := [d1, d2] }
  | _ => none }
def ConvstreamPendingWrongFalsely : Prop := convstreamPendingRow.holds Tryd.pinned (OpenSpec.ofChange convstreamPendingWrong)

/-- 'unicodetextlaw08.ConvstreamPlays': WHATEVER THE INPUT: true; the input reads as it did. -/
def convstreamPlaysSpec : ChangeSpec := { name := "convstreamPlays", fn := fun _ => fun
  | [d1, d2] => { results := [.lit (.bool true)], args := [d1, d2] }
  | _ => none }
def convstreamPlaysRow : OpenClaim := { program := "ytbcbmmgfdobdiaadoor", sum := "a6949231aafe7b345831ede601821d088c45610ac3666dc9fcd394e9ec9060f8", func := "unicodetext/unicodetextlaw08.ConvstreamPlays", spec := "convstreamPlays", inPlace := ["internal/abi.NoEscape"], unfollowed := true, recurses := true, named := ["unicodetext/codepoint.digits"], apart := false, laid := [("unicodetext/codepoint.digits", laid_unicodetext_codepoint_digits)] }
def ConvstreamPlaysSaid : Prop := convstreamPlaysRow.holds Tryd.pinned (OpenSpec.ofChange convstreamPlaysSpec)

/-- ITS FALSE NEIGHBOUR: 'it returns false'. Refute it at one input. -/
def convstreamPlaysWrong : ChangeSpec := { name := "convstreamPlays", fn := fun _ => fun
  | [d1, d2] => { results := [.lit (.bool false)], args := [d1, d2] }
  | _ => none }
def ConvstreamPlaysWrongFalsely : Prop := convstreamPlaysRow.holds Tryd.pinned (OpenSpec.ofChange convstreamPlaysWrong)

/-- 'unicodetextlaw08.ConvstreamWhole': WHATEVER THE INPUT: true; the input reads as it did. -/
def convstreamWholeSpec : ChangeSpec := { name := "convstreamWhole", fn := fun _ => fun
  | [d1, d2] => { results := [.lit (.bool true)], args := [d1, d2] }
  | _ => none }
def convstreamWholeRow : OpenClaim := { program := "ytbcbmmgfdobdiaadoor", sum := "a6949231aafe7b345831ede601821d088c45610ac3666dc9fcd394e9ec9060f8", func := "unicodetext/unicodetextlaw08.ConvstreamWhole", spec := "convstreamWhole", inPlace := ["internal/abi.NoEscape"], unfollowed := true, recurses := true, named := ["unicodetext/codepoint.digits"], apart := false, laid := [("unicodetext/codepoint.digits", laid_unicodetext_codepoint_digits)] }
def ConvstreamWholeSaid : Prop := convstreamWholeRow.holds Tryd.pinned (OpenSpec.ofChange convstreamWholeSpec)

/-- ITS FALSE NEIGHBOUR: 'it returns false'. Refute it at one input. -/
def convstreamWholeWrong : ChangeSpec := { name := "convstreamWhole", fn := fun _ => fun
  | [d1, d2] => { results := [.lit (.bool false)], args := [d1, d2] }
  | _ => none }
def ConvstreamWholeWrongFalsely : Prop := convstreamWholeRow.holds Tryd.pinned (OpenSpec.ofChange convstreamWholeWrong)

/-- 'unicodetextlaw08.ConvstreamBegins': WHATEVER THE INPUT: true; the input reads as it did. -/
def convstreamBeginsSpec : ChangeSpec := { name := "convstreamBegins", fn := fun _ => fun
  | [d1, d2] => { results := [.lit (.bool true)], args := [d1, d2] }
  | _ => none }
def convstreamBeginsRow : OpenClaim := { program := "ytbcbmmgfdobdiaadoor", sum := "a6949231aafe7b345831ede601821d088c45610ac3666dc9fcd394e9ec9060f8", func := "unicodetext/unicodetextlaw08.ConvstreamBegins", spec := "convstreamBegins", inPlace := ["internal/abi.NoEscape"], unfollowed := true, recurses := true, named := ["unicodetext/codepoint.digits"], apart := false, laid := [("unicodetext/codepoint.digits", laid_unicodetext_codepoint_digits)] }
def ConvstreamBeginsSaid : Prop := convstreamBeginsRow.holds Tryd.pinned (OpenSpec.ofChange convstreamBeginsSpec)

/-- ITS FALSE NEIGHBOUR: 'it returns false'. Refute it at one input. -/
def convstreamBeginsWrong : ChangeSpec := { name := "convstreamBegins", fn := fun _ => fun
  | [d1, d2] => { results := [.lit (.bool false)], args := [d1, d2] }
  | _ => none }
def ConvstreamBeginsWrongFalsely : Prop := convstreamBeginsRow.holds Tryd.pinned (OpenSpec.ofChange convstreamBeginsWrong)

/-- 'unicodetextlaw08.ConvstreamCuts': WHATEVER THE INPUT: true; the input reads as it did. -/
def convstreamCutsSpec : ChangeSpec := { name := "convstreamCuts", fn := fun _ => fun
  | [d1, d2] => { results := [.lit (.bool true)], args := [d1, d2] }
  | _ => none }
def convstreamCutsRow : OpenClaim := { program := "ytbcbmmgfdobdiaadoor", sum := "a6949231aafe7b345831ede601821d088c45610ac3666dc9fcd394e9ec9060f8", func := "unicodetext/unicodetextlaw08.ConvstreamCuts", spec := "convstreamCuts", inPlace := ["internal/abi.NoEscape"], unfollowed := true, recurses := true, named := ["unicodetext/codepoint.digits"], apart := false, laid := [("unicodetext/codepoint.digits", laid_unicodetext_codepoint_digits)] }
def ConvstreamCutsSaid : Prop := convstreamCutsRow.holds Tryd.pinned (OpenSpec.ofChange convstreamCutsSpec)

/-- ITS FALSE NEIGHBOUR: 'it returns false'. Refute it at one input. -/
def convstreamCutsWrong : ChangeSpec := { name := "convstreamCuts", fn := fun _ => fun
  | [d1, d2] => { results := [.lit (.bool false)], args := [d1, d2] }
  | _ => none }
def ConvstreamCutsWrongFalsely : Prop := convstreamCutsRow.holds Tryd.pinned (OpenSpec.ofChange convstreamCutsWrong)

/- THE SECOND FORM. 'bulk': how many values and letters a reading holds, each counted each time it is reached (what is shared counts as often as it is met; a slice's spare places count too). A statement '..UptoSaid' is the law's where the arguments, and the package variables that the reading takes, are together of bulk at most 1048576: NARROWER than '..Said'. Prove '..Said' where nothing that the law and all that it calls make is longer than what came in: it says more and counts as full. Else prove '..UptoSaid'. A law counts once. -/
mutual
def uptoBulk {H : Type} : DataW H → Nat
  | .lit (.string bytes) => bytes.length + 1
  | .lit _ => 1
  | .nil => 1
  | .ptr d => uptoBulk d + 1
  | .slice elems spare => uptoBulkAll elems + uptoBulkAll spare + 1
  | .agg parts => uptoBulkAll parts + 1
  | .iface _ d => uptoBulk d + 1
  | .map entries => uptoBulkEntries entries + 1
  | .held _ => 1
def uptoBulkAll {H : Type} : List (DataW H) → Nat
  | [] => 0
  | d :: r => uptoBulk d + uptoBulkAll r
def uptoBulkEntries {H : Type} : List (Lit × DataW H) → Nat
  | [] => 0
  | x :: r => uptoBulkEntry x + uptoBulkEntries r
def uptoBulkEntry {H : Type} : Lit × DataW H → Nat
  | (.string bytes, d) => bytes.length + uptoBulk d + 1
  | (_, d) => uptoBulk d + 1
 end
def uptoSmall : (H : Type) → List (DataW H) → Bool := fun _ ds => decide (uptoBulkAll ds ≤ 1048576)
def OpenSpec.upto (s : _root_.Go.ChangeSpec) : _root_.Go.OpenSpec := { _root_.Go.OpenSpec.ofChange s with cond := some uptoSmall }

/-- 'unicodetextlaw08.ConvstreamClosed', WHERE WHAT IT READS IS OF BULK AT MOST 1048576: true; the input reads as it did. -/
def convstreamClosedUptoRow : OpenClaim := { program := "ytbcbmmgfdobdiaadoor", sum := "a6949231aafe7b345831ede601821d088c45610ac3666dc9fcd394e9ec9060f8", func := "unicodetext/unicodetextlaw08.ConvstreamClosed", spec := "convstreamClosed", inPlace := ["internal/abi.NoEscape"], unfollowed := true, recurses := true, named := ["unicodetext/codepoint.digits"], apart := false, laid := [("unicodetext/codepoint.digits", laid_unicodetext_codepoint_digits)], narrowed := true }
def ConvstreamClosedUptoSaid : Prop := convstreamClosedUptoRow.holds Tryd.pinned (OpenSpec.upto convstreamClosedSpec)

/-- 'unicodetextlaw08.ConvstreamNil', WHERE WHAT IT READS IS OF BULK AT MOST 1048576: true; the input reads as it did. -/
def convstreamNilUptoRow : OpenClaim := { program := "ytbcbmmgfdobdiaadoor", sum := "a6949231aafe7b345831ede601821d088c45610ac3666dc9fcd394e9ec9060f8", func := "unicodetext/unicodetextlaw08.ConvstreamNil", spec := "convstreamNil", inPlace := ["internal/abi.NoEscape"], unfollowed := true, recurses := true, named := ["unicodetext/codepoint.digits"], apart := false, laid := [("unicodetext/codepoint.digits", laid_unicodetext_codepoint_digits)], narrowed := true }
def ConvstreamNilUptoSaid : Prop := convstreamNilUptoRow.holds Tryd.pinned (OpenSpec.upto convstreamNilSpec)

/-- 'unicodetextlaw07.ConvertReturns', WHERE WHAT IT READS IS OF BULK AT MOST 1048576: true; the input reads as it did. -/
def convertReturnsUptoRow : OpenClaim := { program := "ytbcbmmgfdobdiaadoor", sum := "a6949231aafe7b345831ede601821d088c45610ac3666dc9fcd394e9ec9060f8", func := "unicodetext/unicodetextlaw07.ConvertReturns", spec := "convertReturns", inPlace := ["internal/abi.NoEscape"], unfollowed := true, recurses := true, named := ["unicodetext/codepoint.digits"], apart := false, laid := [("unicodetext/codepoint.digits", laid_unicodetext_codepoint_digits)], narrowed := true }
def ConvertReturnsUptoSaid : Prop := convertReturnsUptoRow.holds Tryd.pinned (OpenSpec.upto convertReturnsSpec)

/-- 'unicodetextlaw07.ConvertPieces', WHERE WHAT IT READS IS OF BULK AT MOST 1048576: true; the input reads as it did. -/
def convertPiecesUptoRow : OpenClaim := { program := "ytbcbmmgfdobdiaadoor", sum := "a6949231aafe7b345831ede601821d088c45610ac3666dc9fcd394e9ec9060f8", func := "unicodetext/unicodetextlaw07.ConvertPieces", spec := "convertPieces", inPlace := ["internal/abi.NoEscape"], unfollowed := true, recurses := true, named := ["unicodetext/codepoint.digits"], apart := false, laid := [("unicodetext/codepoint.digits", laid_unicodetext_codepoint_digits)], narrowed := true }
def ConvertPiecesUptoSaid : Prop := convertPiecesUptoRow.holds Tryd.pinned (OpenSpec.upto convertPiecesSpec)

/-- 'unicodetextlaw07.ConvertSteps', WHERE WHAT IT READS IS OF BULK AT MOST 1048576: true; the input reads as it did. -/
def convertStepsUptoRow : OpenClaim := { program := "ytbcbmmgfdobdiaadoor", sum := "a6949231aafe7b345831ede601821d088c45610ac3666dc9fcd394e9ec9060f8", func := "unicodetext/unicodetextlaw07.ConvertSteps", spec := "convertSteps", inPlace := ["internal/abi.NoEscape"], unfollowed := true, recurses := true, named := ["unicodetext/codepoint.digits"], apart := false, laid := [("unicodetext/codepoint.digits", laid_unicodetext_codepoint_digits)], narrowed := true }
def ConvertStepsUptoSaid : Prop := convertStepsUptoRow.holds Tryd.pinned (OpenSpec.upto convertStepsSpec)

/-- 'unicodetextlaw07.ConvertForms', WHERE WHAT IT READS IS OF BULK AT MOST 1048576: true; the input reads as it did. -/
def convertFormsUptoRow : OpenClaim := { program := "ytbcbmmgfdobdiaadoor", sum := "a6949231aafe7b345831ede601821d088c45610ac3666dc9fcd394e9ec9060f8", func := "unicodetext/unicodetextlaw07.ConvertForms", spec := "convertForms", inPlace := ["internal/abi.NoEscape"], unfollowed := true, recurses := true, named := ["unicodetext/codepoint.digits"], apart := false, laid := [("unicodetext/codepoint.digits", laid_unicodetext_codepoint_digits)], narrowed := true }
def ConvertFormsUptoSaid : Prop := convertFormsUptoRow.holds Tryd.pinned (OpenSpec.upto convertFormsSpec)

/-- 'unicodetextlaw08.ConvstreamNew', WHERE WHAT IT READS IS OF BULK AT MOST 1048576: true; the input reads as it did. -/
def convstreamNewUptoRow : OpenClaim := { program := "ytbcbmmgfdobdiaadoor", sum := "a6949231aafe7b345831ede601821d088c45610ac3666dc9fcd394e9ec9060f8", func := "unicodetext/unicodetextlaw08.ConvstreamNew", spec := "convstreamNew", inPlace := ["internal/abi.NoEscape"], unfollowed := true, recurses := true, named := ["unicodetext/codepoint.digits"], apart := false, laid := [("unicodetext/codepoint.digits", laid_unicodetext_codepoint_digits)], narrowed := true }
def ConvstreamNewUptoSaid : Prop := convstreamNewUptoRow.holds Tryd.pinned (OpenSpec.upto convstreamNewSpec)

/-- 'unicodetextlaw08.ConvstreamPending', WHERE WHAT IT READS IS OF BULK AT MOST 1048576: true; the input reads as it did. -/
def convstreamPendingUptoRow : OpenClaim := { program := "ytbcbmmgfdobdiaadoor", sum := "a6949231aafe7b345831ede601821d088c45610ac3666dc9fcd394e9ec9060f8", func := "unicodetext/unicodetextlaw08.ConvstreamPending", spec := "convstreamPending", inPlace := ["internal/abi.NoEscape"], unfollowed := true, recurses := true, named := ["unicodetext/codepoint.digits"], apart := false, laid := [("unicodetext/codepoint.digits", laid_unicodetext_codepoint_digits)], narrowed := true }
def ConvstreamPendingUptoSaid : Prop := convstreamPendingUptoRow.holds Tryd.pinned (OpenSpec.upto convstreamPendingSpec)

/-- 'unicodetextlaw08.ConvstreamPlays', WHERE WHAT IT READS IS OF BULK AT MOST 1048576: true; the input reads as it did. -/
def convstreamPlaysUptoRow : OpenClaim := { program := "ytbcbmmgfdobdiaadoor", sum := "a6949231aafe7b345831ede601821d088c45610ac3666dc9fcd394e9ec9060f8", func := "unicodetext/unicodetextlaw08.ConvstreamPlays", spec := "convstreamPlays", inPlace := ["internal/abi.NoEscape"], unfollowed := true, recurses := true, named := ["unicodetext/codepoint.digits"], apart := false, laid := [("unicodetext/codepoint.digits", laid_unicodetext_codepoint_digits)], narrowed := true }
def ConvstreamPlaysUptoSaid : Prop := convstreamPlaysUptoRow.holds Tryd.pinned (OpenSpec.upto convstreamPlaysSpec)

/-- 'unicodetextlaw08.ConvstreamWhole', WHERE WHAT IT READS IS OF BULK AT MOST 1048576: true; the input reads as it did. -/
def convstreamWholeUptoRow : OpenClaim := { program := "ytbcbmmgfdobdiaadoor", sum := "a6949231aafe7b345831ede601821d088c45610ac3666dc9fcd394e9ec9060f8", func := "unicodetext/unicodetextlaw08.ConvstreamWhole", spec := "convstreamWhole", inPlace := ["internal/abi.NoEscape"], unfollowed := true, recurses := true, named := ["unicodetext/codepoint.digits"], apart := false, laid := [("unicodetext/codepoint.digits", laid_unicodetext_codepoint_digits)], narrowed := true }
def ConvstreamWholeUptoSaid : Prop := convstreamWholeUptoRow.holds Tryd.pinned (OpenSpec.upto convstreamWholeSpec)

/-- 'unicodetextlaw08.ConvstreamBegins', WHERE WHAT IT READS IS OF BULK AT MOST 1048576: true; the input reads as it did. -/
def convstreamBeginsUptoRow : OpenClaim := { program := "ytbcbmmgfdobdiaadoor", sum := "a6949231aafe7b345831ede601821d088c45610ac3666dc9fcd394e9ec9060f8", func := "unicodetext/unicodetextlaw08.ConvstreamBegins", spec := "convstreamBegins", inPlace := ["internal/abi.NoEscape"], unfollowed := true, recurses := true, named := ["unicodetext/codepoint.digits"], apart := false, laid := [("unicodetext/codepoint.digits", laid_unicodetext_codepoint_digits)], narrowed := true }
def ConvstreamBeginsUptoSaid : Prop := convstreamBeginsUptoRow.holds Tryd.pinned (OpenSpec.upto convstreamBeginsSpec)

/-- 'unicodetextlaw08.ConvstreamCuts', WHERE WHAT IT READS IS OF BULK AT MOST 1048576: true; the input reads as it did. -/
def convstreamCutsUptoRow : OpenClaim := { program := "ytbcbmmgfdobdiaadoor", sum := "a6949231aafe7b345831ede601821d088c45610ac3666dc9fcd394e9ec9060f8", func := "unicodetext/unicodetextlaw08.ConvstreamCuts", spec := "convstreamCuts", inPlace := ["internal/abi.NoEscape"], unfollowed := true, recurses := true, named := ["unicodetext/codepoint.digits"], apart := false, laid := [("unicodetext/codepoint.digits", laid_unicodetext_codepoint_digits)], narrowed := true }
def ConvstreamCutsUptoSaid : Prop := convstreamCutsUptoRow.holds Tryd.pinned (OpenSpec.upto convstreamCutsSpec)

end Rows
end Go.Proofs.YtbcbmmgfdobdiaaDoor
