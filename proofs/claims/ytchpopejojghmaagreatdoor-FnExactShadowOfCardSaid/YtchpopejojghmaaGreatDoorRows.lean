/-
  NARROWER THAN 'FOR EVERY INPUT', by the rows' own cells (each row's printed sentence says how): FnExactFits: laid · FnExactSameShapes: laid · FnExactShadowOf: laid · FnExactBestOf: laid · FnTopBest: laid · FnFits: laid · FnSameShapes: laid · FnFirstRefused: laid · FnShadowOf: laid · FnBestOf: laid · FnCallBest: laid · FnCommonShape: laid.
  DERIVED. THE GIVEN ROWS OF THIS SEAT. 12 by the template 'for every input the law returns true; each argument reads behind the call as it read before'; 0 by the template 'total and deterministic' (their statements: YtchpopejojghmaaGreatDoorTotals.lean).
  GIVEN WITH THE SEED: the statements are not yours to turn. If you find one false, say at which input.
  Laid BY PROGRAM, IN A SANDBOX (cutbox-rows.mjs): the forced cells as the released guide's own fill.sh prints them over the translation acb43f2abff41f61… (all of the seat's roots in one cut). By AI agents, Wed Nov 11 2026. No macro, syntax, notation, axiom, sorry.
-/
import Derived.Test.YtchpopejojghmaaGreatDoorChecked
import GoSem.PinnedTables
import GoSem.Claim
import GoSem.ClaimJoined
import GoSem.ClaimMapViews
import Derived.JoinedTies
import Derived.KernelRfl
namespace Go.Proofs.YtchpopejojghmaaGreatDoor
/- THE CELL 'sum', in the pinned program and in every row, IS THE sha256 OF THE DUMP (.gsa) THAT YtchpopejojghmaaGreatDoorProg.lean LOADS. Nothing in Lean hashes anything: it is a label: what it is worth is what the hold of that sum in a sandbox is worth. -/
noncomputable def Tryz.pinned : Pinned := { name := "ytchpopejojghmaagreatdoor", sum := "acb43f2abff41f61469fafa59c04e87b63b1fa032468f198c81ca70eff4a5202", checked := Tryz.checked }
namespace Rows
def none {H : Type} : Left H := { results := [], args := [] }

/- WHAT THE LISTED PACKAGE-LEVEL VARIABLES READ AS WHEN THE CALL BEGINS. Each datum BY PROGRAM (the guide's laid-datum.mjs) off the statement by which the dump's own 'gosem.cut.vars' lays the variable. In a bare row this is a premise. The card (YtchpopejojghmaaGreatDoorCards.lean) ties it to the program's text. -/
def laid_unicode_utf8_acceptRanges {H : Type} : DataW H := .agg [.agg [.lit (.int .u8 128), .lit (.int .u8 191)], .agg [.lit (.int .u8 160), .lit (.int .u8 191)], .agg [.lit (.int .u8 128), .lit (.int .u8 159)], .agg [.lit (.int .u8 144), .lit (.int .u8 191)], .agg [.lit (.int .u8 128), .lit (.int .u8 143)], .agg [.lit (.int .u8 0), .lit (.int .u8 0)], .agg [.lit (.int .u8 0), .lit (.int .u8 0)], .agg [.lit (.int .u8 0), .lit (.int .u8 0)], .agg [.lit (.int .u8 0), .lit (.int .u8 0)], .agg [.lit (.int .u8 0), .lit (.int .u8 0)], .agg [.lit (.int .u8 0), .lit (.int .u8 0)], .agg [.lit (.int .u8 0), .lit (.int .u8 0)], .agg [.lit (.int .u8 0), .lit (.int .u8 0)], .agg [.lit (.int .u8 0), .lit (.int .u8 0)], .agg [.lit (.int .u8 0), .lit (.int .u8 0)], .agg [.lit (.int .u8 0), .lit (.int .u8 0)]]
/-- One of Go's own tables, pinned by name: the form's constant. -/
def laid_unicode_utf8_first : DataW Unit := Go.Pinned.utf8First

/-- 'laws.FnExactFits': WHATEVER THE INPUT: true; the input reads as it did. -/
def fnExactFitsSpec : ChangeSpec := { name := "fnExactFits", fn := fun _ => fun
  | [d1, d2] => { results := [.lit (.bool true)], args := [d1, d2] }
  | _ => none }
def fnExactFitsRow : OpenClaim := { program := "ytchpopejojghmaagreatdoor", sum := "acb43f2abff41f61469fafa59c04e87b63b1fa032468f198c81ca70eff4a5202", func := "loop.example/callbinding/laws.FnExactFits", spec := "fnExactFits", inPlace := ["internal/bytealg.IndexByteString", "internal/bytealg.IndexString"], unfollowed := true, recurses := true, named := ["unicode/utf8.first", "unicode/utf8.acceptRanges", "internal/bytealg.MaxLen"], apart := false, laid := [("unicode/utf8.acceptRanges", laid_unicode_utf8_acceptRanges), ("unicode/utf8.first", laid_unicode_utf8_first)] }
def FnExactFitsSaid : Prop := fnExactFitsRow.holds Tryz.pinned (OpenSpec.ofChange fnExactFitsSpec)

/-- ITS FALSE NEIGHBOUR: 'it returns false'. Refute it at one input. -/
def fnExactFitsWrong : ChangeSpec := { name := "fnExactFits", fn := fun _ => fun
  | [d1, d2] => { results := [.lit (.bool false)], args := [d1, d2] }
  | _ => none }
def FnExactFitsWrongFalsely : Prop := fnExactFitsRow.holds Tryz.pinned (OpenSpec.ofChange fnExactFitsWrong)

/-- 'laws.FnExactSameShapes': WHATEVER THE INPUT: true; the input reads as it did. -/
def fnExactSameShapesSpec : ChangeSpec := { name := "fnExactSameShapes", fn := fun _ => fun
  | [d1, d2] => { results := [.lit (.bool true)], args := [d1, d2] }
  | _ => none }
def fnExactSameShapesRow : OpenClaim := { program := "ytchpopejojghmaagreatdoor", sum := "acb43f2abff41f61469fafa59c04e87b63b1fa032468f198c81ca70eff4a5202", func := "loop.example/callbinding/laws.FnExactSameShapes", spec := "fnExactSameShapes", inPlace := ["internal/bytealg.IndexByteString", "internal/bytealg.IndexString"], unfollowed := true, recurses := true, named := ["unicode/utf8.first", "unicode/utf8.acceptRanges", "internal/bytealg.MaxLen"], apart := false, laid := [("unicode/utf8.acceptRanges", laid_unicode_utf8_acceptRanges), ("unicode/utf8.first", laid_unicode_utf8_first)] }
def FnExactSameShapesSaid : Prop := fnExactSameShapesRow.holds Tryz.pinned (OpenSpec.ofChange fnExactSameShapesSpec)

/-- ITS FALSE NEIGHBOUR: 'it returns false'. Refute it at one input. -/
def fnExactSameShapesWrong : ChangeSpec := { name := "fnExactSameShapes", fn := fun _ => fun
  | [d1, d2] => { results := [.lit (.bool false)], args := [d1, d2] }
  | _ => none }
def FnExactSameShapesWrongFalsely : Prop := fnExactSameShapesRow.holds Tryz.pinned (OpenSpec.ofChange fnExactSameShapesWrong)

/-- 'laws.FnExactShadowOf': WHATEVER THE INPUT: true; the input reads as it did. -/
def fnExactShadowOfSpec : ChangeSpec := { name := "fnExactShadowOf", fn := fun _ => fun
  | [d1, d2] => { results := [.lit (.bool true)], args := [d1, d2] }
  | _ => none }
def fnExactShadowOfRow : OpenClaim := { program := "ytchpopejojghmaagreatdoor", sum := "acb43f2abff41f61469fafa59c04e87b63b1fa032468f198c81ca70eff4a5202", func := "loop.example/callbinding/laws.FnExactShadowOf", spec := "fnExactShadowOf", inPlace := ["internal/bytealg.IndexByteString", "internal/bytealg.IndexString"], unfollowed := true, recurses := true, named := ["unicode/utf8.first", "unicode/utf8.acceptRanges", "internal/bytealg.MaxLen"], apart := false, laid := [("unicode/utf8.acceptRanges", laid_unicode_utf8_acceptRanges), ("unicode/utf8.first", laid_unicode_utf8_first)] }
def FnExactShadowOfSaid : Prop := fnExactShadowOfRow.holds Tryz.pinned (OpenSpec.ofChange fnExactShadowOfSpec)

/-- ITS FALSE NEIGHBOUR: 'it returns false'. Refute it at one input. -/
def fnExactShadowOfWrong : ChangeSpec := { name := "fnExactShadowOf", fn := fun _ => fun
  | [d1, d2] => { results := [.lit (.bool false)], args := [d1, d2] }
  | _ => none }
def FnExactShadowOfWrongFalsely : Prop := fnExactShadowOfRow.holds Tryz.pinned (OpenSpec.ofChange fnExactShadowOfWrong)

/-- 'laws.FnExactBestOf': WHATEVER THE INPUT: true; the input reads as it did. -/
def fnExactBestOfSpec : ChangeSpec := { name := "fnExactBestOf", fn := fun _ => fun
  | [d1, d2] => { results := [.lit (.bool true)], args := [d1, d2] }
  | _ => none }
def fnExactBestOfRow : OpenClaim := { program := "ytchpopejojghmaagreatdoor", sum := "acb43f2abff41f61469fafa59c04e87b63b1fa032468f198c81ca70eff4a5202", func := "loop.example/callbinding/laws.FnExactBestOf", spec := "fnExactBestOf", inPlace := ["internal/bytealg.IndexByteString", "internal/bytealg.IndexString"], unfollowed := true, recurses := true, named := ["unicode/utf8.first", "unicode/utf8.acceptRanges", "internal/bytealg.MaxLen"], apart := false, laid := [("unicode/utf8.acceptRanges", laid_unicode_utf8_acceptRanges), ("unicode/utf8.first", laid_unicode_utf8_first)] }
def FnExactBestOfSaid : Prop := fnExactBestOfRow.holds Tryz.pinned (OpenSpec.ofChange fnExactBestOfSpec)

/-- ITS FALSE NEIGHBOUR: 'it returns false'. Refute it at one input. -/
def fnExactBestOfWrong : ChangeSpec := { name := "fnExactBestOf", fn := fun _ => fun
  | [d1, d2] => { results := [.lit (.bool false)], args := [d1, d2] }
  | _ => none }
def FnExactBestOfWrongFalsely : Prop := fnExactBestOfRow.holds Tryz.pinned (OpenSpec.ofChange fnExactBestOfWrong)

/-- 'laws.FnTopBest': WHATEVER THE INPUT: true; the input reads as it did. -/
def fnTopBestSpec : ChangeSpec := { name := "fnTopBest", fn := fun _ => fun
  | [d1, d2] => { results := [.lit (.bool true)], args := [d1, d2] }
  | _ => none }
def fnTopBestRow : OpenClaim := { program := "ytchpopejojghmaagreatdoor", sum := "acb43f2abff41f61469fafa59c04e87b63b1fa032468f198c81ca70eff4a5202", func := "loop.example/callbinding/laws.FnTopBest", spec := "fnTopBest", inPlace := ["internal/bytealg.IndexByteString", "internal/bytealg.IndexString"], unfollowed := true, recurses := true, named := ["unicode/utf8.first", "unicode/utf8.acceptRanges", "internal/bytealg.MaxLen"], apart := false, laid := [("unicode/utf8.acceptRanges", laid_unicode_utf8_acceptRanges), ("unicode/utf8.first", laid_unicode_utf8_first)] }
def FnTopBestSaid : Prop := fnTopBestRow.holds Tryz.pinned (OpenSpec.ofChange fnTopBestSpec)

/-- ITS FALSE NEIGHBOUR: 'it returns false'. Refute it at one input. -/
def fnTopBestWrong : ChangeSpec := { name := "fnTopBest", fn := fun _ => fun
  | [d1, d2] => { results := [.lit (.bool false)], args := [d1, d2] }
  | _ => none }
def FnTopBestWrongFalsely : Prop := fnTopBestRow.holds Tryz.pinned (OpenSpec.ofChange fnTopBestWrong)

/-- 'laws.FnFits': WHATEVER THE INPUT: true; the input reads as it did. -/
def fnFitsSpec : ChangeSpec := { name := "fnFits", fn := fun _ => fun
  | [d] => { results := [.lit (.bool true)], args := [d] }
  | _ => none }
def fnFitsRow : OpenClaim := { program := "ytchpopejojghmaagreatdoor", sum := "acb43f2abff41f61469fafa59c04e87b63b1fa032468f198c81ca70eff4a5202", func := "loop.example/callbinding/laws.FnFits", spec := "fnFits", inPlace := ["internal/bytealg.IndexByteString", "internal/bytealg.IndexString"], unfollowed := true, recurses := true, named := ["unicode/utf8.first", "unicode/utf8.acceptRanges", "internal/bytealg.MaxLen"], apart := false, laid := [("unicode/utf8.acceptRanges", laid_unicode_utf8_acceptRanges), ("unicode/utf8.first", laid_unicode_utf8_first)] }
def FnFitsSaid : Prop := fnFitsRow.holds Tryz.pinned (OpenSpec.ofChange fnFitsSpec)

/-- ITS FALSE NEIGHBOUR: 'it returns false'. Refute it at one input. -/
def fnFitsWrong : ChangeSpec := { name := "fnFits", fn := fun _ => fun
  | [d] => { results := [.lit (.bool false)], args := [d] }
  | _ => none }
def FnFitsWrongFalsely : Prop := fnFitsRow.holds Tryz.pinned (OpenSpec.ofChange fnFitsWrong)

/-- 'laws.FnSameShapes': WHATEVER THE INPUT: true; the input reads as it did. -/
def fnSameShapesSpec : ChangeSpec := { name := "fnSameShapes", fn := fun _ => fun
  | [d] => { results := [.lit (.bool true)], args := [d] }
  | _ => none }
def fnSameShapesRow : OpenClaim := { program := "ytchpopejojghmaagreatdoor", sum := "acb43f2abff41f61469fafa59c04e87b63b1fa032468f198c81ca70eff4a5202", func := "loop.example/callbinding/laws.FnSameShapes", spec := "fnSameShapes", inPlace := ["internal/bytealg.IndexByteString", "internal/bytealg.IndexString"], unfollowed := true, recurses := true, named := ["unicode/utf8.first", "unicode/utf8.acceptRanges", "internal/bytealg.MaxLen"], apart := false, laid := [("unicode/utf8.acceptRanges", laid_unicode_utf8_acceptRanges), ("unicode/utf8.first", laid_unicode_utf8_first)] }
def FnSameShapesSaid : Prop := fnSameShapesRow.holds Tryz.pinned (OpenSpec.ofChange fnSameShapesSpec)

/-- ITS FALSE NEIGHBOUR: 'it returns false'. Refute it at one input. -/
def fnSameShapesWrong : ChangeSpec := { name := "fnSameShapes", fn := fun _ => fun
  | [d] => { results := [.lit (.bool false)], args := [d] }
  | _ => none }
def FnSameShapesWrongFalsely : Prop := fnSameShapesRow.holds Tryz.pinned (OpenSpec.ofChange fnSameShapesWrong)

/-- 'laws.FnFirstRefused': WHATEVER THE INPUT: true; the input reads as it did. -/
def fnFirstRefusedSpec : ChangeSpec := { name := "fnFirstRefused", fn := fun _ => fun
  | [d] => { results := [.lit (.bool true)], args := [d] }
  | _ => none }
def fnFirstRefusedRow : OpenClaim := { program := "ytchpopejojghmaagreatdoor", sum := "acb43f2abff41f61469fafa59c04e87b63b1fa032468f198c81ca70eff4a5202", func := "loop.example/callbinding/laws.FnFirstRefused", spec := "fnFirstRefused", inPlace := ["internal/bytealg.IndexByteString", "internal/bytealg.IndexString"], unfollowed := true, recurses := true, named := ["unicode/utf8.first", "unicode/utf8.acceptRanges", "internal/bytealg.MaxLen"], apart := false, laid := [("unicode/utf8.acceptRanges", laid_unicode_utf8_acceptRanges), ("unicode/utf8.first", laid_unicode_utf8_first)] }
def FnFirstRefusedSaid : Prop := fnFirstRefusedRow.holds Tryz.pinned (OpenSpec.ofChange fnFirstRefusedSpec)

/-- ITS FALSE NEIGHBOUR: 'it returns false'. Refute it at one input. -/
def fnFirstRefusedWrong : ChangeSpec := { name := "fnFirstRefused", fn := fun _ => fun
  | [d] => { results := [.lit (.bool false)], args := [d] }
  | _ => none }
def FnFirstRefusedWrongFalsely : Prop := fnFirstRefusedRow.holds Tryz.pinned (OpenSpec.ofChange fnFirstRefusedWrong)

/-- 'laws.FnShadowOf': WHATEVER THE INPUT: true; the input reads as it did. -/
def fnShadowOfSpec : ChangeSpec := { name := "fnShadowOf", fn := fun _ => fun
  | [d] => { results := [.lit (.bool true)], args := [d] }
  | _ => none }
def fnShadowOfRow : OpenClaim := { program := "ytchpopejojghmaagreatdoor", sum := "acb43f2abff41f61469fafa59c04e87b63b1fa032468f198c81ca70eff4a5202", func := "loop.example/callbinding/laws.FnShadowOf", spec := "fnShadowOf", inPlace := ["internal/bytealg.IndexByteString", "internal/bytealg.IndexString"], unfollowed := true, recurses := true, named := ["unicode/utf8.first", "unicode/utf8.acceptRanges", "internal/bytealg.MaxLen"], apart := false, laid := [("unicode/utf8.acceptRanges", laid_unicode_utf8_acceptRanges), ("unicode/utf8.first", laid_unicode_utf8_first)] }
def FnShadowOfSaid : Prop := fnShadowOfRow.holds Tryz.pinned (OpenSpec.ofChange fnShadowOfSpec)

/-- ITS FALSE NEIGHBOUR: 'it returns false'. Refute it at one input. -/
def fnShadowOfWrong : ChangeSpec := { name := "fnShadowOf", fn := fun _ => fun
  | [d] => { results := [.lit (.bool false)], args := [d] }
  | _ => none }
def FnShadowOfWrongFalsely : Prop := fnShadowOfRow.holds Tryz.pinned (OpenSpec.ofChange fnShadowOfWrong)

/-- 'laws.FnBestOf': WHATEVER THE INPUT: true; the input reads as it did. -/
def fnBestOfSpec : ChangeSpec := { name := "fnBestOf", fn := fun _ => fun
  | [d] => { results := [.lit (.bool true)], args := [d] }
  | _ => none }
def fnBestOfRow : OpenClaim := { program := "ytchpopejojghmaagreatdoor", sum := "acb43f2abff41f61469fafa59c04e87b63b1fa032468f198c81ca70eff4a5202", func := "loop.example/callbinding/laws.FnBestOf", spec := "fnBestOf", inPlace := ["internal/bytealg.IndexByteString", "internal/bytealg.IndexString"], unfollowed := true, recurses := true, named := ["unicode/utf8.first", "unicode/utf8.acceptRanges", "internal/bytealg.MaxLen"], apart := false, laid := [("unicode/utf8.acceptRanges", laid_unicode_utf8_acceptRanges), ("unicode/utf8.first", laid_unicode_utf8_first)] }
def FnBestOfSaid : Prop := fnBestOfRow.holds Tryz.pinned (OpenSpec.ofChange fnBestOfSpec)

/-- ITS FALSE NEIGHBOUR: 'it returns false'. Refute it at one input. -/
def fnBestOfWrong : ChangeSpec := { name := "fnBestOf", fn := fun _ => fun
  | [d] => { results := [.lit (.bool false)], args := [d] }
  | _ => none }
def FnBestOfWrongFalsely : Prop := fnBestOfRow.holds Tryz.pinned (OpenSpec.ofChange fnBestOfWrong)

/-- 'laws.FnCallBest': WHATEVER THE INPUT: true; the input reads as it did. -/
def fnCallBestSpec : ChangeSpec := { name := "fnCallBest", fn := fun _ => fun
  | [d] => { results := [.lit (.bool true)], args := [d] }
  | _ => none }
def fnCallBestRow : OpenClaim := { program := "ytchpopejojghmaagreatdoor", sum := "acb43f2abff41f61469fafa59c04e87b63b1fa032468f198c81ca70eff4a5202", func := "loop.example/callbinding/laws.FnCallBest", spec := "fnCallBest", inPlace := ["internal/bytealg.IndexByteString", "internal/bytealg.IndexString"], unfollowed := true, recurses := true, named := ["unicode/utf8.first", "unicode/utf8.acceptRanges", "internal/bytealg.MaxLen"], apart := false, laid := [("unicode/utf8.acceptRanges", laid_unicode_utf8_acceptRanges), ("unicode/utf8.first", laid_unicode_utf8_first)] }
def FnCallBestSaid : Prop := fnCallBestRow.holds Tryz.pinned (OpenSpec.ofChange fnCallBestSpec)

/-- ITS FALSE NEIGHBOUR: 'it returns false'. Refute it at one input. -/
def fnCallBestWrong : ChangeSpec := { name := "fnCallBest", fn := fun _ => fun
  | [d] => { results := [.lit (.bool false)], args := [d] }
  | _ => none }
def FnCallBestWrongFalsely : Prop := fnCallBestRow.holds Tryz.pinned (OpenSpec.ofChange fnCallBestWrong)

/-- 'laws.FnCommonShape': WHATEVER THE INPUT: true; the input reads as it did. -/
def fnCommonShapeSpec : ChangeSpec := { name := "fnCommonShape", fn := fun _ => fun
  | [d] => { results := [.lit (.bool true)], args := [d] }
  | _ => none }
def fnCommonShapeRow : OpenClaim := { program := "ytchpopejojghmaagreatdoor", sum := "acb43f2abff41f61469fafa59c04e87b63b1fa032468f198c81ca70eff4a5202", func := "loop.example/callbinding/laws.FnCommonShape", spec := "fnCommonShape", inPlace := ["internal/bytealg.IndexByteString", "internal/bytealg.IndexString"], unfollowed := true, recurses := true, named := ["unicode/utf8.first", "unicode/utf8.acceptRanges", "internal/bytealg.MaxLen"], apart := false, laid := [("unicode/utf8.acceptRanges", laid_unicode_utf8_acceptRanges), ("unicode/utf8.first", laid_unicode_utf8_first)] }
def FnCommonShapeSaid : Prop := fnCommonShapeRow.holds Tryz.pinned (OpenSpec.ofChange fnCommonShapeSpec)

/-- ITS FALSE NEIGHBOUR: 'it returns false'. Refute it at one input. -/
def fnCommonShapeWrong : ChangeSpec := { name := "fnCommonShape", fn := fun _ => fun
  | [d] => { results := [.lit (.bool false)], args := [d] }
  | _ => none }
def FnCommonShapeWrongFalsely : Prop := fnCommonShapeRow.holds Tryz.pinned (OpenSpec.ofChange fnCommonShapeWrong)

/- THE SECOND FORM. 'bulk': how many values and letters a reading holds, each counted each time it is reached (what is shared counts as often as it is met; a slice's spare places count too). A statement '..UptoSaid' is the law's where the arguments, and the package variables that the reading takes, are together of bulk at most 1048576: NARROWER than '..Said'. Prove '..Said' where nothing that the law and all that it calls make is longer than what came in: it says more and counts as full. Else prove '..UptoSaid'. A law counts once. -/
mutual
def uptoBulk {H : Type} : DataW H → Nat
  | .lit (.string bytes) => bytes.length + 1
  | .lit _ => 1
  | .nil => 1
  | .ptr d => uptoBulk d + 1
  | .slice elems spare => uptoBulkAll elems + uptoBulkAll spare + 1
  | .agg parts => uptoBulkAll parts + 1
  | .iface _ d => uptoBulk d + 1
  | .map entries => uptoBulkEntries entries + 1
  | .held _ => 1
def uptoBulkAll {H : Type} : List (DataW H) → Nat
  | [] => 0
  | d :: r => uptoBulk d + uptoBulkAll r
def uptoBulkEntries {H : Type} : List (Lit × DataW H) → Nat
  | [] => 0
  | x :: r => uptoBulkEntry x + uptoBulkEntries r
def uptoBulkEntry {H : Type} : Lit × DataW H → Nat
  | (.string bytes, d) => bytes.length + uptoBulk d + 1
  | (_, d) => uptoBulk d + 1
 end
def uptoSmall : (H : Type) → List (DataW H) → Bool := fun _ ds => decide (uptoBulkAll ds ≤ 1048576)
def OpenSpec.upto (s : _root_.Go.ChangeSpec) : _root_.Go.OpenSpec := { _root_.Go.OpenSpec.ofChange s with cond := some uptoSmall }

/-- 'laws.FnExactFits', WHERE WHAT IT READS IS OF BULK AT MOST 1048576: true; the input reads as it did. -/
def fnExactFitsUptoRow : OpenClaim := { program := "ytchpopejojghmaagreatdoor", sum := "acb43f2abff41f61469fafa59c04e87b63b1fa032468f198c81ca70eff4a5202", func := "loop.example/callbinding/laws.FnExactFits", spec := "fnExactFits", inPlace := ["internal/bytealg.IndexByteString", "internal/bytealg.IndexString"], unfollowed := true, recurses := true, named := ["unicode/utf8.first", "unicode/utf8.acceptRanges", "internal/bytealg.MaxLen"], apart := false, laid := [("unicode/utf8.acceptRanges", laid_unicode_utf8_acceptRanges), ("unicode/utf8.first", laid_unicode_utf8_first)], narrowed := true }
def FnExactFitsUptoSaid : Prop := fnExactFitsUptoRow.holds Tryz.pinned (OpenSpec.upto fnExactFitsSpec)

/-- 'laws.FnExactSameShapes', WHERE WHAT IT READS IS OF BULK AT MOST 1048576: true; the input reads as it did. -/
def fnExactSameShapesUptoRow : OpenClaim := { program := "ytchpopejojghmaagreatdoor", sum := "acb43f2abff41f61469fafa59c04e87b63b1fa032468f198c81ca70eff4a5202", func := "loop.example/callbinding/laws.FnExactSameShapes", spec := "fnExactSameShapes", inPlace := ["internal/bytealg.IndexByteString", "internal/bytealg.IndexString"], unfollowed := true, recurses := true, named := ["unicode/utf8.first", "unicode/utf8.acceptRanges", "internal/bytealg.MaxLen"], apart := false, laid := [("unicode/utf8.acceptRanges", laid_unicode_utf8_acceptRanges), ("unicode/utf8.first", laid_unicode_utf8_first)], narrowed := true }
def FnExactSameShapesUptoSaid : Prop := fnExactSameShapesUptoRow.holds Tryz.pinned (OpenSpec.upto fnExactSameShapesSpec)

/-- 'laws.FnExactShadowOf', WHERE WHAT IT READS IS OF BULK AT MOST 1048576: true; the input reads as it did. -/
def fnExactShadowOfUptoRow : OpenClaim := { program := "ytchpopejojghmaagreatdoor", sum := "acb43f2abff41f61469fafa59c04e87b63b1fa032468f198c81ca70eff4a5202", func := "loop.example/callbinding/laws.FnExactShadowOf", spec := "fnExactShadowOf", inPlace := ["internal/bytealg.IndexByteString", "internal/bytealg.IndexString"], unfollowed := true, recurses := true, named := ["unicode/utf8.first", "unicode/utf8.acceptRanges", "internal/bytealg.MaxLen"], apart := false, laid := [("unicode/utf8.acceptRanges", laid_unicode_utf8_acceptRanges), ("unicode/utf8.first", laid_unicode_utf8_first)], narrowed := true }
def FnExactShadowOfUptoSaid : Prop := fnExactShadowOfUptoRow.holds Tryz.pinned (OpenSpec.upto fnExactShadowOfSpec)

/-- 'laws.FnExactBestOf', WHERE WHAT IT READS IS OF BULK AT MOST 1048576: true; the input reads as it did. -/
def fnExactBestOfUptoRow : OpenClaim := { program := "ytchpopejojghmaagreatdoor", sum := "acb43f2abff41f61469fafa59c04e87b63b1fa032468f198c81ca70eff4a5202", func := "loop.example/callbinding/laws.FnExactBestOf", spec := "fnExactBestOf", inPlace := ["internal/bytealg.IndexByteString", "internal/bytealg.IndexString"], unfollowed := true, recurses := true, named := ["unicode/utf8.first", "unicode/utf8.acceptRanges", "internal/bytealg.MaxLen"], apart := false, laid := [("unicode/utf8.acceptRanges", laid_unicode_utf8_acceptRanges), ("unicode/utf8.first", laid_unicode_utf8_first)], narrowed := true }
def FnExactBestOfUptoSaid : Prop := fnExactBestOfUptoRow.holds Tryz.pinned (OpenSpec.upto fnExactBestOfSpec)

/-- 'laws.FnTopBest', WHERE WHAT IT READS IS OF BULK AT MOST 1048576: true; the input reads as it did. -/
def fnTopBestUptoRow : OpenClaim := { program := "ytchpopejojghmaagreatdoor", sum := "acb43f2abff41f61469fafa59c04e87b63b1fa032468f198c81ca70eff4a5202", func := "loop.example/callbinding/laws.FnTopBest", spec := "fnTopBest", inPlace := ["internal/bytealg.IndexByteString", "internal/bytealg.IndexString"], unfollowed := true, recurses := true, named := ["unicode/utf8.first", "unicode/utf8.acceptRanges", "internal/bytealg.MaxLen"], apart := false, laid := [("unicode/utf8.acceptRanges", laid_unicode_utf8_acceptRanges), ("unicode/utf8.first", laid_unicode_utf8_first)], narrowed := true }
def FnTopBestUptoSaid : Prop := fnTopBestUptoRow.holds Tryz.pinned (OpenSpec.upto fnTopBestSpec)

/-- 'laws.FnFits', WHERE WHAT IT READS IS OF BULK AT MOST 1048576: true; the input reads as it did. -/
def fnFitsUptoRow : OpenClaim := { program := "ytchpopejojghmaagreatdoor", sum := "acb43f2abff41f61469fafa59c04e87b63b1fa032468f198c81ca70eff4a5202", func := "loop.example/callbinding/laws.FnFits", spec := "fnFits", inPlace := ["internal/bytealg.IndexByteString", "internal/bytealg.IndexString"], unfollowed := true, recurses := true, named := ["unicode/utf8.first", "unicode/utf8.acceptRanges", "internal/bytealg.MaxLen"], apart := false, laid := [("unicode/utf8.acceptRanges", laid_unicode_utf8_acceptRanges), ("unicode/utf8.first", laid_unicode_utf8_first)], narrowed := true }
def FnFitsUptoSaid : Prop := fnFitsUptoRow.holds Tryz.pinned (OpenSpec.upto fnFitsSpec)

/-- 'laws.FnSameShapes', WHERE WHAT IT READS IS OF BULK AT MOST 1048576: true; the input reads as it did. -/
def fnSameShapesUptoRow : OpenClaim := { program := "ytchpopejojghmaagreatdoor", sum := "acb43f2abff41f61469fafa59c04e87b63b1fa032468f198c81ca70eff4a5202", func := "loop.example/callbinding/laws.FnSameShapes", spec := "fnSameShapes", inPlace := ["internal/bytealg.IndexByteString", "internal/bytealg.IndexString"], unfollowed := true, recurses := true, named := ["unicode/utf8.first", "unicode/utf8.acceptRanges", "internal/bytealg.MaxLen"], apart := false, laid := [("unicode/utf8.acceptRanges", laid_unicode_utf8_acceptRanges), ("unicode/utf8.first", laid_unicode_utf8_first)], narrowed := true }
def FnSameShapesUptoSaid : Prop := fnSameShapesUptoRow.holds Tryz.pinned (OpenSpec.upto fnSameShapesSpec)

/-- 'laws.FnFirstRefused', WHERE WHAT IT READS IS OF BULK AT MOST 1048576: true; the input reads as it did. -/
def fnFirstRefusedUptoRow : OpenClaim := { program := "ytchpopejojghmaagreatdoor", sum := "acb43f2abff41f61469fafa59c04e87b63b1fa032468f198c81ca70eff4a5202", func := "loop.example/callbinding/laws.FnFirstRefused", spec := "fnFirstRefused", inPlace := ["internal/bytealg.IndexByteString", "internal/bytealg.IndexString"], unfollowed := true, recurses := true, named := ["unicode/utf8.first", "unicode/utf8.acceptRanges", "internal/bytealg.MaxLen"], apart := false, laid := [("unicode/utf8.acceptRanges", laid_unicode_utf8_acceptRanges), ("unicode/utf8.first", laid_unicode_utf8_first)], narrowed := true }
def FnFirstRefusedUptoSaid : Prop := fnFirstRefusedUptoRow.holds Tryz.pinned (OpenSpec.upto fnFirstRefusedSpec)

/-- 'laws.FnShadowOf', WHERE WHAT IT READS IS OF BULK AT MOST 1048576: true; the input reads as it did. -/
def fnShadowOfUptoRow : OpenClaim := { program := "ytchpopejojghmaagreatdoor", sum := "acb43f2abff41f61469fafa59c04e87b63b1fa032468f198c81ca70eff4a5202", func := "loop.example/callbinding/laws.FnShadowOf", spec := "fnShadowOf", inPlace := ["internal/bytealg.IndexByteString", "internal/bytealg.IndexString"], unfollowed := true, recurses := true, named := ["unicode/utf8.first", "unicode/utf8.acceptRanges", "internal/bytealg.MaxLen"], apart := false, laid := [("unicode/utf8.acceptRanges", laid_unicode_utf8_acceptRanges), ("unicode/utf8.first", laid_unicode_utf8_first)], narrowed := true }
def FnShadowOfUptoSaid : Prop := fnShadowOfUptoRow.holds Tryz.pinned (OpenSpec.upto fnShadowOfSpec)

/-- 'laws.FnBestOf', WHERE WHAT IT READS IS OF BULK AT MOST 1048576: true; the input reads as it did. -/
def fnBestOfUptoRow : OpenClaim := { program := "ytchpopejojghmaagreatdoor", sum := "acb43f2abff41f61469fafa59c04e87b63b1fa032468f198c81ca70eff4a5202", func := "loop.example/callbinding/laws.FnBestOf", spec := "fnBestOf", inPlace := ["internal/bytealg.IndexByteString", "internal/bytealg.IndexString"], unfollowed := true, recurses := true, named := ["unicode/utf8.first", "unicode/utf8.acceptRanges", "internal/bytealg.MaxLen"], apart := false, laid := [("unicode/utf8.acceptRanges", laid_unicode_utf8_acceptRanges), ("unicode/utf8.first", laid_unicode_utf8_first)], narrowed := true }
def FnBestOfUptoSaid : Prop := fnBestOfUptoRow.holds Tryz.pinned (OpenSpec.upto fnBestOfSpec)

/-- 'laws.FnCallBest', WHERE WHAT IT READS IS OF BULK AT MOST 1048576: true; the input reads as it did. -/
def fnCallBestUptoRow : OpenClaim := { program := "ytchpopejojghmaagreatdoor", sum := "acb43f2abff41f61469fafa59c04e87b63b1fa032468f198c81ca70eff4a5202", func := "loop.example/callbinding/laws.FnCallBest", spec := "fnCallBest", inPlace := ["internal/bytealg.IndexByteString", "internal/bytealg.IndexString"], unfollowed := true, recurses := true, named := ["unicode/utf8.first", "unicode/utf8.acceptRanges", "internal/bytealg.MaxLen"], apart := false, laid := [("unicode/utf8.acceptRanges", laid_unicode_utf8_acceptRanges), ("unicode/utf8.first", laid_unicode_utf8_first)], narrowed := true }
def FnCallBestUptoSaid : Prop := fnCallBestUptoRow.holds Tryz.pinned (OpenSpec.upto fnCallBestSpec)

/-- 'laws.FnCommonShape', WHERE WHAT IT READS IS OF BULK AT MOST 1048576: true; the input reads as it did. -/
def fnCommonShapeUptoRow : OpenClaim := { program := "ytchpopejojghmaagreatdoor", sum := "acb43f2abff41f61469fafa59c04e87b63b1fa032468f198c81ca70eff4a5202", func := "loop.example/callbinding/laws.FnCommonShape", spec := "fnCommonShape", inPlace := ["internal/bytealg.IndexByteString", "internal/bytealg.IndexString"], unfollowed := true, recurses := true, named := ["unicode/utf8.first", "unicode/utf8.acceptRanges", "internal/bytealg.MaxLen"], apart := false, laid := [("unicode/utf8.acceptRanges", laid_unicode_utf8_acceptRanges), ("unicode/utf8.first", laid_unicode_utf8_first)], narrowed := true }
def FnCommonShapeUptoSaid : Prop := fnCommonShapeUptoRow.holds Tryz.pinned (OpenSpec.upto fnCommonShapeSpec)

end Rows
end Go.Proofs.YtchpopejojghmaaGreatDoor
