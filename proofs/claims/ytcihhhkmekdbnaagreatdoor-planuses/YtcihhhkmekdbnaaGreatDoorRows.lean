/-
  NARROWER THAN 'FOR EVERY INPUT', by the rows' own cells (each row's printed sentence says how): PlanCompile: loops, laid · PlanTree: laid · PlanLimits: laid · PlanReach: laid · PlanEncode: laid · PlanUses: laid · PlanDecode: laid · PlanRound: laid.
  DERIVED. THE GIVEN ROWS OF THIS SEAT. 8 by the template 'for every input the law returns true; each argument reads behind the call as it read before'; 0 by the template 'total and deterministic' (their statements: YtcihhhkmekdbnaaGreatDoorTotals.lean).
  GIVEN WITH THE SEED: the statements are not yours to turn. If you find one false, say at which input.
  Laid BY PROGRAM, IN A SANDBOX (cutbox-rows.mjs): the forced cells as the released guide's own fill.sh prints them over the translation 2b4723080c383cc5… (all of the seat's roots in one cut). By AI agents, Wed Nov 11 2026. No macro, syntax, notation, axiom, sorry.
-/
import Derived.Test.YtcihhhkmekdbnaaGreatDoorChecked
import GoSem.PinnedTables
import GoSem.Claim
import GoSem.ClaimJoined
import GoSem.ClaimMapViews
import Derived.JoinedTies
import Derived.KernelRfl
namespace Go.Proofs.YtcihhhkmekdbnaaGreatDoor
/- THE CELL 'sum', in the pinned program and in every row, IS THE sha256 OF THE DUMP (.gsa) THAT YtcihhhkmekdbnaaGreatDoorProg.lean LOADS. Nothing in Lean hashes anything: it is a label: what it is worth is what the hold of that sum in a sandbox is worth. -/
noncomputable def Tryz.pinned : Pinned := { name := "ytcihhhkmekdbnaagreatdoor", sum := "2b4723080c383cc5f48be3b5bf1f8c7c2de505bbcf16e588e1ff205215935822", checked := Tryz.checked }
namespace Rows
def none {H : Type} : Left H := { results := [], args := [] }

/- WHAT THE LISTED PACKAGE-LEVEL VARIABLES READ AS WHEN THE CALL BEGINS. Each datum BY PROGRAM (the guide's laid-datum.mjs) off the statement by which the dump's own 'gosem.cut.vars' lays the variable. In a bare row this is a premise. The card (YtcihhhkmekdbnaaGreatDoorCards.lean) ties it to the program's text. -/
def laid_unicode_utf8_acceptRanges {H : Type} : DataW H := .agg [.agg [.lit (.int .u8 128), .lit (.int .u8 191)], .agg [.lit (.int .u8 160), .lit (.int .u8 191)], .agg [.lit (.int .u8 128), .lit (.int .u8 159)], .agg [.lit (.int .u8 144), .lit (.int .u8 191)], .agg [.lit (.int .u8 128), .lit (.int .u8 143)], .agg [.lit (.int .u8 0), .lit (.int .u8 0)], .agg [.lit (.int .u8 0), .lit (.int .u8 0)], .agg [.lit (.int .u8 0), .lit (.int .u8 0)], .agg [.lit (.int .u8 0), .lit (.int .u8 0)], .agg [.lit (.int .u8 0), .lit (.int .u8 0)], .agg [.lit (.int .u8 0), .lit (.int .u8 0)], .agg [.lit (.int .u8 0), .lit (.int .u8 0)], .agg [.lit (.int .u8 0), .lit (.int .u8 0)], .agg [.lit (.int .u8 0), .lit (.int .u8 0)], .agg [.lit (.int .u8 0), .lit (.int .u8 0)], .agg [.lit (.int .u8 0), .lit (.int .u8 0)]]
def laid_intervalmon_parser_groups {H : Type} : DataW H := .agg [.lit (.string [115, 117, 109]), .lit (.string [109, 105, 110]), .lit (.string [109, 97, 120]), .lit (.string [99, 111, 117, 110, 116]), .lit (.string [107, 116, 104])]
def laid_intervalmon_parser_functions {H : Type} : DataW H := .agg [.lit (.string [108, 97, 115, 116]), .lit (.string [108, 101, 97, 115, 116]), .lit (.string [103, 114, 101, 97, 116, 101, 115, 116]), .lit (.string [116, 111, 116, 97, 108]), .lit (.string [109, 101, 97, 110]), .lit (.string [105, 110, 99, 114, 101, 97, 115, 101]), .lit (.string [114, 97, 116, 101]), .lit (.string [107, 116, 104])]
/-- One of Go's own tables, pinned by name: the form's constant. -/
def laid_unicode_utf8_first : DataW Unit := Go.Pinned.utf8First

/-- 'intervalmonlaw23.PlanCompile': WHATEVER THE INPUT: true; the input reads as it did. -/
def planCompileSpec : ChangeSpec := { name := "planCompile", fn := fun _ => fun
  | [d1, d2, d3, d4, d5] => { results := [.lit (.bool true)], args := [d1, d2, d3, d4, d5] }
  | _ => none }
def planCompileRow : OpenClaim := { program := "ytcihhhkmekdbnaagreatdoor", sum := "2b4723080c383cc5f48be3b5bf1f8c7c2de505bbcf16e588e1ff205215935822", func := "intervalmon/intervalmonlaw23.PlanCompile", spec := "planCompile", inPlace := ["internal/bytealg.IndexByteString", "internal/bytealg.IndexString"], unfollowed := true, recurses := true, named := ["intervalmon/parser.groups", "unicode/utf8.first", "unicode/utf8.acceptRanges", "internal/bytealg.MaxLen", "intervalmon/parser.functions"], loops := true, apart := false, laid := [("unicode/utf8.acceptRanges", laid_unicode_utf8_acceptRanges), ("intervalmon/parser.groups", laid_intervalmon_parser_groups), ("intervalmon/parser.functions", laid_intervalmon_parser_functions), ("unicode/utf8.first", laid_unicode_utf8_first)] }
def PlanCompileSaid : Prop := planCompileRow.holds Tryz.pinned (OpenSpec.ofChange planCompileSpec)

/-- ITS FALSE NEIGHBOUR: 'it returns false'. Refute it at one input. -/
def planCompileWrong : ChangeSpec := { name := "planCompile", fn := fun _ => fun
  | [d1, d2, d3, d4, d5] => { results := [.lit (.bool false)], args := [d1, d2, d3, d4, d5] }
  | _ => none }
def PlanCompileWrongFalsely : Prop := planCompileRow.holds Tryz.pinned (OpenSpec.ofChange planCompileWrong)

/-- 'intervalmonlaw23.PlanTree': WHATEVER THE INPUT: true; the input reads as it did. -/
def planTreeSpec : ChangeSpec := { name := "planTree", fn := fun _ => fun
  | [d1, d2, d3, d4, d5] => { results := [.lit (.bool true)], args := [d1, d2, d3, d4, d5] }
  | _ => none }
def planTreeRow : OpenClaim := { program := "ytcihhhkmekdbnaagreatdoor", sum := "2b4723080c383cc5f48be3b5bf1f8c7c2de505bbcf16e588e1ff205215935822", func := "intervalmon/intervalmonlaw23.PlanTree", spec := "planTree", inPlace := ["internal/bytealg.IndexByteString", "internal/bytealg.IndexString"], unfollowed := true, recurses := true, named := ["intervalmon/parser.groups", "unicode/utf8.first", "unicode/utf8.acceptRanges", "internal/bytealg.MaxLen", "intervalmon/parser.functions"], apart := false, laid := [("unicode/utf8.acceptRanges", laid_unicode_utf8_acceptRanges), ("intervalmon/parser.groups", laid_intervalmon_parser_groups), ("intervalmon/parser.functions", laid_intervalmon_parser_functions), ("unicode/utf8.first", laid_unicode_utf8_first)] }
def PlanTreeSaid : Prop := planTreeRow.holds Tryz.pinned (OpenSpec.ofChange planTreeSpec)

/-- ITS FALSE NEIGHBOUR: 'it returns false'. Refute it at one input. -/
def planTreeWrong : ChangeSpec := { name := "planTree", fn := fun _ => fun
  | [d1, d2, d3, d4, d5] => { results := [.lit (.bool false)], args := [d1, d2, d3, d4, d5] }
  | _ => none }
def PlanTreeWrongFalsely : Prop := planTreeRow.holds Tryz.pinned (OpenSpec.ofChange planTreeWrong)

/-- 'intervalmonlaw23.PlanLimits': WHATEVER THE INPUT: true; the input reads as it did. -/
def planLimitsSpec : ChangeSpec := { name := "planLimits", fn := fun _ => fun
  | [d1, d2] => { results := [.lit (.bool true)], args := [d1, d2] }
  | _ => none }
def planLimitsRow : OpenClaim := { program := "ytcihhhkmekdbnaagreatdoor", sum := "2b4723080c383cc5f48be3b5bf1f8c7c2de505bbcf16e588e1ff205215935822", func := "intervalmon/intervalmonlaw23.PlanLimits", spec := "planLimits", inPlace := ["internal/bytealg.IndexByteString", "internal/bytealg.IndexString"], unfollowed := true, recurses := true, named := ["intervalmon/parser.groups", "unicode/utf8.first", "unicode/utf8.acceptRanges", "internal/bytealg.MaxLen", "intervalmon/parser.functions"], apart := false, laid := [("unicode/utf8.acceptRanges", laid_unicode_utf8_acceptRanges), ("intervalmon/parser.groups", laid_intervalmon_parser_groups), ("intervalmon/parser.functions", laid_intervalmon_parser_functions), ("unicode/utf8.first", laid_unicode_utf8_first)] }
def PlanLimitsSaid : Prop := planLimitsRow.holds Tryz.pinned (OpenSpec.ofChange planLimitsSpec)

/-- ITS FALSE NEIGHBOUR: 'it returns false'. Refute it at one input. -/
def planLimitsWrong : ChangeSpec := { name := "planLimits", fn := fun _ => fun
  | [d1, d2] => { results := [.lit (.bool false)], args := [d1, d2] }
  | _ => none }
def PlanLimitsWrongFalsely : Prop := planLimitsRow.holds Tryz.pinned (OpenSpec.ofChange planLimitsWrong)

/-- 'intervalmonlaw23.PlanReach': WHATEVER THE INPUT: true; the input reads as it did. -/
def planReachSpec : ChangeSpec := { name := "planReach", fn := fun _ => fun
  | [d1, d2, d3, d4, d5, d6] => { results := [.lit (.bool true)], args := [d1, d2, d3, d4, d5, d6] }
  | _ => none }
def planReachRow : OpenClaim := { program := "ytcihhhkmekdbnaagreatdoor", sum := "2b4723080c383cc5f48be3b5bf1f8c7c2de505bbcf16e588e1ff205215935822", func := "intervalmon/intervalmonlaw23.PlanReach", spec := "planReach", inPlace := ["internal/bytealg.IndexByteString", "internal/bytealg.IndexString"], unfollowed := true, recurses := true, named := ["intervalmon/parser.groups", "unicode/utf8.first", "unicode/utf8.acceptRanges", "internal/bytealg.MaxLen", "intervalmon/parser.functions"], apart := false, laid := [("unicode/utf8.acceptRanges", laid_unicode_utf8_acceptRanges), ("intervalmon/parser.groups", laid_intervalmon_parser_groups), ("intervalmon/parser.functions", laid_intervalmon_parser_functions), ("unicode/utf8.first", laid_unicode_utf8_first)] }
def PlanReachSaid : Prop := planReachRow.holds Tryz.pinned (OpenSpec.ofChange planReachSpec)

/-- ITS FALSE NEIGHBOUR: 'it returns false'. Refute it at one input. -/
def planReachWrong : ChangeSpec := { name := "planReach", fn := fun _ => fun
  | [d1, d2, d3, d4, d5, d6] => { results := [.lit (.bool false)], args := [d1, d2, d3, d4, d5, d6] }
  | _ => none }
def PlanReachWrongFalsely : Prop := planReachRow.holds Tryz.pinned (OpenSpec.ofChange planReachWrong)

/-- 'intervalmonlaw23.PlanEncode': WHATEVER THE INPUT: true; the input reads as it did. -/
def planEncodeSpec : ChangeSpec := { name := "planEncode", fn := fun _ => fun
  | [d1, d2, d3, d4] => { results := [.lit (.bool true)], args := [d1, d2, d3, d4] }
  | _ => none }
def planEncodeRow : OpenClaim := { program := "ytcihhhkmekdbnaagreatdoor", sum := "2b4723080c383cc5f48be3b5bf1f8c7c2de505bbcf16e588e1ff205215935822", func := "intervalmon/intervalmonlaw23.PlanEncode", spec := "planEncode", inPlace := ["internal/bytealg.IndexByteString", "internal/bytealg.IndexString"], unfollowed := true, recurses := true, named := ["intervalmon/parser.groups", "unicode/utf8.first", "unicode/utf8.acceptRanges", "internal/bytealg.MaxLen", "intervalmon/parser.functions"], apart := false, laid := [("unicode/utf8.acceptRanges", laid_unicode_utf8_acceptRanges), ("intervalmon/parser.groups", laid_intervalmon_parser_groups), ("intervalmon/parser.functions", laid_intervalmon_parser_functions), ("unicode/utf8.first", laid_unicode_utf8_first)] }
def PlanEncodeSaid : Prop := planEncodeRow.holds Tryz.pinned (OpenSpec.ofChange planEncodeSpec)

/-- ITS FALSE NEIGHBOUR: 'it returns false'. Refute it at one input. -/
def planEncodeWrong : ChangeSpec := { name := "planEncode", fn := fun _ => fun
  | [d1, d2, d3, d4] => { results := [.lit (.bool false)], args := [d1, d2, d3, d4] }
  | _ => none }
def PlanEncodeWrongFalsely : Prop := planEncodeRow.holds Tryz.pinned (OpenSpec.ofChange planEncodeWrong)

/-- 'intervalmonlaw23.PlanUses': WHATEVER THE INPUT: true; the input reads as it did. -/
def planUsesSpec : ChangeSpec := { name := "planUses", fn := fun _ => fun
  | [d1, d2, d3, d4, d5] => { results := [.lit (.bool true)], args := [d1, d2, d3, d4, d5] }
  | _ => none }
def planUsesRow : OpenClaim := { program := "ytcihhhkmekdbnaagreatdoor", sum := "2b4723080c383cc5f48be3b5bf1f8c7c2de505bbcf16e588e1ff205215935822", func := "intervalmon/intervalmonlaw23.PlanUses", spec := "planUses", inPlace := ["internal/bytealg.IndexByteString", "internal/bytealg.IndexString"], unfollowed := true, recurses := true, named := ["intervalmon/parser.groups", "unicode/utf8.first", "unicode/utf8.acceptRanges", "internal/bytealg.MaxLen", "intervalmon/parser.functions"], apart := false, laid := [("unicode/utf8.acceptRanges", laid_unicode_utf8_acceptRanges), ("intervalmon/parser.groups", laid_intervalmon_parser_groups), ("intervalmon/parser.functions", laid_intervalmon_parser_functions), ("unicode/utf8.first", laid_unicode_utf8_first)] }
def PlanUsesSaid : Prop := planUsesRow.holds Tryz.pinned (OpenSpec.ofChange planUsesSpec)

/-- ITS FALSE NEIGHBOUR: 'it returns false'. Refute it at one input. -/
def planUsesWrong : ChangeSpec := { name := "planUses", fn := fun _ => fun
  | [d1, d2, d3, d4, d5] => { results := [.lit (.bool false)], args := [d1, d2, d3, d4, d5] }
  | _ => none }
def PlanUsesWrongFalsely : Prop := planUsesRow.holds Tryz.pinned (OpenSpec.ofChange planUsesWrong)

/-- 'intervalmonlaw23.PlanDecode': WHATEVER THE INPUT: true; the input reads as it did. -/
def planDecodeSpec : ChangeSpec := { name := "planDecode", fn := fun _ => fun
  | [d1, d2, d3, d4] => { results := [.lit (.bool true)], args := [d1, d2, d3, d4] }
  | _ => none }
def planDecodeRow : OpenClaim := { program := "ytcihhhkmekdbnaagreatdoor", sum := "2b4723080c383cc5f48be3b5bf1f8c7c2de505bbcf16e588e1ff205215935822", func := "intervalmon/intervalmonlaw23.PlanDecode", spec := "planDecode", inPlace := ["internal/bytealg.IndexByteString", "internal/bytealg.IndexString"], unfollowed := true, recurses := true, named := ["intervalmon/parser.groups", "unicode/utf8.first", "unicode/utf8.acceptRanges", "internal/bytealg.MaxLen", "intervalmon/parser.functions"], apart := false, laid := [("unicode/utf8.acceptRanges", laid_unicode_utf8_acceptRanges), ("intervalmon/parser.groups", laid_intervalmon_parser_groups), ("intervalmon/parser.functions", laid_intervalmon_parser_functions), ("unicode/utf8.first", laid_unicode_utf8_first)] }
def PlanDecodeSaid : Prop := planDecodeRow.holds Tryz.pinned (OpenSpec.ofChange planDecodeSpec)

/-- ITS FALSE NEIGHBOUR: 'it returns false'. Refute it at one input. -/
def planDecodeWrong : ChangeSpec := { name := "planDecode", fn := fun _ => fun
  | [d1, d2, d3, d4] => { results := [.lit (.bool false)], args := [d1, d2, d3, d4] }
  | _ => none }
def PlanDecodeWrongFalsely : Prop := planDecodeRow.holds Tryz.pinned (OpenSpec.ofChange planDecodeWrong)

/-- 'intervalmonlaw23.PlanRound': WHATEVER THE INPUT: true; the input reads as it did. -/
def planRoundSpec : ChangeSpec := { name := "planRound", fn := fun _ => fun
  | [d1, d2] => { results := [.lit (.bool true)], args := [d1, d2] }
  | _ => none }
def planRoundRow : OpenClaim := { program := "ytcihhhkmekdbnaagreatdoor", sum := "2b4723080c383cc5f48be3b5bf1f8c7c2de505bbcf16e588e1ff205215935822", func := "intervalmon/intervalmonlaw23.PlanRound", spec := "planRound", inPlace := ["internal/bytealg.IndexByteString", "internal/bytealg.IndexString"], unfollowed := true, recurses := true, named := ["intervalmon/parser.groups", "unicode/utf8.first", "unicode/utf8.acceptRanges", "internal/bytealg.MaxLen", "intervalmon/parser.functions"], apart := false, laid := [("unicode/utf8.acceptRanges", laid_unicode_utf8_acceptRanges), ("intervalmon/parser.groups", laid_intervalmon_parser_groups), ("intervalmon/parser.functions", laid_intervalmon_parser_functions), ("unicode/utf8.first", laid_unicode_utf8_first)] }
def PlanRoundSaid : Prop := planRoundRow.holds Tryz.pinned (OpenSpec.ofChange planRoundSpec)

/-- ITS FALSE NEIGHBOUR: 'it returns false'. Refute it at one input. -/
def planRoundWrong : ChangeSpec := { name := "planRound", fn := fun _ => fun
  | [d1, d2] => { results := [.lit (.bool false)], args := [d1, d2] }
  | _ => none }
def PlanRoundWrongFalsely : Prop := planRoundRow.holds Tryz.pinned (OpenSpec.ofChange planRoundWrong)

/- THE SECOND FORM. 'bulk': how many values and letters a reading holds, each counted each time it is reached (what is shared counts as often as it is met; a slice's spare places count too). A statement '..UptoSaid' is the law's where the arguments, and the package variables that the reading takes, are together of bulk at most 1048576: NARROWER than '..Said'. Prove '..Said' where nothing that the law and all that it calls make is longer than what came in: it says more and counts as full. Else prove '..UptoSaid'. A law counts once. -/
mutual
def uptoBulk {H : Type} : DataW H → Nat
  | .lit (.string bytes) => bytes.length + 1
  | .lit _ => 1
  | .nil => 1
  | .ptr d => uptoBulk d + 1
  | .slice elems spare => uptoBulkAll elems + uptoBulkAll spare + 1
  | .agg parts => uptoBulkAll parts + 1
  | .iface _ d => uptoBulk d + 1
  | .map entries => uptoBulkEntries entries + 1
  | .held _ => 1
def uptoBulkAll {H : Type} : List (DataW H) → Nat
  | [] => 0
  | d :: r => uptoBulk d + uptoBulkAll r
def uptoBulkEntries {H : Type} : List (Lit × DataW H) → Nat
  | [] => 0
  | x :: r => uptoBulkEntry x + uptoBulkEntries r
def uptoBulkEntry {H : Type} : Lit × DataW H → Nat
  | (.string bytes, d) => bytes.length + uptoBulk d + 1
  | (_, d) => uptoBulk d + 1
 end
def uptoSmall : (H : Type) → List (DataW H) → Bool := fun _ ds => decide (uptoBulkAll ds ≤ 1048576)
def OpenSpec.upto (s : _root_.Go.ChangeSpec) : _root_.Go.OpenSpec := { _root_.Go.OpenSpec.ofChange s with cond := some uptoSmall }

/-- 'intervalmonlaw23.PlanCompile', WHERE WHAT IT READS IS OF BULK AT MOST 1048576: true; the input reads as it did. -/
def planCompileUptoRow : OpenClaim := { program := "ytcihhhkmekdbnaagreatdoor", sum := "2b4723080c383cc5f48be3b5bf1f8c7c2de505bbcf16e588e1ff205215935822", func := "intervalmon/intervalmonlaw23.PlanCompile", spec := "planCompile", inPlace := ["internal/bytealg.IndexByteString", "internal/bytealg.IndexString"], unfollowed := true, recurses := true, named := ["intervalmon/parser.groups", "unicode/utf8.first", "unicode/utf8.acceptRanges", "internal/bytealg.MaxLen", "intervalmon/parser.functions"], loops := true, apart := false, laid := [("unicode/utf8.acceptRanges", laid_unicode_utf8_acceptRanges), ("intervalmon/parser.groups", laid_intervalmon_parser_groups), ("intervalmon/parser.functions", laid_intervalmon_parser_functions), ("unicode/utf8.first", laid_unicode_utf8_first)], narrowed := true }
def PlanCompileUptoSaid : Prop := planCompileUptoRow.holds Tryz.pinned (OpenSpec.upto planCompileSpec)

/-- 'intervalmonlaw23.PlanTree', WHERE WHAT IT READS IS OF BULK AT MOST 1048576: true; the input reads as it did. -/
def planTreeUptoRow : OpenClaim := { program := "ytcihhhkmekdbnaagreatdoor", sum := "2b4723080c383cc5f48be3b5bf1f8c7c2de505bbcf16e588e1ff205215935822", func := "intervalmon/intervalmonlaw23.PlanTree", spec := "planTree", inPlace := ["internal/bytealg.IndexByteString", "internal/bytealg.IndexString"], unfollowed := true, recurses := true, named := ["intervalmon/parser.groups", "unicode/utf8.first", "unicode/utf8.acceptRanges", "internal/bytealg.MaxLen", "intervalmon/parser.functions"], apart := false, laid := [("unicode/utf8.acceptRanges", laid_unicode_utf8_acceptRanges), ("intervalmon/parser.groups", laid_intervalmon_parser_groups), ("intervalmon/parser.functions", laid_intervalmon_parser_functions), ("unicode/utf8.first", laid_unicode_utf8_first)], narrowed := true }
def PlanTreeUptoSaid : Prop := planTreeUptoRow.holds Tryz.pinned (OpenSpec.upto planTreeSpec)

/-- 'intervalmonlaw23.PlanLimits', WHERE WHAT IT READS IS OF BULK AT MOST 1048576: true; the input reads as it did. -/
def planLimitsUptoRow : OpenClaim := { program := "ytcihhhkmekdbnaagreatdoor", sum := "2b4723080c383cc5f48be3b5bf1f8c7c2de505bbcf16e588e1ff205215935822", func := "intervalmon/intervalmonlaw23.PlanLimits", spec := "planLimits", inPlace := ["internal/bytealg.IndexByteString", "internal/bytealg.IndexString"], unfollowed := true, recurses := true, named := ["intervalmon/parser.groups", "unicode/utf8.first", "unicode/utf8.acceptRanges", "internal/bytealg.MaxLen", "intervalmon/parser.functions"], apart := false, laid := [("unicode/utf8.acceptRanges", laid_unicode_utf8_acceptRanges), ("intervalmon/parser.groups", laid_intervalmon_parser_groups), ("intervalmon/parser.functions", laid_intervalmon_parser_functions), ("unicode/utf8.first", laid_unicode_utf8_first)], narrowed := true }
def PlanLimitsUptoSaid : Prop := planLimitsUptoRow.holds Tryz.pinned (OpenSpec.upto planLimitsSpec)

/-- 'intervalmonlaw23.PlanReach', WHERE WHAT IT READS IS OF BULK AT MOST 1048576: true; the input reads as it did. -/
def planReachUptoRow : OpenClaim := { program := "ytcihhhkmekdbnaagreatdoor", sum := "2b4723080c383cc5f48be3b5bf1f8c7c2de505bbcf16e588e1ff205215935822", func := "intervalmon/intervalmonlaw23.PlanReach", spec := "planReach", inPlace := ["internal/bytealg.IndexByteString", "internal/bytealg.IndexString"], unfollowed := true, recurses := true, named := ["intervalmon/parser.groups", "unicode/utf8.first", "unicode/utf8.acceptRanges", "internal/bytealg.MaxLen", "intervalmon/parser.functions"], apart := false, laid := [("unicode/utf8.acceptRanges", laid_unicode_utf8_acceptRanges), ("intervalmon/parser.groups", laid_intervalmon_parser_groups), ("intervalmon/parser.functions", laid_intervalmon_parser_functions), ("unicode/utf8.first", laid_unicode_utf8_first)], narrowed := true }
def PlanReachUptoSaid : Prop := planReachUptoRow.holds Tryz.pinned (OpenSpec.upto planReachSpec)

/-- 'intervalmonlaw23.PlanEncode', WHERE WHAT IT READS IS OF BULK AT MOST 1048576: true; the input reads as it did. -/
def planEncodeUptoRow : OpenClaim := { program := "ytcihhhkmekdbnaagreatdoor", sum := "2b4723080c383cc5f48be3b5bf1f8c7c2de505bbcf16e588e1ff205215935822", func := "intervalmon/intervalmonlaw23.PlanEncode", spec := "planEncode", inPlace := ["internal/bytealg.IndexByteString", "internal/bytealg.IndexString"], unfollowed := true, recurses := true, named := ["intervalmon/parser.groups", "unicode/utf8.first", "unicode/utf8.acceptRanges", "internal/bytealg.MaxLen", "intervalmon/parser.functions"], apart := false, laid := [("unicode/utf8.acceptRanges", laid_unicode_utf8_acceptRanges), ("intervalmon/parser.groups", laid_intervalmon_parser_groups), ("intervalmon/parser.functions", laid_intervalmon_parser_functions), ("unicode/utf8.first", laid_unicode_utf8_first)], narrowed := true }
def PlanEncodeUptoSaid : Prop := planEncodeUptoRow.holds Tryz.pinned (OpenSpec.upto planEncodeSpec)

/-- 'intervalmonlaw23.PlanUses', WHERE WHAT IT READS IS OF BULK AT MOST 1048576: true; the input reads as it did. -/
def planUsesUptoRow : OpenClaim := { program := "ytcihhhkmekdbnaagreatdoor", sum := "2b4723080c383cc5f48be3b5bf1f8c7c2de505bbcf16e588e1ff205215935822", func := "intervalmon/intervalmonlaw23.PlanUses", spec := "planUses", inPlace := ["internal/bytealg.IndexByteString", "internal/bytealg.IndexString"], unfollowed := true, recurses := true, named := ["intervalmon/parser.groups", "unicode/utf8.first", "unicode/utf8.acceptRanges", "internal/bytealg.MaxLen", "intervalmon/parser.functions"], apart := false, laid := [("unicode/utf8.acceptRanges", laid_unicode_utf8_acceptRanges), ("intervalmon/parser.groups", laid_intervalmon_parser_groups), ("intervalmon/parser.functions", laid_intervalmon_parser_functions), ("unicode/utf8.first", laid_unicode_utf8_first)], narrowed := true }
def PlanUsesUptoSaid : Prop := planUsesUptoRow.holds Tryz.pinned (OpenSpec.upto planUsesSpec)

/-- 'intervalmonlaw23.PlanDecode', WHERE WHAT IT READS IS OF BULK AT MOST 1048576: true; the input reads as it did. -/
def planDecodeUptoRow : OpenClaim := { program := "ytcihhhkmekdbnaagreatdoor", sum := "2b4723080c383cc5f48be3b5bf1f8c7c2de505bbcf16e588e1ff205215935822", func := "intervalmon/intervalmonlaw23.PlanDecode", spec := "planDecode", inPlace := ["internal/bytealg.IndexByteString", "internal/bytealg.IndexString"], unfollowed := true, recurses := true, named := ["intervalmon/parser.groups", "unicode/utf8.first", "unicode/utf8.acceptRanges", "internal/bytealg.MaxLen", "intervalmon/parser.functions"], apart := false, laid := [("unicode/utf8.acceptRanges", laid_unicode_utf8_acceptRanges), ("intervalmon/parser.groups", laid_intervalmon_parser_groups), ("intervalmon/parser.functions", laid_intervalmon_parser_functions), ("unicode/utf8.first", laid_unicode_utf8_first)], narrowed := true }
def PlanDecodeUptoSaid : Prop := planDecodeUptoRow.holds Tryz.pinned (OpenSpec.upto planDecodeSpec)

/-- 'intervalmonlaw23.PlanRound', WHERE WHAT IT READS IS OF BULK AT MOST 1048576: true; the input reads as it did. -/
def planRoundUptoRow : OpenClaim := { program := "ytcihhhkmekdbnaagreatdoor", sum := "2b4723080c383cc5f48be3b5bf1f8c7c2de505bbcf16e588e1ff205215935822", func := "intervalmon/intervalmonlaw23.PlanRound", spec := "planRound", inPlace := ["internal/bytealg.IndexByteString", "internal/bytealg.IndexString"], unfollowed := true, recurses := true, named := ["intervalmon/parser.groups", "unicode/utf8.first", "unicode/utf8.acceptRanges", "internal/bytealg.MaxLen", "intervalmon/parser.functions"], apart := false, laid := [("unicode/utf8.acceptRanges", laid_unicode_utf8_acceptRanges), ("intervalmon/parser.groups", laid_intervalmon_parser_groups), ("intervalmon/parser.functions", laid_intervalmon_parser_functions), ("unicode/utf8.first", laid_unicode_utf8_first)], narrowed := true }
def PlanRoundUptoSaid : Prop := planRoundUptoRow.holds Tryz.pinned (OpenSpec.upto planRoundSpec)

end Rows
end Go.Proofs.YtcihhhkmekdbnaaGreatDoor
